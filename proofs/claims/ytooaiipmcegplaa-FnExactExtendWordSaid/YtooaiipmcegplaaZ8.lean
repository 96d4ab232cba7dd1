/- Contracts and what they lean on, part 8. Conditions: none. -/
import Derived.Tactics
import Derived.Tactics2
import Derived.Test.YtooaiipmcegplaaZ7
set_option maxRecDepth 100000
set_option maxHeartbeats 4000000
set_option linter.all false
open Nat renaming reduceLeDiff → xx0, reduceMul → xx1, reduceSub → xx2, reduceEqDiff → xx3, reduceAdd → xx4, reduceLT → xx5
open Int renaming reduceToNat → xx6, reduceNeg → xx7, reduceLE → xx8, reduceLT → xx9
namespace Go.Ab
def sgn (j:Nat):Int:=if j % 2=0 then 1 else -1
theorem sgn_succ {j:Nat}:sgn (j+1)=- sgn j:=by
  unfold sgn
  split <;> split <;> omega
def skp (j k:Nat):Nat:=if k<j then k else k+1
def sumN:Nat→(Nat→Int)→Int
  | 0,_=>0
  | n+1,f=>sumN n f+f n
theorem sumN_congr {f g:Nat→Int}:∀ {n:Nat},(∀ i<n,f i=g i)→sumN n f=sumN n g
  | 0,_=>rfl
  | n+1,h=>by
    show sumN n f+f n=sumN n g+g n
    rw [sumN_congr fun i hi=>h i (by omega),h n (by omega)]
theorem sumN_zero {f:Nat→Int}:∀ {n:Nat},(∀ i<n,f i=0)→sumN n f=0
  | 0,_=>rfl
  | n+1,h=>by
    show sumN n f+f n=0
    rw [sumN_zero fun i hi=>h i (by omega),h n (by omega)];rfl
theorem sumN_lin {a b:Int} {f g:Nat→Int}:∀ {n:Nat},sumN n (fun i=>a * f i+b * g i)=a * sumN n f+b * sumN n g
  | 0=>by simp [sumN]
  | n+1=>by
    show sumN n (fun i=>a * f i+b * g i)+(a * f n+b * g n)=a * (sumN n f+f n)+b * (sumN n g+g n)
    rw [sumN_lin];grind
theorem sumN_add {f g:Nat→Int} {n:Nat}:sumN n (fun i=>f i+g i)=sumN n f+sumN n g:=by
  have:=sumN_lin (a:=1) (b:=1) (f:=f) (g:=g) (n:=n)
  simpa using this
theorem sumN_mul {a:Int} {f:Nat→Int} {n:Nat}:sumN n (fun i=>a * f i)=a * sumN n f:=by
  have:=sumN_lin (a:=a) (b:=0) (f:=f) (g:=f) (n:=n)
  simpa using this
def det:Nat→(Nat→Nat→Int)→Int
  | 0,_=>1
  | n+1,A=>sumN (n+1) fun j=>sgn j * A 0 j * det n fun i k=>A (i+1) (skp j k)
theorem skp_lt {j k n:Nat} (hk:k<n) (hj:j<n+1):skp j k<n+1:=by unfold skp;split <;> omega
theorem det_congr:∀ {n:Nat} {A B:Nat→Nat→Int},(∀ i<n,∀ j<n,A i j=B i j)→det n A=det n B
  | 0,_,_,_=>rfl
  | n+1,A,B,h=>by
    unfold det
    refine sumN_congr fun j hj=>?_
    rw [h 0 (by omega) j hj,det_congr fun i hi k hk=>h (i+1) (by omega) (skp j k) (skp_lt hk hj)]
theorem det_row:∀ {n r:Nat} {A B C:Nat→Nat→Int} {a b:Int},r<n→(∀ i<n,i≠r→∀ j<n,A i j=C i j∧B i j=C i j)→(∀ j<n,C r j=a * A r j+b * B r j)→det n C=a * det n A+b * det n B
  | n+1,0,A,B,C,a,b,_,h,hr=>by
    unfold det
    rw [← sumN_lin]
    refine sumN_congr fun j hj=>?_
    rw [hr j hj,det_congr (A:=fun i k=>C (i+1) (skp j k)) (B:=fun i k=>A (i+1) (skp j k)) fun i hi k hk=>((h (i+1) (by omega) (by omega) _ (skp_lt hk hj)).1).symm,
      det_congr (A:=fun i k=>B (i+1) (skp j k)) (B:=fun i k=>A (i+1) (skp j k)) fun i hi k hk=>by have:=h (i+1) (by omega) (by omega) _ (skp_lt hk hj);rw [this.1,this.2]]
    grind
  | n+1,r+1,A,B,C,a,b,hlt,h,hr=>by
    unfold det
    rw [← sumN_lin]
    refine sumN_congr fun j hj=>?_
    have h0:=h 0 (by omega) (by omega) j hj
    rw [det_row (n:=n) (r:=r) (A:=fun i k=>A (i+1) (skp j k)) (B:=fun i k=>B (i+1) (skp j k)) (C:=fun i k=>C (i+1) (skp j k)) (a:=a) (b:=b) (by omega)
      (fun i hi hne k hk=>h (i+1) (by omega) (by omega) _ (skp_lt hk hj)) (fun k hk=>hr _ (skp_lt hk hj)),h0.1,h0.2]
    grind
theorem pair_sum {T:Nat→Nat→Int}:∀ N,sumN (N+1) (fun j=>sumN N fun k=>T j k)=sumN (N+1) fun j=>sumN j fun k=>T j k+T k (j - 1)
  | 0=>rfl
  | N+1=>by
    have ih:=pair_sum (T:=T) N
    have e1:sumN (N+1) (fun j=>sumN (N+1) fun k=>T j k)=sumN (N+1) (fun j=>sumN N fun k=>T j k)+sumN (N+1) fun j=>T j N:=by
      rw [← sumN_add];rfl
    show sumN (N+1) (fun j=>sumN (N+1) fun k=>T j k)+sumN (N+1) (fun k=>T (N+1) k)=sumN (N+1) (fun j=>sumN j fun k=>T j k+T k (j - 1))+sumN (N+1) fun k=>T (N+1) k+T k (N+1 - 1)
    rw [e1,ih,sumN_add (f:=fun k=>T (N+1) k),Nat.add_sub_cancel]
    omega
theorem skp_skp {j k l:Nat} (h:k<j):skp j (skp k l)=skp k (skp (j - 1) l):=by
  unfold skp
  split <;> split <;> split <;> (try split) <;> omega
theorem det_two {n:Nat} {A:Nat→Nat→Int} (h:∀ j<n+2,A 0 j=A 1 j):det (n+2) A=0:=by
  have e:det (n+2) A=sumN (n+2) fun j=>sumN (n+1) fun k=>sgn j * A 0 j * (sgn k * A 1 (skp j k) * det n fun i l=>A (i+2) (skp j (skp k l))):=by
    show sumN (n+2) _=_
    refine sumN_congr fun j hj=>?_
    show sgn j * A 0 j * sumN (n+1) _=_
    exact sumN_mul.symm
  rw [e,pair_sum (T:=fun j k=>sgn j * A 0 j * (sgn k * A 1 (skp j k) * det n fun i l=>A (i+2) (skp j (skp k l)))) (n+1)]
  refine sumN_zero fun j hj=>sumN_zero fun k hk=>?_
  obtain ⟨q,rfl⟩:∃ q,j=q+1:=⟨j - 1,by omega⟩
  have s1:skp (q+1) k=k:=by unfold skp;rw [if_pos hk]
  have s2:skp k (q+1 - 1)=q+1:=by unfold skp;rw [Nat.add_sub_cancel,if_neg (by omega)]
  have s3:(fun i l=>A (i+2) (skp k (skp (q+1 - 1) l)))=fun i l=>A (i+2) (skp (q+1) (skp k l)):=by
    funext i l;rw [skp_skp hk]
  rw [s1,s2,s3,h k (by omega),← h (q+1) hj,sgn_succ,Nat.add_sub_cancel]
  generalize det n _=d
  grind
theorem det_next:∀ {n r:Nat} {A:Nat→Nat→Int},r+1<n→(∀ j<n,A r j=A (r+1) j)→det n A=0
  | n+2,0,A,_,h=>det_two h
  | n+1,r+1,A,hr,h=>by
    unfold det
    refine sumN_zero fun j hj=>?_
    rw [det_next (n:=n) (r:=r) (A:=fun i k=>A (i+1) (skp j k)) (by omega) fun k hk=>h _ (skp_lt hk hj),Int.mul_zero]
  | 0,_,_,h,_=>by omega
  | 1,0,_,h,_=>by omega
theorem dt_swap {n r:Nat} {A:Nat→Nat→Int} (hr:r+1<n):det n (fun i j=>A (if i=r then r+1 else if i=r+1 then r else i) j)=- det n A:=by
  have z:=det_next (n:=n) (r:=r) (A:=fun i j=>if i=r∨i=r+1 then A r j+A (r+1) j else A i j) hr (fun j _=>by simp)
  have e1:=det_row (n:=n) (r:=r) (A:=fun i j=>if i=r then A r j else if i=r+1 then A r j+A (r+1) j else A i j) (B:=fun i j=>if i=r then A (r+1) j else if i=r+1 then A r j+A (r+1) j else A i j)
    (C:=fun i j=>if i=r∨i=r+1 then A r j+A (r+1) j else A i j) (a:=1) (b:=1) (by omega) (fun i _ hne j _=>by simp [hne]) (fun j _=>by simp)
  have e2:=det_row (n:=n) (r:=r+1) (A:=fun i j=>if i=r then A r j else if i=r+1 then A r j else A i j) (B:=A)
    (C:=fun i j=>if i=r then A r j else if i=r+1 then A r j+A (r+1) j else A i j) (a:=1) (b:=1) hr (fun i _ hne j _=>by by_cases h:i=r <;> simp [h,hne]) (fun j _=>by simp)
  have e3:=det_row (n:=n) (r:=r+1) (A:=fun i j=>A (if i=r then r+1 else if i=r+1 then r else i) j) (B:=fun i j=>if i=r then A (r+1) j else if i=r+1 then A (r+1) j else A i j)
    (C:=fun i j=>if i=r then A (r+1) j else if i=r+1 then A r j+A (r+1) j else A i j) (a:=1) (b:=1) hr (fun i _ hne j _=>by by_cases h:i=r <;> simp [h,hne]) (fun j _=>by simp)
  have z1:=det_next (n:=n) (r:=r) (A:=fun i j=>if i=r then A r j else if i=r+1 then A r j else A i j) hr (fun j _=>by simp)
  have z2:=det_next (n:=n) (r:=r) (A:=fun i j=>if i=r then A (r+1) j else if i=r+1 then A (r+1) j else A i j) hr (fun j _=>by simp)
  omega
theorem det_eq0:∀ {r n:Nat} {A:Nat→Nat→Int},r+1<n→(∀ j<n,A 0 j=A (r+1) j)→det n A=0
  | 0,n,A,hr,h=>det_next hr h
  | r+1,n,A,hr,h=>by
    have e:=dt_swap (n:=n) (r:=r+1) (A:=A) hr
    rw [det_eq0 (r:=r) (n:=n) (A:=fun i j=>A (if i=r+1 then r+1+1 else if i=r+1+1 then r+1 else i) j) (by omega) (fun j hj=>by simpa using h j hj)] at e
    omega
theorem det_addrow {n r:Nat} {A C:Nat→Nat→Int} {a b:Int} (hr:r+1<n) (h:∀ i<n,i≠r+1→∀ j<n,C i j=A i j) (hc:∀ j<n,C (r+1) j=a * A (r+1) j+b * A 0 j):det n C=a * det n A:=by
  have e:=det_row (n:=n) (r:=r+1) (A:=A) (B:=fun i j=>if i=r+1 then A 0 j else A i j) (C:=C) (a:=a) (b:=b) hr (fun i hi hne j hj=>⟨(h i hi hne j hj).symm,by rw [if_neg hne];exact (h i hi hne j hj).symm⟩) (fun j hj=>by rw [hc j hj,if_pos rfl])
  rw [det_eq0 (r:=r) (n:=n) (A:=fun i j=>if i=r+1 then A 0 j else A i j) hr (fun j _=>by simp)] at e
  rw [e,Int.mul_zero,Int.add_zero]
theorem det_col0:∀ {n:Nat} {A:Nat→Nat→Int},(∀ i<n+1,A i 0=0)→det (n+1) A=0
  | 0,A,h=>by
    show sumN 1 _=0
    refine sumN_zero fun j hj=>?_
    obtain rfl:j=0:=by omega
    rw [h 0 (by omega)];simp
  | n+1,A,h=>by
    show sumN (n+2) _=0
    refine sumN_zero fun j hj=>?_
    by_cases e:j=0
    · subst e;rw [h 0 (by omega)];simp
    · rw [det_col0 (n:=n) (A:=fun i k=>A (i+1) (skp j k)) fun i hi=>by
        show A (i+1) (skp j 0)=0
        have:skp j 0=0:=by unfold skp;rw [if_pos (by omega)]
        rw [this];exact h (i+1) (by omega),Int.mul_zero]
theorem det_first {n:Nat} {E:Nat→Nat→Int} (h:∀ j<n+1,j≠0→det n (fun i k=>E (i+1) (skp j k))=0):det (n+1) E=E 0 0 * det n fun i k=>E (i+1) (skp 0 k):=by
  have key:∀ m,m≤n→sumN (m+1) (fun j=>sgn j * E 0 j * det n fun i k=>E (i+1) (skp j k))=E 0 0 * det n fun i k=>E (i+1) (skp 0 k):=fun m=>by
    induction m with
    | zero =>
      intro _
      show 0+sgn 0 * E 0 0 * (det n fun i k=>E (i+1) (skp 0 k))=_
      simp [sgn]
    | succ m ih =>
      intro hm
      show sumN (m+1) _+sgn (m+1) * E 0 (m+1) * (det n fun i k=>E (i+1) (skp (m+1) k))=_
      rw [ih (by omega),h (m+1) (by omega) (by omega),Int.mul_zero,Int.add_zero]
  exact key n (Nat.le_refl _)
def chio (A:Nat→Nat→Int) (i j:Nat):Int:=A 0 0 * A (i+1) (j+1) - A (i+1) 0 * A 0 (j+1)
theorem det_chio {n:Nat} {A:Nat→Nat→Int}:A 0 0 ^ n * det (n+1) A=A 0 0 * det n (chio A):=by
  have step:∀ m,m≤n→det (n+1) (fun i j=>if i=0∨m<i then A i j else A 0 0 * A i j - A i 0 * A 0 j)=A 0 0 ^ m * det (n+1) A:=fun m=>by
    induction m with
    | zero =>
      intro _
      rw [Int.pow_zero,Int.one_mul]
      refine det_congr fun i _ j _=>?_
      by_cases h:i=0
      · rw [if_pos (.inl h)]
      · rw [if_pos (.inr (by omega))]
    | succ m ih =>
      intro hm
      rw [Int.pow_succ,Int.mul_comm (A 0 0 ^ m),Int.mul_assoc,← ih (by omega)]
      refine det_addrow (r:=m) (b:=- A (m+1) 0) (by omega) (fun i _ hne j _=>?_) (fun j _=>?_)
      · by_cases h:i=0
        · rw [if_pos (.inl h),if_pos (.inl h)]
        · by_cases h2:m<i
          · rw [if_pos (.inr (by omega)),if_pos (.inr h2)]
          · rw [if_neg (by omega),if_neg (by omega)]
      · rw [if_neg (by omega),if_pos (.inr (by omega)),if_pos (.inl rfl)]
        grind
  rw [← step n (Nat.le_refl _),det_first fun j hj hne=>?_]
  · rw [if_pos (.inl rfl)]
    congr 1
    refine det_congr fun i hi k hk=>?_
    have:skp 0 k=k+1:=by unfold skp;rw [if_neg (by omega)]
    rw [this,if_neg (by omega)];rfl
  · obtain ⟨q,rfl⟩:∃ q,n=q+1:=⟨n - 1,by omega⟩
    refine det_col0 fun i hi=>?_
    have:skp j 0=0:=by unfold skp;rw [if_pos (by omega)]
    rw [this,if_neg (by omega)]
    grind
end Go.Ab
namespace Go.Ab
def bd (A:Nat→Nat→Int) (k i j:Nat):Int:=det (k+1) fun a b=>A (if a<k then a else i) (if b<k then b else j)
theorem bd_zero {A:Nat→Nat→Int} {i j:Nat}:bd A 0 i j=A i j:=by
  show 0+sgn 0 * A _ _ * 1=_
  simp [sgn]
theorem bd_chio {A:Nat→Nat→Int} {k i j:Nat} (h:A 0 0≠0):A 0 0 ^ k * bd A (k+1) (i+1) (j+1)=bd (chio A) k i j:=by
  have e:=det_chio (n:=k+1) (A:=fun a b=>A (if a<k+1 then a else i+1) (if b<k+1 then b else j+1))
  rw [if_pos (show 0<k+1 by omega),if_pos (show 0<k+1 by omega)] at e
  have e2:det (k+1) (chio fun a b=>A (if a<k+1 then a else i+1) (if b<k+1 then b else j+1))=bd (chio A) k i j:=by
    unfold bd
    refine det_congr fun a ha b hb=>?_
    unfold chio
    show A (if 0<k+1 then 0 else i+1) (if 0<k+1 then 0 else j+1) * A (if a+1<k+1 then a+1 else i+1) (if b+1<k+1 then b+1 else j+1) - A (if a+1<k+1 then a+1 else i+1) (if 0<k+1 then 0 else j+1) * A (if 0<k+1 then 0 else i+1) (if b+1<k+1 then b+1 else j+1)=_
    rw [if_pos (show 0<k+1 by omega),if_pos (show 0<k+1 by omega)]
    by_cases h1:a<k <;> by_cases h2:b<k
    · rw [if_pos (by omega),if_pos (by omega),if_pos h1,if_pos h2]
    · rw [if_pos (by omega),if_neg (by omega),if_pos h1,if_neg h2]
    · rw [if_neg (by omega),if_pos (by omega),if_neg h1,if_pos h2]
    · rw [if_neg (by omega),if_neg (by omega),if_neg h1,if_neg h2]
  rw [e2,Int.pow_succ,Int.mul_comm (A 0 0 ^ k),Int.mul_assoc] at e
  exact Int.eq_of_mul_eq_mul_left h e
def lead (A:Nat→Nat→Int):Nat→Int
  | 0=>1
  | k+1=>bd A k k k
theorem lead_chio {A:Nat→Nat→Int} (h:A 0 0≠0):∀ k,A 0 0 * lead (chio A) k=A 0 0 ^ k * lead A (k+1)
  | 0=>by
    show A 0 0 * 1=A 0 0 ^ 0 * bd A 0 0 0
    rw [bd_zero,Int.pow_zero];omega
  | k+1=>by
    show A 0 0 * bd (chio A) k k k=A 0 0 ^ (k+1) * bd A (k+1) (k+1) (k+1)
    rw [← bd_chio h,Int.pow_succ];grind
theorem det_2 {X:Nat→Nat→Int}:det 2 X=X 0 0 * X 1 1 - X 0 1 * X 1 0:=by
  show 0+sgn 0 * X 0 0 * (0+sgn 0 * X 1 (skp 0 0) * 1)+sgn 1 * X 0 1 * (0+sgn 0 * X 1 (skp 1 0) * 1)=_
  simp only [sgn,skp]
  grind
theorem sylvester:∀ (k:Nat) {A:Nat→Nat→Int},(∀ m<k,bd A m m m≠0)→∀ i j,k<i→k<j→lead A k * bd A (k+1) i j=bd A k k k * bd A k i j - bd A k i k * bd A k k j
  | 0,A,_,i,j,hi,hj=>by
    rw [bd_zero,bd_zero,bd_zero,bd_zero]
    show 1 * det 2 _=_
    rw [det_2]
    simp only [Nat.lt_irrefl,if_false,Nat.zero_lt_one,if_true]
    grind
  | k+1,A,h,i,j,hi,hj=>by
    obtain ⟨i,rfl⟩:∃ q,i=q+1:=⟨i - 1,by omega⟩
    obtain ⟨j,rfl⟩:∃ q,j=q+1:=⟨j - 1,by omega⟩
    have hp:A 0 0≠0:=by
      have:=h 0 (by omega)
      rwa [bd_zero] at this
    have ih:=sylvester k (A:=chio A) (fun m hm=>by
      rw [← bd_chio hp]
      exact Int.mul_ne_zero (Int.pow_ne_zero hp) (h (m+1) (by omega))) i j (by omega) (by omega)
    rw [← bd_chio hp,← bd_chio hp,← bd_chio hp,← bd_chio hp,← bd_chio hp] at ih
    have hl:=lead_chio hp k
    have hq:A 0 0 ^ k≠0:=Int.pow_ne_zero hp
    rw [Int.pow_succ] at ih
    generalize lead (chio A) k=x at ih hl
    generalize lead A (k+1)=y at hl ⊢
    generalize bd A (k+1+1) (i+1) (j+1)=z at ih ⊢
    generalize bd A (k+1) (k+1) (k+1)=a at ih ⊢
    generalize bd A (k+1) (i+1) (j+1)=b at ih ⊢
    generalize bd A (k+1) (i+1) (k+1)=c at ih ⊢
    generalize bd A (k+1) (k+1) (j+1)=d at ih ⊢
    generalize A 0 0 ^ k=q at ih hl hq
    generalize A 0 0=p at ih hl hp
    have e:(q * q) * (y * z)=(q * q) * (a * b - c * d):=by grind
    exact Int.eq_of_mul_eq_mul_left (Int.mul_ne_zero hq hq) e
def rsum (M:Nat→Nat→Int) (N k i:Nat):Int:=sumN (N - k) fun t=>M i (k+t)
inductive OutW (M:Nat→Nat→Int) (N k:Nat):Nat→Prop
  | pos {i:Nat}:0<rsum M N k i→OutW M N k i
  | go {i j:Nat}:k≤j→j<N→j≠i→M i j<0→OutW M N k j→OutW M N k i
structure ZM (M:Nat→Nat→Int) (N k:Nat) (p:Int):Prop where
  pp:0<p
  z1:∀ i j,k≤i→i<N→k≤j→j<N→i≠j→M i j≤0
  z2:∀ i,k≤i→i<N→0≤rsum M N k i
  z3:∀ i,k≤i→i<N→OutW M N k i
  z4:∀ i,k≤i→i<N→M i i≤3 * p
theorem sumN_le_one {f:Nat→Int}:∀ {n t:Nat},t<n→(∀ i<n,i≠t→f i≤0)→sumN n f≤f t
  | n+1,t,ht,h=>by
    show sumN n f+f n≤f t
    by_cases e:t=n
    · subst e
      have:sumN t f≤0:=by
        have:∀ m,m≤t→sumN m f≤0:=fun m=>by
          induction m with
          | zero=>intro _;exact Int.le_refl _
          | succ m ih =>
            intro hm
            show sumN m f+f m≤0
            have:=ih (by omega)
            have:=h m (by omega) (by omega)
            omega
        exact this t (Nat.le_refl _)
      omega
    · have:=sumN_le_one (n:=n) (t:=t) (by omega) fun i hi hne=>h i (by omega) hne
      have:=h n (by omega) (by omega)
      omega
theorem sumN_le_two {f:Nat→Int} {n t u:Nat} (ht:t<n) (hu:u<n) (hne:u≠t) (h:∀ i<n,i≠t→f i≤0):sumN n f≤f t+f u:=by
  have:=sumN_le_one (f:=fun i=>if i=u then 0 else f i) (n:=n) (t:=t) ht fun i hi hn=>by
    split
    · exact Int.le_refl _
    · exact h i hi hn
  have e:∀ m,sumN m f=sumN m (fun i=>if i=u then 0 else f i)+if u<m then f u else 0:=fun m=>by
    induction m with
    | zero=>simp [sumN]
    | succ m ih =>
      show sumN m f+f m=(sumN m (fun i=>if i=u then 0 else f i)+if m=u then 0 else f m)+_
      rw [ih]
      by_cases h1:m=u
      · subst h1;simp
      · by_cases h2:u<m
        · rw [if_pos h2,if_neg h1,if_pos (by omega)];omega
        · rw [if_neg h2,if_neg h1,if_neg (by omega)];omega
  rw [e n,if_pos hu]
  simp only [Ne.symm hne,if_false] at this
  omega
theorem ZM.row_le {M:Nat→Nat→Int} {N k:Nat} {p:Int} (Z:ZM M N k p) {i j:Nat} (hi:k≤i) (hiN:i<N) (hj:k≤j) (hjN:j<N) (hne:j≠i):- M i j≤M i i:=by
  have h1:=Z.z2 i hi hiN
  have h2:=sumN_le_two (f:=fun t=>M i (k+t)) (n:=N - k) (t:=i - k) (u:=j - k) (by omega) (by omega) (by omega) fun t ht hn=>Z.z1 i (k+t) hi hiN (by omega) (by omega) (by omega)
  unfold rsum at h1
  rw [show k+(i - k)=i by omega,show k+(j - k)=j by omega] at h2
  omega
theorem ZM.diag {M:Nat→Nat→Int} {N k:Nat} {p:Int} (Z:ZM M N k p) {i:Nat} (hi:k≤i) (hiN:i<N):0<M i i:=by
  cases Z.z3 i hi hiN with
  | pos h =>
    have h2:=sumN_le_one (f:=fun t=>M i (k+t)) (n:=N - k) (t:=i - k) (by omega) fun t ht hn=>Z.z1 i (k+t) hi hiN (by omega) (by omega) (by omega)
    unfold rsum at h
    rw [show k+(i - k)=i by omega] at h2
    omega
  | go h1 h2 h3 h4 _ =>
    have:=Z.row_le hi hiN h1 h2 h3
    omega
theorem ZM.step {M M':Nat→Nat→Int} {N k:Nat} {p:Int} (Z:ZM M N k p) (hk:k<N) (h:∀ i j,k<i→i<N→k<j→j<N→p * M' i j=M k k * M i j - M i k * M k j):ZM M' N (k+1) (M k k):=by
  have hp:=Z.pp
  have hd:=Z.diag (Nat.le_refl k) hk
  have hik:∀ i,k<i→i<N→M i k≤0:=fun i h1 h2=>Z.z1 i k (by omega) h2 (Nat.le_refl _) hk (by omega)
  have hkj:∀ j,k<j→j<N→M k j≤0:=fun j h1 h2=>Z.z1 k j (Nat.le_refl _) hk (by omega) h2 (by omega)
  have neg:∀ x:Int,p * x≤0→x≤0:=fun x hx=>by
    rcases Int.lt_or_le 0 x with g | g
    · have:=Int.mul_pos hp g;omega
    · exact g
  have neg':∀ x:Int,p * x<0→x<0:=fun x hx=>by
    rcases Int.lt_or_le x 0 with g | g
    · exact g
    · have:=Int.mul_nonneg (Int.le_of_lt hp) g;omega
  have pos':∀ x:Int,0<p * x→0<x:=fun x hx=>by
    rcases Int.lt_or_le 0 x with g | g
    · exact g
    · have:=Int.mul_nonpos_of_nonneg_of_nonpos (Int.le_of_lt hp) g;omega
  have hprod:∀ i j,k<i→i<N→k<j→j<N→0≤M i k * M k j:=fun i j h1 h2 h3 h4=>Int.mul_nonneg_of_nonpos_of_nonpos (hik i h1 h2) (hkj j h3 h4)
  have hrs:∀ i,k<i→i<N→p * rsum M' N (k+1) i=M k k * rsum M N k i - M i k * rsum M N k k:=fun i h1 h2=>by
    have e:∀ x,rsum M N k x=M x k+sumN (N - (k+1)) fun t=>M x (k+1+t):=fun x=>by
      unfold rsum
      have g:∀ m,sumN (m+1) (fun t=>M x (k+t))=M x k+sumN m fun t=>M x (k+1+t):=fun m=>by
        induction m with
        | zero=>show 0+M x (k+0)=M x k+0;simp
        | succ m ih =>
          show sumN (m+1) _+M x (k+(m+1))=_
          rw [ih]
          show _=M x k+(sumN m _+M x (k+1+m))
          rw [show k+(m+1)=k+1+m by omega];omega
      rw [show N - k=N - (k+1)+1 by omega];exact g _
    rw [e i,e k]
    unfold rsum
    rw [← sumN_mul]
    have c:sumN (N - (k+1)) (fun t=>p * M' i (k+1+t))=sumN (N - (k+1)) fun t=>M k k * M i (k+1+t)+(- M i k) * M k (k+1+t):=sumN_congr fun t ht=>by
      rw [h i (k+1+t) h1 h2 (by omega) (by omega)];grind
    rw [c,sumN_lin]
    grind
  refine ⟨hd,fun i j h1 h2 h3 h4 hne=>?_,fun i h1 h2=>?_,fun i h1 h2=>?_,fun i h1 h2=>?_⟩
  · apply neg
    rw [h i j h1 h2 h3 h4]
    have:=Int.mul_nonpos_of_nonneg_of_nonpos (Int.le_of_lt hd) (Z.z1 i j (by omega) h2 (by omega) h4 hne)
    have:=hprod i j h1 h2 h3 h4
    omega
  · have e:=hrs i h1 h2
    have a:=Int.mul_nonneg (Int.le_of_lt hd) (Z.z2 i (by omega) h2)
    have b:=Int.mul_nonpos_of_nonpos_of_nonneg (hik i h1 h2) (Z.z2 k (Nat.le_refl _) hk)
    rcases Int.lt_or_le (rsum M' N (k+1) i) 0 with g | g
    · have:=Int.mul_neg_of_pos_of_neg hp g;omega
    · exact g
  · have key:∀ x,OutW M N k x→k≤x→x<N→(x≠k→OutW M' N (k+1) x)∧(x=k→∀ i,k<i→i<N→M i k<0→OutW M' N (k+1) i):=by
      intro x hx
      induction hx with
      | @pos x hr =>
        intro hx1 hx2
        refine ⟨fun hne=>.pos (pos' _ ?_),fun he i hi hiN hm=>.pos (pos' _ ?_)⟩
        · rw [hrs x (by omega) hx2]
          have a:=Int.mul_pos hd hr
          have b:=Int.mul_nonpos_of_nonpos_of_nonneg (hik x (by omega) hx2) (Z.z2 k (Nat.le_refl _) hk)
          omega
        · subst he
          rw [hrs i hi hiN]
          have a:=Int.mul_nonneg (Int.le_of_lt hd) (Z.z2 i (by omega) hiN)
          have b:=Int.mul_neg_of_neg_of_pos hm hr
          omega
      | @go x j hj1 hj2 hne hm _ ih =>
        intro hx1 hx2
        have ihj:=ih hj1 hj2
        refine ⟨fun hxk=>?_,fun he i hi hiN hmi=>?_⟩
        · by_cases e:j=k
          · subst e;exact ihj.2 rfl x (by omega) hx2 hm
          · refine .go (j:=j) (by omega) hj2 hne (neg' _ ?_) (ihj.1 e)
            rw [h x j (by omega) hx2 (by omega) hj2]
            have a:=Int.mul_neg_of_pos_of_neg hd hm
            have b:=hprod x j (by omega) hx2 (by omega) hj2
            omega
        · subst he
          by_cases e:j=i
          · subst e;exact ihj.1 (by omega)
          · refine .go (j:=j) (by omega) hj2 e (neg' _ ?_) (ihj.1 (by omega))
            rw [h i j hi hiN (by omega) hj2]
            have a:=Int.mul_nonpos_of_nonneg_of_nonpos (Int.le_of_lt hd) (Z.z1 i j (by omega) hiN (by omega) hj2 (by omega))
            have b:=Int.mul_pos_of_neg_of_neg hmi hm
            omega
    exact (key i (Z.z3 i (by omega) h2) (by omega) h2).1 (by omega)
  · have e:=h i i h1 h2 h1 h2
    have a:=hprod i i h1 h2 h1 h2
    have b:=Z.z4 i (by omega) h2
    rcases Int.lt_or_le (3 * M k k) (M' i i) with g | g
    · have c:=Int.mul_lt_mul_of_pos_left g hp
      have d:=Int.mul_le_mul_of_nonneg_left b (Int.le_of_lt hd)
      have f:M k k * (3 * p)=p * (3 * M k k):=by grind
      omega
    · exact g
end Go.Ab
namespace Go.Ab
theorem zm_all {A:Nat→Nat→Int} {N:Nat} (Z:ZM A N 0 1):∀ k,k≤N→ZM (bd A k) N k (lead A k)∧lead A k≤3 ^ k∧∀ m<k,bd A m m m≠0
  | 0,_=>by
    have e:bd A 0=A:=by funext i j;exact bd_zero
    rw [e]
    exact ⟨Z,by show (1:Int)≤3 ^ 0;simp,fun m hm=>by omega⟩
  | k+1,hk=>by
    obtain ⟨Zk,h1,h2⟩:=zm_all Z k (by omega)
    have hd:=Zk.diag (Nat.le_refl k) (by omega)
    have h4:=Zk.z4 k (Nat.le_refl k) (by omega)
    refine ⟨Zk.step (by omega) fun i j hi _ hj _=>sylvester k h2 i j hi hj,?_,fun m hm=>?_⟩
    · show bd A k k k≤3 ^ (k+1)
      rw [Int.pow_succ]
      generalize (3:Int) ^ k=q at h1 ⊢
      omega
    · by_cases e:m=k
      · subst e;omega
      · exact h2 m (by omega)
theorem lead_bd {A:Nat→Nat→Int} {N:Nat} (Z:ZM A N 0 1) (hN:N≤9) {k:Nat} (hk:k≤N):0<lead A k∧lead A k≤19683:=by
  obtain ⟨Zk,h1,_⟩:=zm_all Z k hk
  have h3:(3:Int) ^ k≤3 ^ 9:=by
    have:3 ^ k≤3 ^ 9:=Nat.pow_le_pow_right (by omega) (by omega)
    exact_mod_cast this
  exact ⟨Zk.pp,Int.le_trans h1 h3⟩
theorem bd_rg {A:Nat→Nat→Int} {N:Nat} (Z:ZM A N 0 1) (hN:N≤9) {k i j:Nat} (hi:k≤i) (hiN:i<N) (hj:k≤j) (hjN:j<N):-59049≤bd A k i j∧bd A k i j≤59049:=by
  obtain ⟨Zk,_,_⟩:=zm_all Z k (by omega)
  have hl:=lead_bd Z hN (k:=k) (by omega)
  have h4:=Zk.z4 i hi hiN
  by_cases e:j=i
  · subst e
    have:=Zk.diag hi hiN
    omega
  · have h1:=Zk.row_le hi hiN hj hjN e
    have h2:=Zk.z1 i j hi hiN hj hjN (Ne.symm e)
    omega
theorem bd_step {A:Nat→Nat→Int} {N:Nat} (Z:ZM A N 0 1) {k i j:Nat} (hi:k<i) (hiN:i<N) (hj:k<j) (hjN:j<N):(bd A k i j * bd A k k k - bd A k i k * bd A k k j).tdiv (lead A k)=bd A (k+1) i j:=by
  obtain ⟨Zk,_,h2⟩:=zm_all Z k (by omega)
  have hs:=sylvester k h2 i j hi hj
  have hl:=Zk.pp
  rw [Int.mul_comm (bd A k i j),← hs,Int.mul_tdiv_cancel_left _ (by omega)]
def lvl (k i j a b:Nat):Nat:=if k<a∧k<b∧(a<i∨(a=i∧b<j)) then k+1 else min k (min a b)
theorem lvl_row {k i N a b:Nat} (hb:b<N):lvl k i N a b=lvl k (i+1) (k+1) a b:=by
  unfold lvl
  by_cases h:k<a∧k<b∧(a<i∨(a=i∧b<N))
  · rw [if_pos h,if_pos (by omega)]
  · rw [if_neg h,if_neg (by omega)]
theorem lvl_end {k N a b:Nat} (ha:a<N):lvl k N (k+1) a b=lvl (k+1) (k+2) (k+2) a b:=by
  unfold lvl
  rw [if_neg (show ¬ (k+1<a∧k+1<b∧(a<k+2∨(a=k+2∧b<k+2))) by omega)]
  split <;> omega
theorem lvl_in {k i j:Nat} (hi:k<i) (hj:k<j):lvl k i j i j=k∧lvl k i j i k=k∧lvl k i j k k=k∧lvl k i j k j=k:=by
  unfold lvl
  refine ⟨?_,?_,?_,?_⟩ <;> rw [if_neg (by omega)] <;> omega
theorem lvl_next {k i j a b:Nat} (hi:k<i) (hj:k<j):lvl k i (j+1) a b=if a=i∧b=j then k+1 else lvl k i j a b:=by
  unfold lvl
  by_cases e:a=i∧b=j
  · rw [if_pos e,if_pos (by omega)]
  · rw [if_neg e]
    by_cases h:k<a∧k<b∧(a<i∨(a=i∧b<j))
    · rw [if_pos h,if_pos (by omega)]
    · rw [if_neg h,if_neg (by omega)]
def tabR (f:Nat→Int) (N:Nat):List Int:=(List.range N).map f
def tabM (f:Nat→Nat→Int) (N:Nat):List (List Int):=(List.range N).map fun a=>tabR (f a) N
theorem tabR_len {f:Nat→Int} {N:Nat}:(tabR f N).length=N:=by simp [tabR]
theorem tabM_len {f:Nat→Nat→Int} {N:Nat}:(tabM f N).length=N:=by simp [tabM]
theorem tabR_getD {f:Nat→Int} {N a:Nat} (h:a<N):(tabR f N).getD a 0=f a:=by
  unfold tabR
  rw [List.getD_eq_getElem?_getD,List.getElem?_map,List.getElem?_range h];rfl
theorem tabM_getD {f:Nat→Nat→Int} {N a:Nat} (h:a<N):(tabM f N).getD a []=tabR (f a) N:=by
  unfold tabM
  rw [List.getD_eq_getElem?_getD,List.getElem?_map,List.getElem?_range h];rfl
theorem tabR_set {f g:Nat→Int} {N j:Nat} {v:Int} (h:∀ b<N,g b=if b=j then v else f b):(tabR f N).set j v=tabR g N:=by
  refine List.ext_getElem (by simp [tabR]) fun b h1 h2=>?_
  have hb:b<N:=by simpa [tabR] using h2
  rw [List.getElem_set]
  simp only [tabR,List.getElem_map,List.getElem_range]
  rw [h b hb]
  by_cases e:j=b
  · subst e;simp
  · rw [if_neg e,if_neg (Ne.symm e)]
theorem tabR_congr {f g:Nat→Int} {N:Nat} (h:∀ b<N,f b=g b):tabR f N=tabR g N:=List.map_congr_left fun b hb=>h b (List.mem_range.1 hb)
theorem tabM_congr {f g:Nat→Nat→Int} {N:Nat} (h:∀ a<N,∀ b<N,f a b=g a b):tabM f N=tabM g N:=List.map_congr_left fun a ha=>tabR_congr fun b hb=>h a (List.mem_range.1 ha) b hb
theorem tabM_set {f g:Nat→Nat→Int} {N i:Nat} (h:∀ a<N,a≠i→∀ b<N,g a b=f a b):(tabM f N).set i (tabR (g i) N)=tabM g N:=by
  refine List.ext_getElem (by simp [tabM]) fun a h1 h2=>?_
  have ha:a<N:=by simpa [tabM] using h2
  rw [List.getElem_set]
  simp only [tabM,List.getElem_map,List.getElem_range]
  by_cases e:i=a
  · subst e;rw [if_pos rfl]
  · rw [if_neg e];exact tabR_congr fun b hb=>(h a ha (Ne.symm e) b hb).symm
theorem sumN_comm {f:Nat→Nat→Int} {m:Nat}:∀ {n:Nat},sumN n (fun i=>sumN m fun j=>f i j)=sumN m fun j=>sumN n fun i=>f i j
  | 0=>by
    show (0:Int)=_
    exact (sumN_zero fun _ _=>rfl).symm
  | n+1=>by
    show sumN n _+sumN m _=_
    rw [sumN_comm,← sumN_add];rfl
theorem sumN_delta {n t:Nat} (h:t<n):sumN n (fun j=>if j=t then (1:Int) else 0)=1:=by
  have key:∀ m,sumN m (fun j=>if j=t then (1:Int) else 0)=if t<m then 1 else 0:=fun m=>by
    induction m with
    | zero=>simp [sumN]
    | succ m ih =>
      show sumN m _+(if m=t then 1 else 0)=_
      rw [ih]
      by_cases h1:m=t
      · subst h1;simp
      · by_cases h2:t<m
        · rw [if_pos h2,if_neg h1,if_pos (by omega)];rfl
        · rw [if_neg h2,if_neg h1,if_neg (by omega)];rfl
  rw [key,if_pos h]
theorem sumN_skp {f:Nat→Int} {n w:Nat} (hw:w<n+1):sumN n (fun j=>f (skp w j))=sumN (n+1) f - f w:=by
  have key:∀ m,sumN m (fun j=>f (skp w j))=if w<m+1 then sumN (m+1) f - f w else sumN m f:=fun m=>by
    induction m with
    | zero =>
      by_cases h:w<0+1
      · obtain rfl:w=0:=by omega
        rw [if_pos h]
        show (0:Int)=0+f 0 - f 0
        omega
      · rw [if_neg h];rfl
    | succ m ih =>
      show sumN m _+f (skp w m)=_
      rw [ih]
      by_cases h1:w<m+1
      · rw [if_pos h1,if_pos (by omega),show skp w m=m+1 by unfold skp;rw [if_neg (by omega)]]
        show sumN (m+1) f - f w+f (m+1)=sumN (m+1) f+f (m+1) - f w
        omega
      · rw [if_neg h1,show skp w m=m by unfold skp;rw [if_pos (by omega)]]
        by_cases h2:w<m+1+1
        · obtain rfl:w=m+1:=by omega
          rw [if_pos h2]
          show sumN m f+f m=sumN m f+f m+f (m+1) - f (m+1)
          omega
        · rw [if_neg h2];rfl
  rw [key,if_pos hw]
def lapE (e:Nat→Nat→Nat) (L s t:Nat):Int:=sumN L fun x=>(if t=s then 1 else 0) - (if t=e x s then 1 else 0)
theorem lap_sum {e:Nat→Nat→Nat} {L n s:Nat} (hs:s<n) (he:∀ x<L,e x s<n):sumN n (lapE e L s)=0:=by
  show sumN n (fun t=>sumN L fun x=>(if t=s then (1:Int) else 0) - (if t=e x s then 1 else 0))=0
  rw [sumN_comm]
  refine sumN_zero fun x hx=>?_
  have h1:=sumN_lin (a:=1) (b:=-1) (f:=fun t=>if t=s then (1:Int) else 0) (g:=fun t=>if t=e x s then (1:Int) else 0) (n:=n)
  rw [sumN_delta hs,sumN_delta (he x hx)] at h1
  rw [show (fun t=>(if t=s then (1:Int) else 0) - (if t=e x s then 1 else 0))=fun t=>1 * (if t=s then (1:Int) else 0)+-1 * (if t=e x s then (1:Int) else 0) by funext t;omega,h1]
  rfl
theorem lap_off {e:Nat→Nat→Nat} {s t:Nat} (h:t≠s):∀ {L:Nat},lapE e L s t≤0
  | 0=>Int.le_refl _
  | L+1=>by
    show lapE e L s t+((if t=s then 1 else 0) - (if t=e L s then 1 else 0))≤0
    have:=lap_off h (e:=e) (L:=L)
    rw [if_neg h]
    split <;> omega
theorem lap_edge {e:Nat→Nat→Nat} {s t x:Nat} (h:t≠s):∀ {L:Nat},x<L→e x s=t→lapE e L s t<0
  | L+1,hx,he=>by
    show lapE e L s t+((if t=s then 1 else 0) - (if t=e L s then 1 else 0))<0
    rw [if_neg h]
    by_cases g:x=L
    · subst g
      have:=lap_off h (e:=e) (L:=x)
      rw [if_pos he.symm];omega
    · have:=lap_edge h (L:=L) (by omega) he
      split <;> omega
theorem lap_diag {e:Nat→Nat→Nat} {s:Nat}:∀ {L:Nat},lapE e L s s≤L
  | 0=>Int.le_refl _
  | L+1=>by
    show lapE e L s s+((if s=s then 1 else 0) - (if s=e L s then 1 else 0))≤_
    have:=lap_diag (e:=e) (s:=s) (L:=L)
    rw [if_pos rfl]
    split <;> omega
def redM (e:Nat→Nat→Nat) (L w i j:Nat):Int:=lapE e L (skp w i) (skp w j)
inductive WayE (e:Nat→Nat→Nat) (L:Nat):Nat→Nat→Prop
  | here {s:Nat}:WayE e L s s
  | go {s t x:Nat}:x<L→WayE e L (e x s) t→WayE e L s t
theorem skp_inj {w i j:Nat} (h:skp w i=skp w j):i=j:=by unfold skp at h;split at h <;> split at h <;> omega
theorem skp_ne {w i:Nat}:skp w i≠w:=by unfold skp;split <;> omega
theorem skp_of {w t n:Nat} (ht:t<n+1) (hne:t≠w) (hw:w<n+1):∃ i,i<n∧skp w i=t:=by
  by_cases h:t<w
  · exact ⟨t,by omega,by unfold skp;rw [if_pos h]⟩
  · exact ⟨t - 1,by omega,by unfold skp;rw [if_neg (by omega)];omega⟩
theorem red_zm {e:Nat→Nat→Nat} {L n w:Nat} (hL:L≤3) (hw:w<n+1) (he:∀ x<L,∀ s<n+1,e x s<n+1) (hc:∀ s<n+1,WayE e L s w):ZM (redM e L w) n 0 1:=by
  have hsk:∀ i,i<n→skp w i<n+1:=fun i hi=>skp_lt hi hw
  have hrs:∀ i,i<n→rsum (redM e L w) n 0 i=- lapE e L (skp w i) w:=fun i hi=>by
    unfold rsum redM
    rw [Nat.sub_zero,show (fun t=>lapE e L (skp w i) (skp w (0+t)))=fun t=>lapE e L (skp w i) (skp w t) by funext t;rw [Nat.zero_add],sumN_skp hw,lap_sum (hsk i hi) fun x hx=>he x hx _ (hsk i hi)]
    omega
  refine ⟨by omega,fun i j _ hi _ hj hne=>lap_off fun h=>hne (skp_inj h).symm,fun i _ hi=>?_,fun i _ hi=>?_,fun i _ hi=>?_⟩
  · rw [hrs i hi]
    have:=lap_off (e:=e) (L:=L) (s:=skp w i) (t:=w) (Ne.symm skp_ne)
    omega
  · have key:∀ s t,WayE e L s t→t=w→s<n+1→∀ i,i<n→skp w i=s→OutW (redM e L w) n 0 i:=by
      intro s t hway
      induction hway with
      | here=>intro ht _ i _ hsi;exact absurd (hsi.trans ht) skp_ne
      | @go s t x hx _ ih =>
        intro ht hs i hi hsi
        have hes:=he x hx s hs
        by_cases h1:e x s=w
        · refine .pos ?_
          rw [hrs i hi,hsi]
          have:=lap_edge (e:=e) (L:=L) (s:=s) (t:=w) (x:=x) (fun h=>skp_ne (hsi.trans h.symm)) hx h1
          omega
        · by_cases h2:e x s=s
          · rw [h2] at ih
            exact ih ht hs i hi hsi
          · obtain ⟨j,hj,hje⟩:=skp_of hes h1 hw
            refine .go (j:=j) (Nat.zero_le _) hj (fun h=>h2 (by rw [← hje,h,hsi])) ?_ (ih ht hes j hj hje)
            show lapE e L (skp w i) (skp w j)<0
            rw [hsi,hje]
            exact lap_edge h2 hx rfl
    exact key _ _ (hc _ (hsk i hi)) rfl (hsk i hi) i hi rfl
  · have:=lap_diag (e:=e) (s:=skp w i) (L:=L)
    show lapE e L (skp w i) (skp w i)≤3 * 1
    omega
end Go.Ab
namespace Go.Ab
open Go Go.Proofs Go.Sort
theorem ti_int:∃ ti:TypeInfo,Try.prog.info? 2=some ti∧ti.size=1:=by
  have h:(Try.prog.info? 2).map (·.size)=some 1:=by kernel_rfl
  cases e:Try.prog.info? 2 with
  | none=>rw [e] at h;cases h
  | some ti=>rw [e] at h;exact ⟨ti,rfl,by simpa using h⟩
theorem k_Delete (zs:List Int) (w:Nat) (hw:w<zs.length):Con Try.prog nz4k [.row 0 1 true (ints zs)] [.own 5000 0,iv (w:Int),iv ((w+1:Nat):Int)] false
    fun outs rows res=>∃ v,outs=[.row v 1 true (ints (zs.eraseIdx w))]∧rows=[]∧res=.own 5000 v:=by
  have hz:zs≠[]:=fun e=>by rw [e] at hw;simp at hw
  refine Con.mono (con_inrowVc x_slices_Delete_LI (ints zs) (by simpa using hz) [iv (w:Int),iv ((w+1:Nat):Int)] false
    (fun cs' k=>k=zs.length - 1∧cs'=ints (zs.eraseIdx w ++ [0])) ?_ ?_ true) ?_
  · rintro _ cs' k ⟨_,rfl⟩ A hA
    simp only [List.mem_map] at hA
    obtain ⟨y,_,rfl⟩:=hA
    exact ⟨_,rfl⟩
  · intro c us L g off cap hu hL himm hlt hH hg hm hcap hcm
    match us,hu with
    | [a,b],hu =>
    simp only [RepL,Rep,and_true] at hu
    obtain ⟨rfl,rfl⟩:=hu
    have hLe:=repL_ints_eqK (κ:=.i64) hL
    subst hLe
    rw [List.length_map] at hm hcap ⊢
    have hmm:=maxLen_le
    obtain ⟨ti,hti,hts⟩:=ti_int
    refine (AnyE.slices_Delete Try.ldelete (Value.int .i64) (fun x=>rfl) 0 Try.zeroValue2 ti hti hts g off cap w (w+1) zs.toArray c.w (fun j hj=>?_) (by simpa using hcap) (by omega) (by omega) (by rw [List.size_toArray];omega)).mono ?_
    · have hj2:j<zs.length:=by simpa using hj
      have:=hH j (by rw [List.length_map];exact hj2)
      rw [List.getElem_map] at this
      rw [getElem!_pos _ j hj]
      simpa using this
    · rintro e w' ⟨he,q,hw'⟩
      have hel:(zs.eraseIdx w).length=zs.length - 1:=List.length_eraseIdx_of_lt hw
      have heq:zs.toArray.toList.take w ++ zs.toArray.toList.drop (w+1) ++ List.replicate (w+1 - w) 0=zs.eraseIdx w ++ [0]:=by
        rw [List.eraseIdx_eq_take_drop_succ,show w+1 - w=1 by omega];rfl
      rw [heq] at hw'
      refine ⟨_,(zs.eraseIdx w ++ [0]).map (Value.int .i64),_,⟨rfl,rfl⟩,by rw [List.length_map,List.length_append,hel,List.length_singleton];omega,repL_intsK,by omega,?_,q,#[],?_⟩
      · rw [he];congr 2;simp
      · rw [Sort.grow_empty,hw',putRow_map]
  · rintro outs rows res ⟨v,cs',k,⟨rfl,rfl⟩,rfl,rfl,rfl⟩
    refine ⟨v,?_,rfl,rfl⟩
    have hl:(zs.eraseIdx w).length=zs.length - 1:=List.length_eraseIdx_of_lt hw
    rw [intsK_take,← hl,List.take_left]
theorem call_delS {P:Program} {σ:St} {g:FuncId} {As args:List AVal} {d:Nat} {s:Nat→Nat} {K:St→Prop} {r v:Nat} {zs ys:List Int}
    (h:Con P g [.row 0 1 true (ints zs)] (.own 5000 0 :: args) false fun outs rows res=>∃ v,outs=[.row v 1 true (ints ys)]∧rows=[]∧res=.own 5000 v) (hr:σ.hp r=.row v 1 true (ints zs)) (hco:CoeL σ.hp [r] true args As)
    (hk:∀ u,(u=v∨∃ x,u=s x)→K (St.put ⟨σ.tm,upd σ.hp r (.row u 1 true (ints ys))⟩ (some d) (.own r u))):wpCall P false σ g (.own r v :: As) (some d) s K:=by
  refine .inl ⟨[r],_,_,false,_,h,⟨by simp,rfl,by simp,by simp [hr],?_⟩,?_,(fun e=>by cases e),?_⟩
  · intro j B r' hB hr'
    cases j with
    | succ j=>simp at hB
    | zero =>
      simp at hB hr';subst hB;subst hr'
      simp only [ObjCoe,hr]
      exact ⟨trivial,v,_,rfl,coeL_ints⟩
  · rw [yz8,coe_own0,hr];exact ⟨rfl,hco⟩
  · rintro outs rows res ⟨u,rfl,rfl,rfl⟩
    refine ⟨rfl,by simp,by simp,?_⟩
    have i0:rid [r] d 0 5000=some r:=rid_m (j:=0) (by omega) rfl
    rw [Option.getD_some,callHp_m]
    simp only [AObj.ren,AVal.ren,yz9,List.length_nil,i0]
    refine hk _ ?_
    unfold sv
    split
    · rename_i h1
      obtain rfl:u=0:=by simpa using h1
      left
      simp [hr]
    · exact .inr ⟨u,rfl⟩
end Go.Ab
namespace Go.Ab
open Go Go.Proofs
def tabC (f:Nat→Nat→Int) (c N:Nat):List (List Int):=(List.range c).map fun a=>tabR (f a) N
theorem tabC_snoc {f:Nat→Nat→Int} {c N:Nat}:tabC f (c+1) N=tabC f c N ++ [tabR (f c) N]:=by simp [tabC,List.range_succ]
theorem erase_tab {f:Nat→Int} {N w:Nat} (hw:w<N+1):(tabR f (N+1)).eraseIdx w=tabR (fun b=>f (skp w b)) N:=by
  have hl:((tabR f (N+1)).eraseIdx w).length=N:=by rw [List.length_eraseIdx_of_lt (by rw [tabR_len];exact hw),tabR_len];rfl
  refine List.ext_getElem (by rw [hl,tabR_len]) fun i h1 h2=>?_
  rw [List.getElem_eraseIdx]
  simp only [tabR,List.getElem_map,List.getElem_range]
  unfold skp
  split <;> rfl
theorem put_ints {us:List Int} {i:Nat} {v:Int} (h:i<us.length):List.take i (intsK .i64 us) ++ [AVal.val (.int .i64 v)] ++ List.drop (i+1) (intsK .i64 us)=ints (us.set i v):=by
  have e1:List.take i (intsK .i64 us)=intsK .i64 (us.take i):=by unfold intsK;rw [List.map_take]
  have e2:List.drop (i+1) (intsK .i64 us)=intsK .i64 (us.drop (i+1)):=by unfold intsK;rw [List.map_drop]
  rw [e1,e2]
  unfold intsK ints
  rw [List.set_eq_take_append_cons_drop,if_pos h,List.map_append,List.map_cons,List.append_assoc];rfl
def minM (M:Nat→Nat→Int) (w a b:Nat):Int:=M (skp w a) (skp w b)
theorem k_minor (M:Nat→Nat→Int) (N w:Nat) (hw:w<N+1) (hN:N≤9) (Z:ZM (minM M w) N 0 1) :
    Fun Try.prog nz46 [.ro none 1 (rwn (tabM M (N+1))),iv (w:Int)] (iv (lead (minM M w) N)):=by
  refine fun_of mixed czo7 rfl ⟨rfl,trivial⟩ ?_
  have hML:=maxLen_le
  generalize hQ:finQ _=Q
  simp only [Az93,Bzj7,yz2,yz1,go_sem,yz0,xx9,xx8,xx6,xx7,xx5,xx0,xx1,xx2,reduceIte,xx3,xx4,reduceCtorEq]
  intro vs0 U0 hN0 vs1 U1 hN1
  simp only [Bzj6,tabM_len,yz2,yz1,go_sem,yz0,xx9,xx8,xx6,xx7,xx5,xx0,xx1,xx2,reduceIte,xx3,xx4,reduceCtorEq]
  intro vs2 U2 hN2 hM1
  simp only [Bzir,yz2,yz1,go_sem,yz0,xx9,xx8,xx6,xx7,xx5,xx0,xx1,xx2,reduceIte,xx3,xx4,reduceCtorEq]
  refine wpD_lp (fun (x:Nat×Nat×List (Nat×List Int))=>N+1 - x.2.1) (fun x=>x.2.1≤N+1∧DJ x.2.2∧x.2.2.map (·.2)=tabC (minM M w) (if x.2.1≤w then x.2.1 else x.2.1 - 1) N)
    (fun (x:Nat×Nat×List (Nat×List Int))=>⟨L .any [(1,iv w),(5,.own 12 x.1),(13,.ro none 1 (rwn (tabM M (N+1)))),(14,iv ((N+1:Nat):Int)),(15,iv x.2.1)],
      L .gone [(12,.row x.1 1 true (rwp x.2.2)),(31,.gone),(5000,.gone),(5001,.gone),(901,.gone)]⟩)
    (vs1 0 0,0,[]) ⟨by simp,by simp [DJ],by simp [tabC]⟩ (by simp only [Bz2o,rwp_nil,go_sem,yz0,xx9,xx8,xx6,xx7,xx5,xx0,xx1,xx2,reduceIte,xx3,xx4,reduceCtorEq];try rfl) ?_
  rintro ⟨v5,i,ps⟩ ⟨hi,hdj,hps⟩
  have hi:i≤N+1:=hi
  have hdj:DJ ps:=hdj
  have hps:ps.map (·.2)=tabC (minM M w) (if i≤w then i else i - 1) N:=hps
  have hpl:ps.length=if i≤w then i else i - 1:=by
    have:=congrArg List.length hps
    simpa [tabC] using this
  have hpl2:ps.length≤10:=by rw [hpl];split <;> omega
  by_cases hlt:(i:Int)<((N+1:Nat):Int)
  · have hlt1:i<N+1:=by omega
    have wi:IntKind.i64.wrap ((i:Int)+1)=((i+1:Nat):Int):=by rw [w64 (by omega)];simp
    have hil:i<(tabM M (N+1)).length:=by rw [tabM_len];exact hlt1
    have hil2:i<(tabM M (N+1)).length:=hil
    rw [tabM_len] at hil2
    simp only [Bz2o,Bz8z,Bziq,rwn_getD hil,tabM_getD hlt1,decide_eq_true hlt,yz2,yz1,go_sem,yz0,xx9,xx8,xx6,xx7,xx5,xx0,xx1,xx2,reduceIte,xx3,xx4,reduceCtorEq]
    intro vs3 U3 hN3 vs4 U4 hN4
    rw [tabM_len]
    refine ⟨⟨by omega,hil2⟩,hil2,?_⟩
    simp only [Bzip,yz2,yz1,go_sem,yz0,xx9,xx8,xx6,xx7,xx5,xx0,xx1,xx2,reduceIte,xx3,xx4,reduceCtorEq]
    intro vs5 U5 hN5
    by_cases hiw:i=w
    · subst hiw
      simp only [Bz8x,Bz8y,bne_self_eq_false,wi,yz2,yz1,go_sem,yz0,xx9,xx8,xx6,xx7,xx5,xx0,xx1,xx2,reduceIte,xx3,xx4,reduceCtorEq]
      intro vs6 U6 hN6
      refine ⟨(v5,i+1,ps),by dsimp only;omega,⟨by dsimp only;omega,hdj,?_⟩,rfl⟩
      rw [hps,if_pos (Nat.le_refl _)]
      dsimp only
      rw [if_neg (by omega)];rfl
    · have hne:(((i:Nat):Int) != (w:Int))=true:=by rw [bne_iff_ne];omega
      have ww:IntKind.i64.wrap ((w:Int)+1)=((w+1:Nat):Int):=by rw [w64 (by omega)];simp
      simp only [Bz8x,hne,yz2,yz1,go_sem,yz0,xx9,xx8,xx6,xx7,xx5,xx0,xx1,xx2,reduceIte,xx3,xx4,reduceCtorEq]
      intro vs6 U6 hN6
      have hC:=k_Clone (tabR (M i) (N+1)) (by rw [tabR_len];omega)
      rw [show argN (tabR (M i) (N+1))=none by unfold argN;rw [if_neg (by rw [tabR_len];omega)]] at hC
      refine call_rowIs hC qCS rfl ⟨_,rfl⟩ ?_
      rintro ys vc rfl
      simp only [ww,go_sem,yz0,xx9,xx8,xx6,xx7,xx5,xx0,xx1,xx2,reduceIte,xx3,xx4,reduceCtorEq]
      refine call_delS (k_Delete (tabR (M i) (N+1)) w (by rw [tabR_len];exact hw)) rfl qCS ?_
      intro u hu
      rw [erase_tab hw]
      have hnu:¬ U6 u:=by
        rcases hu with rfl | ⟨x,rfl⟩
        · exact hN6.new _ _
        · exact hN6.new _ _
      have hU:=hN6.hp 12
      simp only [AObj.uses,go_sem,yz0,xx9,xx8,xx6,xx7,xx5,xx0,xx1,xx2,reduceIte,xx3,xx4,reduceCtorEq] at hU
      have hold:=usesL_rwp (rest:=[]) (by rw [List.append_nil];exact hU.2)
      have hsk:skp w (if i≤w then i else i - 1)=i:=by
        unfold skp
        by_cases h1:i≤w
        · rw [if_pos h1,if_pos (by omega)]
        · rw [if_neg h1,if_neg (by omega)];omega
      have hrow:tabR (fun b=>M i (skp w b)) N=tabR (minM M w (if i≤w then i else i - 1)) N:=by
        unfold minM;rw [hsk]
      have hN1:1≤N:=by omega
      rw [hrow]
      simp only [tabR_len,Bz8y,wi,rwp_snoc,yz2,yz1,go_sem,yz0,xx9,xx8,xx6,xx7,xx5,xx0,xx1,xx2,reduceIte,xx3,xx4,reduceCtorEq]
      refine ⟨by rw [rwp_len];omega,?_⟩
      intro vs7 U7 hN7
      refine ⟨(vs6 8 0,i+1,ps ++ [(u,tabR (minM M w (if i≤w then i else i - 1)) N)]),by dsimp only;omega,⟨by dsimp only;omega,hdj.snoc fun p hp=>?_,?_⟩,rfl⟩
      · rcases hold p hp with h | h
        · exact .inl h
        · exact .inr fun e=>hnu (e ▸ h)
      · dsimp only
        rw [List.map_append,hps,show (if i+1≤w then i+1 else i+1 - 1)=(if i≤w then i else i - 1)+1 by split <;> split <;> omega,tabC_snoc];rfl
  · obtain rfl:i=N+1:=by omega
    rw [if_neg (show ¬ N+1≤w by omega),Nat.add_sub_cancel] at hps hpl
    have hps:ps.map (·.2)=tabM (minM M w) N:=hps
    simp only [Bz2o,Bz8z,Bzj5,decide_eq_false hlt,yz2,yz1,go_sem,yz0,xx9,xx8,xx6,xx7,xx5,xx0,xx1,xx2,reduceIte,xx3,xx4,reduceCtorEq]
    intro vs3 U3 hN3 vs4 U4 hN4
    simp only [Bzj4,rwp_len,hpl,yz2,yz1,go_sem,yz0,xx9,xx8,xx6,xx7,xx5,xx0,xx1,xx2,reduceIte,xx3,xx4,reduceCtorEq]
    intro vs5 U5 hN5 hM5
    simp only [Bzj2,yz2,yz1,go_sem,yz0,xx9,xx8,xx6,xx7,xx5,xx0,xx1,xx2,reduceIte,xx3,xx4,reduceCtorEq]
    generalize minM M w=A at Z hps hQ ⊢
    have hps0:ps.map (·.2)=tabM (fun a b=>bd A (lvl 0 1 1 a b) a b) N:=by
      rw [hps]
      refine tabM_congr fun a _ b _=>?_
      have:lvl 0 1 1 a b=0:=by unfold lvl;rw [if_neg (by omega)];omega
      rw [this,bd_zero]
    refine wpD_lp (fun (x:Nat×Nat×List (Nat×List Int))=>N - x.2.1) (fun x=>x.2.1≤N∧DJ x.2.2∧x.2.2.map (·.2)=tabM (fun a b=>bd A (lvl x.2.1 (x.2.1+1) (x.2.1+1) a b) a b) N)
      (fun (x:Nat×Nat×List (Nat×List Int))=>⟨L .any [(5,.own 12 x.1),(8,iv (lead A x.2.1)),(34,iv N),(35,iv x.2.1)],
        L .gone [(12,.row x.1 1 true (rwp x.2.2)),(31,.gone),(5000,.gone),(5001,.gone),(901,.gone)]⟩)
      (v5,0,ps) ⟨Nat.zero_le _,hdj,hps0⟩ (by simp only [Bz2r,lead,go_sem,yz0,xx9,xx8,xx6,xx7,xx5,xx0,xx1,xx2,reduceIte,xx3,xx4,reduceCtorEq];try rfl) ?_
    clear hps hps0 hdj hpl hpl2
    rintro ⟨v5,k,ps⟩ ⟨hk,hdj,hps⟩
    have hk:k≤N:=hk
    have hdj:DJ ps:=hdj
    have hps:ps.map (·.2)=tabM (fun a b=>bd A (lvl k (k+1) (k+1) a b) a b) N:=hps
    have hpl:ps.length=N:=by
      have:=congrArg List.length hps
      simpa [tabM] using this
    by_cases hltk:(k:Int)<(N:Int)
    · have hk1:k<N:=by omega
      have wk:IntKind.i64.wrap ((k:Int)+1)=((k+1:Nat):Int):=by rw [w64 (by omega)];simp
      have hl0:=lead_bd Z hN hk
      simp only [Bz2r,Bz92,Bzj1,decide_eq_true hltk,yz2,yz1,go_sem,yz0,xx9,xx8,xx6,xx7,xx5,xx0,xx1,xx2,reduceIte,xx3,xx4,reduceCtorEq]
      intro vs6 U6 hN6 vs7 U7 hN7
      simp only [Bziz,Bzix,wk,yz2,yz1,go_sem,yz0,xx9,xx8,xx6,xx7,xx5,xx0,xx1,xx2,reduceIte,xx3,xx4,reduceCtorEq]
      intro vs8 U8 hN8
      refine wpD_lp (fun (x:Nat×Nat×List (Nat×List Int))=>N - x.2.1) (fun x=>k<x.2.1∧x.2.1≤N∧DJ x.2.2∧x.2.2.map (·.2)=tabM (fun a b=>bd A (lvl k x.2.1 (k+1) a b) a b) N)
        (fun (x:Nat×Nat×List (Nat×List Int))=>⟨L .any [(5,.own 12 x.1),(8,iv (lead A k)),(9,iv k),(10,iv x.2.1),(34,iv N),(35,iv k)],
          L .gone [(12,.row x.1 1 true (rwp x.2.2)),(31,.gone),(5000,.gone),(5001,.gone),(901,.gone)]⟩)
        (v5,k+1,ps) ⟨by dsimp only;omega,hk1,hdj,hps⟩ (by simp only [Bz2q,go_sem,yz0,xx9,xx8,xx6,xx7,xx5,xx0,xx1,xx2,reduceIte,xx3,xx4,reduceCtorEq];try rfl) ?_
      clear hps hdj hpl
      rintro ⟨v5,i,ps⟩ ⟨hki,hi,hdj,hps⟩
      have hki:k<i:=hki
      have hi:i≤N:=hi
      have hdj:DJ ps:=hdj
      have hps:ps.map (·.2)=tabM (fun a b=>bd A (lvl k i (k+1) a b) a b) N:=hps
      have hpl:ps.length=N:=by
        have:=congrArg List.length hps
        simpa [tabM] using this
      by_cases hlti:(i:Int)<(N:Int)
      · have hi1:i<N:=by omega
        have wi:IntKind.i64.wrap ((i:Int)+1)=((i+1:Nat):Int):=by rw [w64 (by omega)];simp
        obtain ⟨A2,b,C2,rfl,hAi⟩:=rwp_split (show i<ps.length by omega)
        have hb2:b.2=tabR (fun b=>bd A (lvl k i (k+1) i b) i b) N:=by
          have:=congrArg (fun l=>l.getD i []) hps
          rw [tabM_getD hi1,List.map_append,List.map_cons,List.getD_eq_getElem?_getD,List.getElem?_append_right (by rw [List.length_map];omega),List.length_map,hAi,Nat.sub_self] at this
          simpa using this
        have hbn:b.2≠[]:=fun e=>by
          have:=congrArg List.length hb2
          rw [e,tabR_len] at this
          simp at this;omega
        have F0a:=DJ_out hdj hbn
        have hAk:∃ nm,A2[k]?=some (nm,tabR (fun b=>bd A (lvl k i (k+1) k b) k b) N):=by
          have hkl:k<A2.length:=by omega
          have:=congrArg (fun l=>l.getD k []) hps
          rw [tabM_getD hk1,List.map_append,List.getD_eq_getElem?_getD,List.getElem?_append_left (by rw [List.length_map];omega),List.getElem?_map,List.getElem?_eq_getElem hkl] at this
          refine ⟨A2[k].1,?_⟩
          rw [List.getElem?_eq_getElem hkl]
          simp only [Option.map_some,Option.getD_some] at this
          rw [← this]
        obtain ⟨nmk,hAk⟩:=hAk
        simp only [rwp_len,Bz2q,Bz90,Bziw,hpl,decide_eq_true hlti,yz2,yz1,wpD_gh,go_sem,yz0,xx9,xx8,xx6,xx7,xx5,xx0,xx1,xx2,reduceIte,xx3,xx4,reduceCtorEq]
        intro vs9 U9 hN9 hM9
        intro _
        refine ⟨[.thaw 12 i 901],gwp_thaw (n:=b.1) rfl (rwp_get hAi.symm) (by simpa using hbn) rfl fun m1=>?_⟩
        have hset:(woL b.1 (rwp (A2 ++ b :: C2))).set i (AVal.own 901 m1)=rwp A2 ++ AVal.own 901 m1 :: rwp C2:=by rw [← hAi];exact woL_set F0a
        have ho1:(rwp A2 ++ AVal.own 901 m1 :: rwp C2).getD i .any=.own 901 m1:=own_at hAi.symm
        have hok:(rwp A2 ++ AVal.own 901 m1 :: rwp C2).getD k .any=.ro (some (some (nmk+1))) 1 (ints (tabR (fun b=>bd A (lvl k i (k+1) k b) k b) N)):=by
          rw [List.getD_eq_getElem?_getD,List.getElem?_append_left (by rw [rwp_len];omega)]
          unfold rwp
          rw [List.getElem?_map,hAk];rfl
        have hol:(rwp A2 ++ AVal.own 901 m1 :: rwp C2).length=N:=by
          rw [List.length_append,List.length_cons,rwp_len,rwp_len]
          rw [List.length_append,List.length_cons] at hpl
          exact hpl
        have hil:i<(rwp A2 ++ AVal.own 901 m1 :: rwp C2).length:=by omega
        have hkl:k<(rwp A2 ++ AVal.own 901 m1 :: rwp C2).length:=by omega
        simp only [hset,woT,woO,woL_cons,woL_nil,woV_val,woV_own,wo_ptr,wo_o,woL_ints,wo_st,woO_row,woO_box,woO_gone,wo_any,gwp_nil,wk,yz2,yz1,go_sem,yz0,xx9,xx8,xx6,xx7,xx5,xx0,xx1,xx2,reduceIte,xx3,xx4,reduceCtorEq]
        intro vs10 U10 hN10
        simp only [Bziu,yz2,yz1,go_sem,yz0,xx9,xx8,xx6,xx7,xx5,xx0,xx1,xx2,reduceIte,xx3,xx4,reduceCtorEq]
        rw [hb2]
        refine wpD_lp (fun (x:Nat)=>N - x) (fun x=>k<x∧x≤N)
          (fun (x:Nat)=>⟨L .any [(5,.own 12 v5),(8,iv (lead A k)),(9,iv k),(10,iv i),(11,iv x),(34,iv N),(35,iv k)],
            L .gone [(12,.row v5 1 true (rwp A2 ++ .own 901 m1 :: rwp C2)),(31,.gone),(5000,.gone),(5001,.gone),(901,.row m1 1 true (ints (tabR (fun b=>bd A (lvl k i x i b) i b) N)))]⟩)
          (k+1) ⟨by omega,hk1⟩ (by simp only [Bz2p,go_sem,yz0,xx9,xx8,xx6,xx7,xx5,xx0,xx1,xx2,reduceIte,xx3,xx4,reduceCtorEq];try rfl) ?_
        rintro j ⟨hkj,hj⟩
        by_cases hltj:(j:Int)<(N:Int)
        · have hj1:j<N:=by omega
          have wj:IntKind.i64.wrap ((j:Int)+1)=((j+1:Nat):Int):=by rw [w64 (by omega)];simp
          obtain ⟨l1,l2,l3,l4⟩:=lvl_in hki hkj
          have l3':lvl k i (k+1) k k=k:=by unfold lvl;rw [if_neg (by omega)];omega
          have l4':lvl k i (k+1) k j=k:=by unfold lvl;rw [if_neg (by omega)];omega
          have c1:=bd_rg Z hN (k:=k) (i:=i) (j:=j) (by omega) hi1 (by omega) hj1
          have c2:=bd_rg Z hN (k:=k) (i:=k) (j:=k) (Nat.le_refl k) hk1 (Nat.le_refl k) hk1
          have c3:=bd_rg Z hN (k:=k) (i:=i) (j:=k) (by omega) hi1 (Nat.le_refl k) hk1
          have c4:=bd_rg Z hN (k:=k) (i:=k) (j:=j) (Nat.le_refl k) hk1 (by omega) hj1
          have hst:=bd_step Z hki hi1 hkj hj1
          have g1:(tabR (fun b=>bd A (lvl k i j i b) i b) N).getD j 0=bd A k i j:=by rw [tabR_getD hj1,l1]
          have g2:(tabR (fun b=>bd A (lvl k i (k+1) k b) k b) N).getD k 0=bd A k k k:=by rw [tabR_getD hk1,l3']
          have g3:(tabR (fun b=>bd A (lvl k i j i b) i b) N).getD k 0=bd A k i k:=by rw [tabR_getD hk1,l2]
          have g4:(tabR (fun b=>bd A (lvl k i (k+1) k b) k b) N).getD j 0=bd A k k j:=by rw [tabR_getD hj1,l4']
          have hset2:(tabR (fun b=>bd A (lvl k i j i b) i b) N).set j (bd A (k+1) i j)=tabR (fun b=>bd A (lvl k i (j+1) i b) i b) N:=tabR_set fun b hb=>by
            rw [lvl_next hki hkj]
            by_cases e:b=j
            · subst e;rw [if_pos ⟨rfl,rfl⟩,if_pos rfl]
            · rw [if_neg (fun h=>e h.2),if_neg e]
          have hl1:(tabR (fun b=>bd A (lvl k i j i b) i b) N).length=N:=tabR_len
          have hl2:(tabR (fun b=>bd A (lvl k i (k+1) k b) k b) N).length=N:=tabR_len
          have hjl1:j<(tabR (fun b=>bd A (lvl k i j i b) i b) N).length:=by omega
          have hkl1:k<(tabR (fun b=>bd A (lvl k i j i b) i b) N).length:=by omega
          have hjl2:j<(tabR (fun b=>bd A (lvl k i (k+1) k b) k b) N).length:=by omega
          have hkl2:k<(tabR (fun b=>bd A (lvl k i (k+1) k b) k b) N).length:=by omega
          generalize tabR (fun b=>bd A (lvl k i j i b) i b) N=R1 at g1 g3 hset2 hl1 hjl1 hkl1
          generalize tabR (fun b=>bd A (lvl k i (k+1) k b) k b) N=R2 at g2 g4 hl2 hjl2 hkl2 hok
          have mul:∀ x y:Int,-59049≤x∧x≤59049→-59049≤y∧y≤59049→-3486784401≤x * y∧x * y≤3486784401:=fun x y hx hy=>by
            have h1:(59049 - x) * (59049 - y) ≥ 0:=Int.mul_nonneg (by omega) (by omega)
            have h2:(59049+x) * (59049+y) ≥ 0:=Int.mul_nonneg (by omega) (by omega)
            have h3:(59049 - x) * (59049+y) ≥ 0:=Int.mul_nonneg (by omega) (by omega)
            have h4:(59049+x) * (59049 - y) ≥ 0:=Int.mul_nonneg (by omega) (by omega)
            have e1:(59049 - x) * (59049 - y)=3486784401 - 59049 * x - 59049 * y+x * y:=by grind
            have e2:(59049+x) * (59049+y)=3486784401+59049 * x+59049 * y+x * y:=by grind
            have e3:(59049 - x) * (59049+y)=3486784401 - 59049 * x+59049 * y - x * y:=by grind
            have e4:(59049+x) * (59049 - y)=3486784401+59049 * x - 59049 * y - x * y:=by grind
            omega
          have m1':=mul _ _ c1 c2
          have m2':=mul _ _ c3 c4
          have cn:=bd_rg Z hN (k:=k+1) (i:=i) (j:=j) (by omega) hi1 (by omega) hj1
          have w1:IntKind.i64.wrap (bd A k i j * bd A k k k)=bd A k i j * bd A k k k:=w64 (by omega)
          have w2:IntKind.i64.wrap (bd A k i k * bd A k k j)=bd A k i k * bd A k k j:=w64 (by omega)
          have w3:IntKind.i64.wrap (bd A k i j * bd A k k k - bd A k i k * bd A k k j)=bd A k i j * bd A k k k - bd A k i k * bd A k k j:=w64 (by omega)
          have w4:IntKind.i64.wrap (bd A (k+1) i j)=bd A (k+1) i j:=w64 (by omega)
          have hl00:¬ lead A k=0:=by omega
          simp only [Bz2p,Bz91,hol,decide_eq_true hltj,yz2,yz1,go_sem,yz0,xx9,xx8,xx6,xx7,xx5,xx0,xx1,xx2,reduceIte,xx3,xx4,reduceCtorEq]
          intro vs11 U11 hN11 hM11 vs12 U12 hN12
          simp only [Bzit,ho1,hok,yz3 hjl1,yz3 hkl1,yz3 hjl2,yz3 hkl2,g1,g2,g3,g4,w1,w2,w3,hst,w4,hl00,if_false,hol,yz2,yz1,go_sem,yz0,xx9,xx8,xx6,xx7,xx5,xx0,xx1,xx2,reduceIte,xx3,xx4,reduceCtorEq]
          refine ⟨⟨by omega,hi1⟩,hi1,⟨by omega,hi1⟩,hi1,⟨by omega,hjl1⟩,hjl1,⟨by omega,hk1⟩,hk1,⟨by omega,hkl2⟩,hkl2,⟨by omega,hi1⟩,hi1,⟨by omega,hkl1⟩,hkl1,⟨by omega,hk1⟩,hk1,⟨by omega,hjl2⟩,hjl2,⟨by omega,hjl1⟩,hjl1,?_⟩
          simp only [put_ints hjl1,hset2,Bzis,wj,yz2,yz1,go_sem,yz0,xx9,xx8,xx6,xx7,xx5,xx0,xx1,xx2,reduceIte,xx3,xx4,reduceCtorEq]
          intro vs13 U13 hN13
          exact ⟨j+1,by omega,⟨by omega,by omega⟩,rfl⟩
        · obtain rfl:j=N:=by omega
          simp only [Bz2p,Bz91,Bziv,hol,decide_eq_false hltj,yz2,yz1,wpD_gh,go_sem,yz0,xx9,xx8,xx6,xx7,xx5,xx0,xx1,xx2,reduceIte,xx3,xx4,reduceCtorEq]
          intros
          refine ⟨[.rf 12 i 901],gwp_rf (k:=1) (nn:=true) rfl (own_get hAi.symm) (by decide) rfl fun hf=>?_⟩
          have D1:=DJ_refrozen hdj hf (cur:=tabR (fun b=>bd A (lvl k i j i b) i b) j)
          have hset4:∀ X:AVal,(rwp A2 ++ AVal.own 901 m1 :: rwp C2).set i X=rwp A2 ++ X :: rwp C2:=fun X=>by
            rw [← hAi,List.set_append_right _ _ (by rw [rwp_len];exact Nat.le_refl _),rwp_len,Nat.sub_self];rfl
          simp only [hset4,frNm_t,rwp_cat,gwp_nil,wi,yz2,yz1,go_sem,yz0,xx9,xx8,xx6,xx7,xx5,xx0,xx1,xx2,reduceIte,xx3,xx4,reduceCtorEq]
          intro vs13 U13 hN13
          refine ⟨(v5,i+1,A2 ++ (m1,tabR (fun b=>bd A (lvl k i j i b) i b) j) :: C2),by dsimp only;omega,⟨by dsimp only;omega,by dsimp only;omega,D1,?_⟩,rfl⟩
          have hrow:tabR (fun b=>bd A (lvl k i j i b) i b) j=tabR (fun b=>bd A (lvl k (i+1) (k+1) i b) i b) j:=tabR_congr fun b hb=>by rw [lvl_row hb]
          have hps3:=congrArg (fun l=>l.set i (tabR (fun b=>bd A (lvl k (i+1) (k+1) i b) i b) j)) hps
          rw [tabM_set (g:=fun a b=>bd A (lvl k (i+1) (k+1) a b) a b) fun a ha hne b hb=>by
            have:lvl k (i+1) (k+1) a b=lvl k i (k+1) a b:=by
              unfold lvl
              by_cases h:k<a∧k<b∧(a<i+1∨(a=i+1∧b<k+1))
              · rw [if_pos h,if_pos (by omega)]
              · rw [if_neg h,if_neg (by omega)]
            rw [this]] at hps3
          dsimp only
          rw [← hps3,hrow,List.map_append,List.map_append,List.map_cons,List.map_cons,List.set_append_right _ _ (by rw [List.length_map];omega),List.length_map,hAi,Nat.sub_self];rfl
      · obtain rfl:i=N:=by omega
        simp only [rwp_len,hpl,Bz2q,Bz90,Bziy,decide_eq_false hlti,yz2,yz1,go_sem,yz0,xx9,xx8,xx6,xx7,xx5,xx0,xx1,xx2,reduceIte,xx3,xx4,reduceCtorEq]
        obtain ⟨A2,b,C2,rfl,hAk⟩:=rwp_split (show k<ps.length by omega)
        have hb2:b.2=tabR (fun b=>bd A (lvl k i (k+1) k b) k b) i:=by
          have:=congrArg (fun l=>l.getD k []) hps
          rw [tabM_getD hk1,List.map_append,List.map_cons,List.getD_eq_getElem?_getD,List.getElem?_append_right (by rw [List.length_map];omega),List.length_map,hAk,Nat.sub_self] at this
          simpa using this
        have hok:(rwp (A2 ++ b :: C2)).getD k .any=.ro (some (some (b.1+1))) 1 (ints b.2):=rwp_at hAk.symm
        have l3':lvl k i (k+1) k k=k:=by unfold lvl;rw [if_neg (by omega)];omega
        have hg:b.2.getD k 0=bd A k k k:=by rw [hb2,tabR_getD hk1,l3']
        have hbl:k<b.2.length:=by rw [hb2,tabR_len];exact hk1
        intro vs9 U9 hN9 hM9 vs10 U10 hN10
        simp only [hok,yz3 hbl,hg,wk,Bzj0,yz2,yz1,go_sem,yz0,xx9,xx8,xx6,xx7,xx5,xx0,xx1,xx2,reduceIte,xx3,xx4,reduceCtorEq]
        refine ⟨⟨by omega,hk1⟩,hk1,⟨by omega,hbl⟩,hbl,?_⟩
        intro vs11 U11 hN11
        refine ⟨(v5,k+1,A2 ++ b :: C2),by dsimp only;omega,⟨by dsimp only;omega,hdj,?_⟩,rfl⟩
        rw [hps]
        exact tabM_congr fun a ha b hb=>by rw [lvl_end ha]
    · obtain rfl:k=N:=by omega
      simp only [Bz2r,Bz92,Bzj3,decide_eq_false hltk,yz2,yz1,go_sem,yz0,xx9,xx8,xx6,xx7,xx5,xx0,xx1,xx2,reduceIte,xx3,xx4,reduceCtorEq]
      intro vs6 U6 hN6 vs7 U7 hN7
      simp only [← hQ,Az93,go_sem,yz0,xx9,xx8,xx6,xx7,xx5,xx0,xx1,xx2,reduceIte,xx3,xx4,reduceCtorEq]
end Go.Ab
namespace Go.Ab
open Go Go.Proofs
theorem bd_mul {x y:Int} (hx:-59049≤x∧x≤59049) (hy:-59049≤y∧y≤59049):-3486784401≤x * y∧x * y≤3486784401:=by
  have h1:(59049 - x) * (59049 - y) ≥ 0:=Int.mul_nonneg (by omega) (by omega)
  have h2:(59049+x) * (59049+y) ≥ 0:=Int.mul_nonneg (by omega) (by omega)
  have h3:(59049 - x) * (59049+y) ≥ 0:=Int.mul_nonneg (by omega) (by omega)
  have h4:(59049+x) * (59049 - y) ≥ 0:=Int.mul_nonneg (by omega) (by omega)
  have e1:(59049 - x) * (59049 - y)=3486784401 - 59049 * x - 59049 * y+x * y:=by grind
  have e2:(59049+x) * (59049+y)=3486784401+59049 * x+59049 * y+x * y:=by grind
  have e3:(59049 - x) * (59049+y)=3486784401 - 59049 * x+59049 * y - x * y:=by grind
  have e4:(59049+x) * (59049 - y)=3486784401+59049 * x - 59049 * y - x * y:=by grind
  omega
theorem gwp_tt {gs:List GStep} {K:St→Prop} {l:List (Nat×AVal)} {h:List (Nat×AObj)} {t i q n k k':Nat} {cs cs':List AVal} (hr:L .any l t=.ro (some (some 0)) k cs)
    (hi:cs[i]?=some (.ro (some (some (n+1))) k' cs')) (hne:cs'≠[]) (hq:L .gone h q=.gone)
    (hk:∀ m,gwp gs K ⟨L .any ((t,.ro (some (some 0)) k ((woL n cs).set i (.own q m))) :: woT n l),L .gone ((q,.row m k' true (woL n cs')) :: woO n h)⟩):gwp (.tt t i q :: gs) K ⟨L .any l,L .gone h⟩ :=
  ⟨k,cs,n,k',cs',hr,hi,hne,hq,fun m=>by rw [tt_L];exact hk m⟩
theorem tr_L {l:List (Nat×AVal)} {h:List (Nat×AObj)} {t i q ver k k':Nat} {nn':Bool} {cs cs':List AVal} :
    St.tr ⟨L .any l,L .gone h⟩ t i q ver k k' nn' cs cs'=⟨L .any ((t,.ro (some (some 0)) k (cs.set i (.ro (frNm nn' cs'.length ver) k' cs'))) :: l),L .gone ((q,.gone) :: h)⟩:=by
  unfold St.tr
  congr 1
theorem gwp_tr {gs:List GStep} {K:St→Prop} {l:List (Nat×AVal)} {h:List (Nat×AObj)} {t i q ver k k':Nat} {nn':Bool} {cs cs':List AVal} (ht:L .any l t=.ro (some (some 0)) k cs)
    (hi:cs[i]?=some (.own q ver)) (hq:L .gone h q=.row ver k' nn' cs')
    (hk:(∀ n k'' cs'',AVal.ro (some (some (n+1))) k'' cs''∈cs→cs''≠[]→n≠ver)→gwp gs K ⟨L .any ((t,.ro (some (some 0)) k (cs.set i (.ro (frNm nn' cs'.length ver) k' cs'))) :: l),L .gone ((q,.gone) :: h)⟩):gwp (.tr t i q :: gs) K ⟨L .any l,L .gone h⟩ :=
  ⟨k,cs,ver,k',nn',cs',ht,hi,hq,fun hd=>by rw [tr_L];exact hk hd⟩
theorem k_l03Minor (A:Nat→Nat→Int) (N:Nat) (hN:N≤9) (Z:ZM A N 0 1) (ps:List (Nat×List Int)) (hdj:DJ ps) (hps:ps.map (·.2)=tabM A N) :
    Con Try.prog nz4h [] [.ro (some (some 0)) 1 (rwp ps)] true fun outs rows res=>outs=[]∧rows=[]∧∃ v,v=.int .i64 (lead A N)∧res=.val v:=by
  refine con_sh mixed czop rfl (by simp) ?_
  have hML:=maxLen_le
  generalize hQ:finQ _=Q
  simp only [Az9y,Bzlc,yz2,yz1,go_sem,yz0,xx9,xx8,xx6,xx7,xx5,xx0,xx1,xx2,reduceIte,xx3,xx4,reduceCtorEq]
  intros
  simp only [Bzlb,Bzla,Bzl8,yz2,yz1,go_sem,yz0,xx9,xx8,xx6,xx7,xx5,xx0,xx1,xx2,reduceIte,xx3,xx4,reduceCtorEq]
  intros
  have hps0:ps.map (·.2)=tabM (fun a b=>bd A (lvl 0 1 1 a b) a b) N:=by
    rw [hps]
    refine tabM_congr fun a _ b _=>?_
    have:lvl 0 1 1 a b=0:=by unfold lvl;rw [if_neg (by omega)];omega
    rw [this,bd_zero]
  refine wpD_lp (fun (x:Nat×List (Nat×List Int))=>N - x.1) (fun x=>x.1≤N∧DJ x.2∧x.2.map (·.2)=tabM (fun a b=>bd A (lvl x.1 (x.1+1) (x.1+1) a b) a b) N)
    (fun (x:Nat×List (Nat×List Int))=>⟨L .any [(0,.ro (some (some 0)) 1 (rwp x.2)),(3,iv (lead A x.1)),(4,iv 1),(5,iv x.1)],
      L .gone [(5000,.gone),(901,.gone)]⟩)
    (0,ps) ⟨Nat.zero_le _,hdj,hps0⟩ (by simp only [Bz34,lead,go_sem,yz0,xx9,xx8,xx6,xx7,xx5,xx0,xx1,xx2,reduceIte,xx3,xx4,reduceCtorEq];try rfl) ?_
  rintro ⟨k,ps⟩ ⟨hk,hdj,hps⟩
  have hk:k≤N:=hk
  have hdj:DJ ps:=hdj
  have hps:ps.map (·.2)=tabM (fun a b=>bd A (lvl k (k+1) (k+1) a b) a b) N:=hps
  have hpl:ps.length=N:=by
    have:=congrArg List.length hps
    simpa [tabM] using this
  by_cases hltk:(k:Int)<(N:Int)
  · have hk1:k<N:=by omega
    have wk:IntKind.i64.wrap ((k:Int)+1)=((k+1:Nat):Int):=by rw [w64 (by omega)];simp
    have hl0:=lead_bd Z hN hk
    have hl1:=lead_bd Z hN (k:=k+1) hk1
    obtain ⟨A0,b0,C0,hp0,hA0⟩:=rwp_split (show k<ps.length by omega)
    have hb0:b0.2=tabR (fun b=>bd A (lvl k (k+1) (k+1) k b) k b) N:=by
      have:=congrArg (fun l=>l.getD k []) hps
      rw [tabM_getD hk1,hp0,List.map_append,List.map_cons,List.getD_eq_getElem?_getD,List.getElem?_append_right (by rw [List.length_map];omega),List.length_map,hA0,Nat.sub_self] at this
      simpa using this
    have hok0:(rwp ps).getD k .any=.ro (some (some (b0.1+1))) 1 (ints b0.2):=by rw [hp0];exact rwp_at hA0.symm
    have l30:lvl k (k+1) (k+1) k k=k:=by unfold lvl;rw [if_neg (by omega)];omega
    have hg0:b0.2.getD k 0=bd A k k k:=by rw [hb0,tabR_getD hk1,l30]
    have hbl0:k<b0.2.length:=by rw [hb0,tabR_len];exact hk1
    have hnz:(bd A k k k == (0:Int))=false:=by
      have:0<bd A k k k:=hl1.1
      rw [beq_eq_false_iff_ne];omega
    have hnl:((k:Int) == (N:Int))=false:=by rw [beq_eq_false_iff_ne];omega
    simp only [rwp_len,hpl,Bz34,Bz9u,Bzl7,Bzl5,decide_eq_true hltk,yz2,yz1,go_sem,yz0,xx9,xx8,xx6,xx7,xx5,xx0,xx1,xx2,reduceIte,xx3,xx4,reduceCtorEq]
    intros
    refine wpD_lp (fun (_:Unit)=>0) (fun _=>True)
      (fun (_:Unit)=>⟨L .any [(0,.ro (some (some 0)) 1 (rwp ps)),(3,iv (lead A k)),(4,iv 1),(5,iv k),(6,iv k)],
        L .gone [(5000,.gone),(901,.gone)]⟩)
      () trivial (by simp only [Bz9v,go_sem,yz0,xx9,xx8,xx6,xx7,xx5,xx0,xx1,xx2,reduceIte,xx3,xx4,reduceCtorEq];try rfl) ?_
    intro _ _
    simp only [rwp_len,hpl,hok0,yz3 hbl0,hg0,hnz,Bz9v,Bzks,decide_eq_true hltk,yz2,yz1,go_sem,yz0,xx9,xx8,xx6,xx7,xx5,xx0,xx1,xx2,reduceIte,xx3,xx4,reduceCtorEq]
    intro vs9 U9 hN9 _
    refine ⟨⟨by omega,hk1⟩,hk1,⟨by omega,hbl0⟩,hbl0,?_⟩
    have hgt:decide ((k:Int) > (k:Int))=false:=by rw [decide_eq_false_iff_not];omega
    simp only [rwp_len,hpl,hnl,hgt,wk,Bzl4,Bzkt,Bzl3,Bzku,Bzl2,Bzl0,yz2,yz1,go_sem,yz0,xx9,xx8,xx6,xx7,xx5,xx0,xx1,xx2,reduceIte,xx3,xx4,reduceCtorEq]
    intros
    refine wpD_lp (fun (x:Nat×List (Nat×List Int))=>N - x.1) (fun x=>k<x.1∧x.1≤N∧DJ x.2∧x.2.map (·.2)=tabM (fun a b=>bd A (lvl k x.1 (k+1) a b) a b) N)
      (fun (x:Nat×List (Nat×List Int))=>⟨L .any [(0,.ro (some (some 0)) 1 (rwp x.2)),(3,iv (lead A k)),(4,iv 1),(5,iv k),(8,iv x.1)],
        L .gone [(5000,.gone),(901,.gone)]⟩)
      (k+1,ps) ⟨by dsimp only;omega,hk1,hdj,hps⟩ (by simp only [Bz33,go_sem,yz0,xx9,xx8,xx6,xx7,xx5,xx0,xx1,xx2,reduceIte,xx3,xx4,reduceCtorEq];try rfl) ?_
    clear hok0 hg0 hbl0 hb0 hp0
    clear hps hdj hpl
    rintro ⟨i,ps⟩ ⟨hki,hi,hdj,hps⟩
    have hki:k<i:=hki
    have hi:i≤N:=hi
    have hdj:DJ ps:=hdj
    have hps:ps.map (·.2)=tabM (fun a b=>bd A (lvl k i (k+1) a b) a b) N:=hps
    have hpl:ps.length=N:=by
      have:=congrArg List.length hps
      simpa [tabM] using this
    by_cases hlti:(i:Int)<(N:Int)
    · have hi1:i<N:=by omega
      have wi:IntKind.i64.wrap ((i:Int)+1)=((i+1:Nat):Int):=by rw [w64 (by omega)];simp
      obtain ⟨A2,b,C2,rfl,hAi⟩:=rwp_split (show i<ps.length by omega)
      have hb2:b.2=tabR (fun b=>bd A (lvl k i (k+1) i b) i b) N:=by
        have:=congrArg (fun l=>l.getD i []) hps
        rw [tabM_getD hi1,List.map_append,List.map_cons,List.getD_eq_getElem?_getD,List.getElem?_append_right (by rw [List.length_map];omega),List.length_map,hAi,Nat.sub_self] at this
        simpa using this
      have hbn:b.2≠[]:=fun e=>by
        have:=congrArg List.length hb2
        rw [e,tabR_len] at this
        simp at this;omega
      have F0a:=DJ_out hdj hbn
      have hAk:∃ nm,A2[k]?=some (nm,tabR (fun b=>bd A (lvl k i (k+1) k b) k b) N):=by
        have hkl:k<A2.length:=by omega
        have:=congrArg (fun l=>l.getD k []) hps
        rw [tabM_getD hk1,List.map_append,List.getD_eq_getElem?_getD,List.getElem?_append_left (by rw [List.length_map];omega),List.getElem?_map,List.getElem?_eq_getElem hkl] at this
        refine ⟨A2[k].1,?_⟩
        rw [List.getElem?_eq_getElem hkl]
        simp only [Option.map_some,Option.getD_some] at this
        rw [← this]
      obtain ⟨nmk,hAk⟩:=hAk
      simp only [rwp_len,Bz33,Bz9w,Bzkz,hpl,decide_eq_true hlti,yz2,yz1,wpD_gh,go_sem,yz0,xx9,xx8,xx6,xx7,xx5,xx0,xx1,xx2,reduceIte,xx3,xx4,reduceCtorEq]
      intro vs9 U9 hN9 hM9
      intro _
      refine ⟨[.tt 0 i 901],gwp_tt (n:=b.1) rfl (rwp_get hAi.symm) (by simpa using hbn) rfl fun m1=>?_⟩
      have hset:(woL b.1 (rwp (A2 ++ b :: C2))).set i (AVal.own 901 m1)=rwp A2 ++ AVal.own 901 m1 :: rwp C2:=by rw [← hAi];exact woL_set F0a
      have ho1:(rwp A2 ++ AVal.own 901 m1 :: rwp C2).getD i .any=.own 901 m1:=own_at hAi.symm
      have hok:(rwp A2 ++ AVal.own 901 m1 :: rwp C2).getD k .any=.ro (some (some (nmk+1))) 1 (ints (tabR (fun b=>bd A (lvl k i (k+1) k b) k b) N)):=by
        rw [List.getD_eq_getElem?_getD,List.getElem?_append_left (by rw [rwp_len];omega)]
        unfold rwp
        rw [List.getElem?_map,hAk];rfl
      have hol:(rwp A2 ++ AVal.own 901 m1 :: rwp C2).length=N:=by
        rw [List.length_append,List.length_cons,rwp_len,rwp_len]
        rw [List.length_append,List.length_cons] at hpl
        exact hpl
      have hil:i<(rwp A2 ++ AVal.own 901 m1 :: rwp C2).length:=by omega
      have hkl:k<(rwp A2 ++ AVal.own 901 m1 :: rwp C2).length:=by omega
      simp only [hset,woT,woO,woL_cons,woL_nil,woV_val,woV_own,wo_ptr,wo_o,woL_ints,wo_st,woO_row,woO_box,woO_gone,wo_any,gwp_nil,wk,yz2,yz1,go_sem,yz0,xx9,xx8,xx6,xx7,xx5,xx0,xx1,xx2,reduceIte,xx3,xx4,reduceCtorEq]
      intro vs10 U10 hN10
      simp only [Bzkx,yz2,yz1,go_sem,yz0,xx9,xx8,xx6,xx7,xx5,xx0,xx1,xx2,reduceIte,xx3,xx4,reduceCtorEq]
      rw [hb2]
      refine wpD_lp (fun (x:Nat)=>N - x) (fun x=>k<x∧x≤N)
        (fun (x:Nat)=>⟨L .any [(0,.ro (some (some 0)) 1 (rwp A2 ++ .own 901 m1 :: rwp C2)),(3,iv (lead A k)),(4,iv 1),(5,iv k),(8,iv i),(9,iv x)],
          L .gone [(5000,.gone),(901,.row m1 1 true (ints (tabR (fun b=>bd A (lvl k i x i b) i b) N)))]⟩)
        (k+1) ⟨by omega,hk1⟩ (by simp only [Bz32,go_sem,yz0,xx9,xx8,xx6,xx7,xx5,xx0,xx1,xx2,reduceIte,xx3,xx4,reduceCtorEq];try rfl) ?_
      rintro j ⟨hkj,hj⟩
      by_cases hltj:(j:Int)<(N:Int)
      · have hj1:j<N:=by omega
        have wj:IntKind.i64.wrap ((j:Int)+1)=((j+1:Nat):Int):=by rw [w64 (by omega)];simp
        obtain ⟨l1,l2,l3,l4⟩:=lvl_in hki hkj
        have l3':lvl k i (k+1) k k=k:=by unfold lvl;rw [if_neg (by omega)];omega
        have l4':lvl k i (k+1) k j=k:=by unfold lvl;rw [if_neg (by omega)];omega
        have c1:=bd_rg Z hN (k:=k) (i:=i) (j:=j) (by omega) hi1 (by omega) hj1
        have c2:=bd_rg Z hN (k:=k) (i:=k) (j:=k) (Nat.le_refl k) hk1 (Nat.le_refl k) hk1
        have c3:=bd_rg Z hN (k:=k) (i:=i) (j:=k) (by omega) hi1 (Nat.le_refl k) hk1
        have c4:=bd_rg Z hN (k:=k) (i:=k) (j:=j) (Nat.le_refl k) hk1 (by omega) hj1
        have hst:=bd_step Z hki hi1 hkj hj1
        have g1:(tabR (fun b=>bd A (lvl k i j i b) i b) N).getD j 0=bd A k i j:=by rw [tabR_getD hj1,l1]
        have g2:(tabR (fun b=>bd A (lvl k i (k+1) k b) k b) N).getD k 0=bd A k k k:=by rw [tabR_getD hk1,l3']
        have g3:(tabR (fun b=>bd A (lvl k i j i b) i b) N).getD k 0=bd A k i k:=by rw [tabR_getD hk1,l2]
        have g4:(tabR (fun b=>bd A (lvl k i (k+1) k b) k b) N).getD j 0=bd A k k j:=by rw [tabR_getD hj1,l4']
        have hset2:(tabR (fun b=>bd A (lvl k i j i b) i b) N).set j (bd A (k+1) i j)=tabR (fun b=>bd A (lvl k i (j+1) i b) i b) N:=tabR_set fun b hb=>by
          rw [lvl_next hki hkj]
          by_cases e:b=j
          · subst e;rw [if_pos ⟨rfl,rfl⟩,if_pos rfl]
          · rw [if_neg (fun h=>e h.2),if_neg e]
        have hl1:(tabR (fun b=>bd A (lvl k i j i b) i b) N).length=N:=tabR_len
        have hl2:(tabR (fun b=>bd A (lvl k i (k+1) k b) k b) N).length=N:=tabR_len
        have hjl1:j<(tabR (fun b=>bd A (lvl k i j i b) i b) N).length:=by omega
        have hkl1:k<(tabR (fun b=>bd A (lvl k i j i b) i b) N).length:=by omega
        have hjl2:j<(tabR (fun b=>bd A (lvl k i (k+1) k b) k b) N).length:=by omega
        have hkl2:k<(tabR (fun b=>bd A (lvl k i (k+1) k b) k b) N).length:=by omega
        generalize tabR (fun b=>bd A (lvl k i j i b) i b) N=R1 at g1 g3 hset2 hl1 hjl1 hkl1
        generalize tabR (fun b=>bd A (lvl k i (k+1) k b) k b) N=R2 at g2 g4 hl2 hjl2 hkl2 hok
        have m1':=bd_mul c1 c2
        have m2':=bd_mul c3 c4
        have cn:=bd_rg Z hN (k:=k+1) (i:=i) (j:=j) (by omega) hi1 (by omega) hj1
        have w1:IntKind.i64.wrap (bd A k k k * bd A k i j)=bd A k i j * bd A k k k:=by rw [Int.mul_comm];exact w64 (by omega)
        have w2:IntKind.i64.wrap (bd A k i k * bd A k k j)=bd A k i k * bd A k k j:=w64 (by omega)
        have w3:IntKind.i64.wrap (bd A k i j * bd A k k k - bd A k i k * bd A k k j)=bd A k i j * bd A k k k - bd A k i k * bd A k k j:=w64 (by omega)
        have w4:IntKind.i64.wrap (bd A (k+1) i j)=bd A (k+1) i j:=w64 (by omega)
        have hl00:¬ lead A k=0:=by omega
        simp only [Bz32,Bz9x,hol,decide_eq_true hltj,yz2,yz1,go_sem,yz0,xx9,xx8,xx6,xx7,xx5,xx0,xx1,xx2,reduceIte,xx3,xx4,reduceCtorEq]
        intro vs11 U11 hN11 hM11 vs12 U12 hN12
        simp only [Bzkw,ho1,hok,yz3 hjl1,yz3 hkl1,yz3 hjl2,yz3 hkl2,g1,g2,g3,g4,w1,w2,w3,hst,w4,hl00,if_false,hol,yz2,yz1,go_sem,yz0,xx9,xx8,xx6,xx7,xx5,xx0,xx1,xx2,reduceIte,xx3,xx4,reduceCtorEq]
        refine ⟨⟨by omega,hi1⟩,hi1,⟨by omega,hk1⟩,hk1,⟨by omega,hkl2⟩,hkl2,⟨by omega,hi1⟩,hi1,⟨by omega,hjl1⟩,hjl1,⟨by omega,hi1⟩,hi1,⟨by omega,hkl1⟩,hkl1,⟨by omega,hk1⟩,hk1,⟨by omega,hjl2⟩,hjl2,⟨by omega,hjl1⟩,hjl1,?_⟩
        simp only [put_ints hjl1,hset2,Bzkv,wj,yz2,yz1,go_sem,yz0,xx9,xx8,xx6,xx7,xx5,xx0,xx1,xx2,reduceIte,xx3,xx4,reduceCtorEq]
        intro vs13 U13 hN13
        exact ⟨j+1,by omega,⟨by omega,by omega⟩,rfl⟩
      · obtain rfl:j=N:=by omega
        simp only [Bz32,Bz9x,Bzky,hol,decide_eq_false hltj,yz2,yz1,wpD_gh,go_sem,yz0,xx9,xx8,xx6,xx7,xx5,xx0,xx1,xx2,reduceIte,xx3,xx4,reduceCtorEq]
        intros
        refine ⟨[.tr 0 i 901],gwp_tr (k:=1) rfl (own_get hAi.symm) rfl fun hf=>?_⟩
        have D1:=DJ_refrozen hdj hf (cur:=tabR (fun b=>bd A (lvl k i j i b) i b) j)
        have hset4:∀ X:AVal,(rwp A2 ++ AVal.own 901 m1 :: rwp C2).set i X=rwp A2 ++ X :: rwp C2:=fun X=>by
          rw [← hAi,List.set_append_right _ _ (by rw [rwp_len];exact Nat.le_refl _),rwp_len,Nat.sub_self];rfl
        simp only [hset4,frNm_t,rwp_cat,gwp_nil,wi,yz2,yz1,go_sem,yz0,xx9,xx8,xx6,xx7,xx5,xx0,xx1,xx2,reduceIte,xx3,xx4,reduceCtorEq]
        intro vs13 U13 hN13
        refine ⟨(i+1,A2 ++ (m1,tabR (fun b=>bd A (lvl k i j i b) i b) j) :: C2),by dsimp only;omega,⟨by dsimp only;omega,by dsimp only;omega,D1,?_⟩,rfl⟩
        have hrow:tabR (fun b=>bd A (lvl k i j i b) i b) j=tabR (fun b=>bd A (lvl k (i+1) (k+1) i b) i b) j:=tabR_congr fun b hb=>by rw [lvl_row hb]
        have hps3:=congrArg (fun l=>l.set i (tabR (fun b=>bd A (lvl k (i+1) (k+1) i b) i b) j)) hps
        rw [tabM_set (g:=fun a b=>bd A (lvl k (i+1) (k+1) a b) a b) fun a ha hne b hb=>by
          have:lvl k (i+1) (k+1) a b=lvl k i (k+1) a b:=by
            unfold lvl
            by_cases h:k<a∧k<b∧(a<i+1∨(a=i+1∧b<k+1))
            · rw [if_pos h,if_pos (by omega)]
            · rw [if_neg h,if_neg (by omega)]
          rw [this]] at hps3
        dsimp only
        rw [← hps3,hrow,List.map_append,List.map_append,List.map_cons,List.map_cons,List.set_append_right _ _ (by rw [List.length_map];omega),List.length_map,hAi,Nat.sub_self];rfl
    · obtain rfl:i=N:=by omega
      simp only [rwp_len,hpl,Bz33,Bz9w,Bzl1,decide_eq_false hlti,yz2,yz1,go_sem,yz0,xx9,xx8,xx6,xx7,xx5,xx0,xx1,xx2,reduceIte,xx3,xx4,reduceCtorEq]
      obtain ⟨A2,b,C2,rfl,hAk⟩:=rwp_split (show k<ps.length by omega)
      have hb2:b.2=tabR (fun b=>bd A (lvl k i (k+1) k b) k b) i:=by
        have:=congrArg (fun l=>l.getD k []) hps
        rw [tabM_getD hk1,List.map_append,List.map_cons,List.getD_eq_getElem?_getD,List.getElem?_append_right (by rw [List.length_map];omega),List.length_map,hAk,Nat.sub_self] at this
        simpa using this
      have hok:(rwp (A2 ++ b :: C2)).getD k .any=.ro (some (some (b.1+1))) 1 (ints b.2):=rwp_at hAk.symm
      have l3':lvl k i (k+1) k k=k:=by unfold lvl;rw [if_neg (by omega)];omega
      have hg:b.2.getD k 0=bd A k k k:=by rw [hb2,tabR_getD hk1,l3']
      have hbl:k<b.2.length:=by rw [hb2,tabR_len];exact hk1
      intro vs9 U9 hN9 hM9 vs10 U10 hN10
      simp only [hok,yz3 hbl,hg,wk,Bzl6,yz2,yz1,go_sem,yz0,xx9,xx8,xx6,xx7,xx5,xx0,xx1,xx2,reduceIte,xx3,xx4,reduceCtorEq]
      refine ⟨⟨by omega,hk1⟩,hk1,⟨by omega,hbl⟩,hbl,?_⟩
      intro vs11 U11 hN11
      refine ⟨(k+1,A2 ++ b :: C2),by dsimp only;omega,⟨by dsimp only;omega,hdj,?_⟩,rfl⟩
      rw [hps]
      exact tabM_congr fun a ha b hb=>by rw [lvl_end ha]
  · obtain rfl:k=N:=by omega
    have hl0:=lead_bd Z hN hk
    have w1:IntKind.i64.wrap (1 * lead A k)=lead A k:=by rw [Int.one_mul];exact w64 (by omega)
    simp only [rwp_len,hpl,w1,Bz34,Bz9u,Bzl9,decide_eq_false hltk,yz2,yz1,go_sem,yz0,xx9,xx8,xx6,xx7,xx5,xx0,xx1,xx2,reduceIte,xx3,xx4,reduceCtorEq]
    intros
    simp only [← hQ,Az9y,Nat.not_lt_zero,range1,ren_val,ren_any,ren_ro,rnNm_n,rnNm_sn,rnNm_o,rnNm_s,ren_st,ren_tup,renL_nil,renL_cons,yz9,renL_rws,renL_rwn,oren_box,oren_row,oren_map,yzf,yzh,yzk,yzi,ren_mp_e0,ren_mp_e1,yza,yzc,yzj,yzg,ren_mp_r0,ren_mp_r1,List.range_zero,yzd,yzb,yze,gone_nil,gone_one,gone_two,AVal.fresh,freshL,yz7,fresh_rws,AObj.fresh,id,Option.isSome_some,or_true,true_or,go_sem,yz0,xx9,xx8,xx6,xx7,xx5,xx0,xx1,xx2,reduceIte,xx3,xx4,reduceCtorEq]
    exact ⟨[],by simp,by simp,by simp,rfl,_,rfl,rfl⟩
end Go.Ab
namespace Go.Ab
open Go Go.Proofs Go.Sort
end Go.Ab
namespace Go.Ab
open Go.Proofs
abbrev fv (f:Nat):AVal:=.val (.int .u64 (f:Int))
theorem u64w {n:Nat} (h:n<18446744073709551616):IntKind.u64.wrap (n:Int)=n:=IntWalk.u64_in _ (by omega)
theorem bv64 {x:Nat} (h:x<18446744073709551616):(BitVec.ofInt 64 (x:Int)).toNat=x:=by
  rw [BitVec.ofInt_natCast,BitVec.toNat_ofNat,Nat.mod_eq_of_lt h]
theorem u_or {x y:Nat} (hx:x<18446744073709551616) (hy:y<18446744073709551616) :
    IntKind.u64.wrap ((BitVec.ofInt 64 (x:Int) ||| BitVec.ofInt 64 (y:Int)).toNat)=((x ||| y:Nat):Int):=by
  have h:(BitVec.ofInt 64 (x:Int) ||| BitVec.ofInt 64 (y:Int)).toNat=x ||| y:=by rw [BitVec.toNat_or,bv64 hx,bv64 hy]
  show IntKind.u64.wrap ((BitVec.ofInt 64 (x:Int) ||| BitVec.ofInt 64 (y:Int)).toNat:Int)=_
  rw [h];exact u64w (Nat.or_lt_two_pow (n:=64) hx hy)
theorem u_and {x y:Nat} (hx:x<18446744073709551616) (hy:y<18446744073709551616) :
    IntKind.u64.wrap ((BitVec.ofInt 64 (x:Int) &&& BitVec.ofInt 64 (y:Int)).toNat)=((x &&& y:Nat):Int):=by
  have h:(BitVec.ofInt 64 (x:Int) &&& BitVec.ofInt 64 (y:Int)).toNat=x &&& y:=by rw [BitVec.toNat_and,bv64 hx,bv64 hy]
  show IntKind.u64.wrap ((BitVec.ofInt 64 (x:Int) &&& BitVec.ofInt 64 (y:Int)).toNat:Int)=_
  rw [h];exact u64w (Nat.lt_of_le_of_lt Nat.and_le_left hx)
theorem u_and1 {x:Nat} (hx:x<18446744073709551616) :
    IntKind.u64.wrap ((@HAnd.hAnd (BitVec 64) (BitVec 64) (BitVec 64) (@instHAndOfAndOp (BitVec IntKind.u64.bits) (@BitVec.instAndOp IntKind.u64.bits)) (BitVec.ofInt 64 (x:Int)) (BitVec.ofInt 64 1)).toNat)=((x &&& 1:Nat):Int):=u_and (y:=1) hx (by omega)
theorem u_orW {x y:Nat} (hx:x<18446744073709551616) (hy:y<18446744073709551616) :
    IntKind.u64.wrap ((@HOr.hOr (BitVec 64) (BitVec 64) (BitVec 64) (@instHOrOfOrOp (BitVec IntKind.u64.bits) (@BitVec.instOrOp IntKind.u64.bits)) (BitVec.ofInt 64 (x:Int)) (BitVec.ofInt 64 (y:Int))).toNat)=((x ||| y:Nat):Int):=u_or hx hy
theorem u_shl {b:Nat} (h:b<64):IntKind.u64.wrap (1 * 2 ^ min b 64)=((2 ^ b:Nat):Int):=by
  have h1:min b 64=b:=by omega
  have h2:(2:Int) ^ b=((2 ^ b:Nat):Int):=by simp
  rw [h1,Int.one_mul,h2]
  exact u64w (Nat.pow_lt_pow_right (a:=2) (n:=64) (by omega) h)
theorem u_shr {f s:Nat} (h:s≤64):((f:Int)).fdiv (2 ^ min s 64)=((f >>> s:Nat):Int):=by
  have h1:min s 64=s:=by omega
  have h2:(2:Int) ^ s=((2 ^ s:Nat):Int):=by simp
  rw [h1,h2,Nat.shiftRight_eq_div_pow,Int.fdiv_eq_ediv_of_nonneg _ (Int.natCast_nonneg _)]
  rfl
def bitsTo (f s:Nat):List Int:=((List.range s).filter fun k=>f.testBit k).map fun (k:Nat)=>(k:Int)
theorem bitsTo_succ {f s:Nat}:bitsTo f (s+1)=if f.testBit s=true then bitsTo f s ++ [(s:Int)] else bitsTo f s:=by
  unfold bitsTo
  rw [List.range_succ,List.filter_append]
  cases h:f.testBit s with
  | true=>simp [h]
  | false=>simp [h]
theorem bitsTo_len {f s:Nat}:(bitsTo f s).length≤s:=by
  unfold bitsTo
  rw [List.length_map]
  have:=List.length_filter_le (fun k=>f.testBit k) (List.range s)
  rw [List.length_range] at this;exact this
theorem bitsTo_add {f s:Nat} (h:f<2 ^ s):∀ d,bitsTo f (s+d)=bitsTo f s
  | 0=>rfl
  | d+1=>by
    rw [show s+(d+1)=s+d+1 by omega,bitsTo_succ,Nat.testBit_lt_two_pow (Nat.lt_of_lt_of_le h (Nat.pow_le_pow_right (by omega) (by omega))),if_neg (by simp),bitsTo_add h d]
theorem dec_beqN {a k:Nat}:decide (a=k)=Nat.beq a k:=by
  rw [Bool.eq_iff_iff,decide_eq_true_iff,Nat.beq_eq]
theorem shr_zero {f s:Nat}:f >>> s=0↔f<2 ^ s:=by
  rw [Nat.shiftRight_eq_div_pow,Nat.div_eq_zero_iff]
  have:=Nat.two_pow_pos s
  omega
theorem k_flock_set (f:Nat) (h:f<1024):RowI Try.prog nz3x [fv f] (fun ys=>ys=bitsTo f 10):=by
  refine rowI_of mixed cznv rfl ?_
  simp only [Azgx,Bzgw,Bzgv,Bzgt,go_sem,yz0,xx9,xx8,xx6,xx7,xx5,xx0,xx1,xx2,reduceIte,xx3,xx4,reduceCtorEq]
  intro vs
  refine wpD_lo (fun (_,s)=>10 - s) (fun (_,s)=>s≤10) (fun ((v,s):Nat×Nat)=>⟨L .any [(0,fv f),(3,.own 5 v),(4,iv s)],L .gone [(5,.row v 1 true (ints (bitsTo f s)))]⟩)
    (_,0) (by simp) (by simp only [Bzo,go_sem,yz0,xx9,xx8,xx6,xx7,xx5,xx0,xx1,xx2,reduceIte,xx3,xx4,reduceCtorEq];try rfl) ?_
  rintro ⟨v,s⟩ hs
  have hs:s≤10:=hs
  have hs0:¬ ((s:Nat):Int)<0:=by omega
  have hsh:=u_shr (f:=f) (s:=s) (by omega)
  have hlt:f >>> s<18446744073709551616:=by rw [Nat.shiftRight_eq_div_pow];exact Nat.lt_of_le_of_lt (Nat.div_le_self _ _) (by omega)
  by_cases hz:(0:Int)<((f >>> s:Nat):Int)
  · have hs10:s<10:=by
      by_cases e:s<10
      · exact e
      · have:f >>> s=0:=shr_zero.2 (Nat.lt_of_lt_of_le (show f<2 ^ 10 from h) (Nat.pow_le_pow_right (by omega) (by omega)))
        omega
    have hand:=u_and1 hlt
    have hbit:((((f >>> s &&& 1:Nat):Int)) == 1)=f.testBit s:=by
      rw [Nat.testBit_eq_decide_div_mod_eq,Nat.and_one_is_mod,Nat.shiftRight_eq_div_pow,Bool.eq_iff_iff,beq_iff_eq,decide_eq_true_iff]
      generalize f / 2 ^ s % 2=q
      omega
    have w1:IntKind.i64.wrap ((s:Int)+1)=((s+1:Nat):Int):=by rw [w64 (by omega)];simp
    cases hb:f.testBit s with
    | true =>
      rw [hb] at hbit
      have hr:bitsTo f s ++ [(s:Int)]=bitsTo f (s+1):=by rw [bitsTo_succ,if_pos hb]
      have hl:=bitsTo_len (f:=f) (s:=s)
      simp only [Bzo,Bz2d,Bz2e,Bz86,Bz87,hs0,hsh,hand,hbit,w1,hr,decide_eq_true hz,go_sem,yz0,xx9,xx8,xx6,xx7,xx5,xx0,xx1,xx2,reduceIte,xx3,xx4,reduceCtorEq]
      intro vs2
      exact ⟨⟨_,rfl,rfl⟩,by omega,(_,s+1),by dsimp only;omega,by dsimp only;omega,rfl⟩
    | false =>
      rw [hb] at hbit
      have hr:bitsTo f s=bitsTo f (s+1):=by rw [bitsTo_succ,if_neg (by simp [hb])]
      simp only [Bzo,Bz2d,Bz2e,Bz86,Bz87,hs0,hsh,hand,hbit,w1,decide_eq_true hz,go_sem,yz0,xx9,xx8,xx6,xx7,xx5,xx0,xx1,xx2,reduceIte,xx3,xx4,reduceCtorEq]
      refine ⟨(v,s+1),by dsimp only;omega,by dsimp only;omega,?_⟩
      dsimp only
      rw [← hr]
  · have he:bitsTo f 10=bitsTo f s:=by
      have h1:f >>> s=0:=Nat.eq_zero_of_not_pos fun e=>hz (Int.natCast_pos.2 e)
      have h2:=bitsTo_add (shr_zero.1 h1) (10 - s)
      rw [show s+(10 - s)=10 by omega] at h2;exact h2
    simp only [Bzo,Bz2d,Bz2e,Bzgu,hs0,hsh,decide_eq_false hz,he,go_sem,yz0,xx9,xx8,xx6,xx7,xx5,xx0,xx1,xx2,reduceIte,xx3,xx4,reduceCtorEq]
    exact ⟨5,v,_,by omega,rfl,by simp only [go_sem,yz0,xx9,xx8,xx6,xx7,xx5,xx0,xx1,xx2,reduceIte,xx3,xx4,reduceCtorEq],rfl⟩
theorem getD_snoc {α β:Type} (xs:List α) (g:β→α→β) (o:β) (d:α) {i:Nat} (h:i<xs.length):g ((xs.take i).foldl g o) (xs.getD i d)=(xs.take (i+1)).foldl g o:=by
  rw [List.take_succ_eq_append_getElem h,List.foldl_append,List.getD_eq_getElem?_getD,List.getElem?_eq_getElem h];rfl
theorem maskN_lt {set:List Int} (h:∀ s∈set,0≤s∧s<10):maskN set<1024:=fold_lt (fun s:Int=>s.toNat) set 0 (fun x hx=>by have:=h x hx;omega) (by omega)
theorem k_flockOf (set:List Int) (h:∀ s∈set,0≤s∧s<10):Fun Try.prog nzg [.ro none 1 (ints set)] (fv (maskN set)):=by
  refine fun_of mixed czns rfl ⟨rfl,trivial⟩ ?_
  simp only [Azgj,Bzgi,Bzgh,Bzgf,go_sem,yz0,xx9,xx8,xx6,xx7,xx5,xx0,xx1,xx2,reduceIte,xx3,xx4,reduceCtorEq]
  intro hM
  have hM2:=maxLen_le
  refine wpD_lo (fun i=>set.length - i) (fun i=>i≤set.length)
    (fun i:Nat=>⟨L .any [(3,fv (maskN (set.take i))),(6,.ro none 1 (ints set)),(7,iv set.length),(8,iv i)],L .gone []⟩) 0 (by simp) (by simp only [Bz2b,go_sem,yz0,xx9,xx8,xx6,xx7,xx5,xx0,xx1,xx2,reduceIte,xx3,xx4,reduceCtorEq];try rfl) ?_
  rintro i hi
  by_cases hlt:(i:Int)<set.length
  · have hlt1:i<set.length:=by omega
    have hs:=h _ (yz5 hlt1 0)
    have hs0:¬ set.getD i 0<0:=by omega
    have h1:=maskN_lt (set:=set.take i) (fun s hs=>h s (List.mem_of_mem_take hs))
    have h2:=pow_lt10 (k:=(set.getD i 0).toNat) (by omega)
    have hsl:=u_shl (b:=(set.getD i 0).toNat) (by omega)
    have hor:=u_orW (x:=maskN (set.take i)) (y:=2 ^ (set.getD i 0).toNat) (by omega) (by omega)
    have hr:maskN (set.take i) ||| 2 ^ (set.getD i 0).toNat=maskN (set.take (i+1)):=getD_snoc set (fun o s=>o ||| 2 ^ s.toNat) 0 0 hlt1
    simp only [Bz2b,Bz82,Bz81,Bzgd,Bzge,yz3 hlt1,hs0,hsl,hor,hr,nat1 i _ hlt1 hM,decide_eq_true hlt,go_sem,yz0,xx9,xx8,xx6,xx7,xx5,xx0,xx1,xx2,reduceIte,xx3,xx4,reduceCtorEq]
    exact ⟨⟨by omega,hlt1⟩,hlt1,i+1,by omega,by omega,rfl⟩
  · have:i=set.length:=by omega
    subst this
    simp only [Bz2b,Bz82,Bz81,Bzgg,decide_eq_false hlt,List.take_length,go_sem,yz0,xx9,xx8,xx6,xx7,xx5,xx0,xx1,xx2,reduceIte,xx3,xx4,reduceCtorEq]
end Go.Ab
namespace Go.Ab
open Go.Proofs
abbrev keysF (L:TS):List Value:=L.map fun p=>Value.int .u64 (p.1:Int)
abbrev setsI (L:TS):List Int:=L.map fun p=>(p.1:Int)
theorem fkF_not {f:Nat}:∀ {L:TS} (i:Nat),hasT L f=false→findKeyAt (.int .u64 (f:Int)) (keysF L) i=some none
  | [],_,_=>rfl
  | p :: L,i,h=>by
    simp only [hasT,List.any_cons,Bool.or_eq_false_iff] at h
    have h1:((f:Int) == (p.1:Int))=false:=by
      have:p.1≠f:=fun e=>by rw [e,Nat.beq_refl] at h;cases h.1
      exact beq_false_of_ne fun e=>this (by omega)
    have h2:=fkF_not (f:=f) (L:=L) (i+1) h.2
    simp only [List.map_cons,findKeyAt,sameKey,h1,if_true]
    exact h2
theorem fkF_mem {f:Nat}:∀ {L:TS} (i:Nat),hasT L f=true→∃ j,findKeyAt (.int .u64 (f:Int)) (keysF L) i=some (some (i+j))∧j<L.length
  | [],_,h=>by cases h
  | p :: L,i,h=>by
    by_cases e:p.1=f
    · refine ⟨0,?_,by simp⟩
      have h1:((f:Int) == (p.1:Int))=true:=by rw [e];exact beq_self_eq_true _
      simp only [List.map_cons,findKeyAt,sameKey,h1,if_true,Nat.add_zero]
    · have h0:Nat.beq p.1 f=false:=by rw [← dec_beqN];exact decide_eq_false e
      simp only [hasT,List.any_cons,h0,Bool.false_or] at h
      have h1:((f:Int) == (p.1:Int))=false:=beq_false_of_ne fun e'=>e (by omega)
      obtain ⟨j,h2,h3⟩:=fkF_mem (f:=f) (L:=L) (i+1) h
      refine ⟨j+1,?_,by simp;omega⟩
      simp only [List.map_cons,findKeyAt,sameKey,h1,if_true]
      rw [h2];congr 2;omega
theorem fkF_at:∀ {L:TS} (i k:Nat),(L.map (·.1)).Nodup→i<L.length→findKeyAt (.int .u64 ((L.getD i (0,[])).1:Int)) (keysF L) k=some (some (k+i))
  | [],_,_,_,h=>by simp at h
  | p :: L,0,k,_,_=>by
    simp only [List.getD_cons_zero,List.map_cons,findKeyAt,sameKey,beq_self_eq_true,if_true,Nat.add_zero]
  | p :: L,i+1,k,hd,h=>by
    rw [List.map_cons,List.nodup_cons] at hd
    have hi:i<L.length:=by simpa using h
    have hm:=yz5 hi (0,([]:List Int))
    have h1:(((L.getD i (0,[])).1:Int) == (p.1:Int))=false:=beq_false_of_ne fun e=>hd.1 (List.mem_map.2 ⟨_,hm,by omega⟩)
    have h2:=fkF_at (L:=L) i (k+1) hd.2 hi
    simp only [List.getD_cons_succ,List.map_cons,findKeyAt,sameKey,h1,if_true]
    rw [h2];congr 2;omega
end Go.Ab
namespace Go.Ab
open Go.Proofs
def dvS (nr or:List Int) (D:List Nat×Bool) (s:Int):List Nat×Bool :=
  (D.1.set (or.getD s.toNat 0).toNat (D.1.getD (or.getD s.toNat 0).toNat 0 ||| 2 ^ (nr.getD s.toNat 0).toNat),D.2 && Nat.beq (D.1.getD (or.getD s.toNat 0).toNat 0 &&& 2 ^ (nr.getD s.toNat 0).toNat) 0)
def dvF (nr or:List Int) (o:Int) (S:List Int):List Nat×Bool:=S.foldl (dvS nr or) (List.replicate o.toNat 0,true)
abbrev nfs (fs:List Nat):List AVal:=intsK .u64 (fs.map fun (f:Nat)=>(f:Int))
end Go.Ab
namespace Go.Ab
open Go.Proofs
end Go.Ab
namespace Go.Ab
open Go Go.Proofs Go.Sort
section
variable {κ:IntKind} {P:Program} {f:FuncId}
end
end Go.Ab
namespace Go.Ab
def imN (next:List (List Int)) (f:Nat) (w:List Int):Nat:=w.foldl (fun f l=>stepN (next.getD l.toNat []) f) f
theorem imN_snoc {next:List (List Int)} {f:Nat} {w:List Int} {x:Int}:imN next f (w ++ [x])=stepN (next.getD x.toNat []) (imN next f w):=by simp [imN]
def SndT (next:List (List Int)) (f0:Nat) (L:TS):Prop:=∀ p∈L,p.1=imN next f0 p.2
theorem SndT.vis {next:List (List Int)} {f0 f:Nat} {w:List Int} (hf:f=imN next f0 w):∀ (x:Nat) {L:TS},SndT next f0 L→SndT next f0 (visT next f w x L)
  | 0,_,h=>h
  | x+1,L,h=>by
    have h1:=SndT.vis hf x h
    rw [visT_succ]
    split
    · exact h1
    · intro p hp
      rcases List.mem_append.1 hp with hp | hp
      · exact h1 p hp
      · have hp:p=(stepN (next.getD x []) f,w ++ [(x:Int)]):=by simpa using hp
        rw [hp,imN_snoc,← hf];rfl
theorem SndT.run {next:List (List Int)} {f0:Nat}:∀ (F i:Nat) {L:TS},SndT next f0 L→SndT next f0 (runT next F i L)
  | 0,_,_,h=>h
  | F+1,i,L,h=>by
    simp only [runT]
    split
    · rename_i hi
      exact SndT.run F (i+1) (SndT.vis (h _ (yz5 hi _)) _ h)
    · exact h
theorem small_bits (f:Nat) (hf:f<1024):smallN f=decide ((bitsN f).length≤1) :=
  have h:∀ f:Fin 1024,smallN f=decide ((bitsN f).length≤1):=by decide +kernel
  h ⟨f,hf⟩
theorem small_iff {f:Nat} (hf:f<1024):smallN f=true↔∀ s∈bitsN f,∀ t∈bitsN f,s=t:=by
  rw [small_bits f hf,decide_eq_true_eq]
  have hn:(bitsN f).Nodup:=List.nodup_range.filter _
  constructor
  · intro h s hs t ht
    match hb:bitsN f with
    | []=>rw [hb] at hs;simp at hs
    | [x]=>rw [hb] at hs ht;simp at hs ht;rw [hs,ht]
    | x :: y :: l=>rw [hb] at h;simp at h
  · intro h
    match hb:bitsN f with
    | []=>simp
    | [x]=>simp
    | x :: y :: l =>
      rw [hb] at hn h
      have:=h x (by simp) y (by simp)
      rw [this] at hn;simp at hn
theorem all_bits {n:Int} (hn:1≤n∧n≤10) {s:Nat}:s∈bitsN (2 ^ n.toNat - 1)↔(s:Int)<n:=by
  rw [mem_bits,Nat.testBit_two_pow_sub_one,decide_eq_true_eq];omega
end Go.Ab
namespace Go.Ab
def outA (out:List (List Int)) (s l:Int):Int:=(out.getD l.toNat []).getD s.toNat 0
def outsA (next out:List (List Int)):Int→List Int→List Int
  | _,[]=>[]
  | s,x :: w=>outA out s x :: outsA next out (stepA next s x) w
def lexP:List Int→List Int→Bool
  | x :: v,y :: w=>if x=y then lexP v w else decide (x<y)
  | _,_=>false
def befP (v w:List Int):Bool:=if v.length=w.length then lexP v w else decide (v.length<w.length)
end Go.Ab
namespace Go.Ab
theorem lexP_irrefl:∀ u:List Int,lexP u u=false
  | []=>rfl
  | x :: u=>by simp only [lexP,if_pos rfl];exact lexP_irrefl u
theorem lexP_trans:∀ {u v w:List Int},lexP u v=true→lexP v w=true→lexP u w=true
  | [],_,_,h,_=>by simp [lexP] at h
  | _ :: _,[],_,h,_=>by simp [lexP] at h
  | _ :: _,_ :: _,[],_,h=>by simp [lexP] at h
  | x :: u,y :: v,z :: w,h1,h2=>by
    simp only [lexP] at h1 h2 ⊢
    by_cases e1:x=y
    · subst e1
      rw [if_pos rfl] at h1
      by_cases e2:x=z
      · subst e2
        rw [if_pos rfl] at h2 ⊢
        exact lexP_trans h1 h2
      · rw [if_neg e2] at h2 ⊢;exact h2
    · rw [if_neg e1] at h1
      by_cases e2:y=z
      · subst e2
        rw [if_neg e1];exact h1
      · rw [if_neg e2] at h2
        have h1:=of_decide_eq_true h1
        have h2:=of_decide_eq_true h2
        rw [if_neg (by omega)];exact decide_eq_true (by omega)
theorem lexP_snoc:∀ {u v:List Int} {x y:Int},u.length=v.length→lexP u v=true→lexP (u ++ [x]) (v ++ [y])=true
  | [],_,_,_,_,h=>by simp [lexP] at h
  | _ :: _,[],_,_,_,h=>by simp [lexP] at h
  | a :: u,b :: v,x,y,hl,h=>by
    simp only [lexP,List.cons_append] at h ⊢
    by_cases e:a=b
    · rw [if_pos e] at h ⊢;exact lexP_snoc (by simpa using hl) h
    · rw [if_neg e] at h ⊢;exact h
theorem lexP_last:∀ {u:List Int} {x y:Int},x<y→lexP (u ++ [x]) (u ++ [y])=true
  | [],x,y,h=>by
    simp only [List.nil_append,lexP]
    rw [if_neg (by omega)];exact decide_eq_true h
  | a :: u,x,y,h=>by simp only [List.cons_append,lexP,if_pos rfl];exact lexP_last h
theorem befP_len {u v:List Int} (h:u.length<v.length):befP u v=true:=by
  rw [befP,if_neg (by omega)];exact decide_eq_true h
theorem befP_le {u v:List Int} (h:befP u v=true):u.length≤v.length:=by
  rw [befP] at h
  split at h
  · omega
  · have:=of_decide_eq_true h;omega
theorem befP_irrefl (u:List Int):befP u u=false:=by rw [befP,if_pos rfl];exact lexP_irrefl u
theorem befP_trans {u v w:List Int} (h1:befP u v=true) (h2:befP v w=true):befP u w=true:=by
  have l1:=befP_le h1
  have l2:=befP_le h2
  by_cases e:u.length=w.length
  · rw [befP,if_pos (by omega)] at h1 h2 ⊢
    exact lexP_trans h1 h2
  · exact befP_len (by omega)
theorem befP_snoc {u v:List Int} {x y:Int} (h:befP u v=true):befP (u ++ [x]) (v ++ [y])=true:=by
  have l1:=befP_le h
  by_cases e:u.length=v.length
  · rw [befP,if_pos e] at h
    rw [befP,if_pos (by simp [e])]
    exact lexP_snoc e h
  · exact befP_len (by simp;omega)
theorem befP_last {u:List Int} {x y:Int} (h:x<y):befP (u ++ [x]) (u ++ [y])=true:=by
  rw [befP,if_pos (by simp)];exact lexP_last h
def leP (u v:List Int):Prop:=befP u v=true∨u=v
theorem leP_trans {u v w:List Int} (h1:leP u v) (h2:leP v w):leP u w:=by
  rcases h1 with h1 | rfl
  · rcases h2 with h2 | rfl
    · exact .inl (befP_trans h1 h2)
    · exact .inl h1
  · exact h2
theorem leP_not {u v:List Int} (h:leP u v):befP v u=false:=by
  cases hb:befP v u with
  | false=>rfl
  | true =>
    rcases h with h | rfl
    · have:=befP_trans h hb
      rw [befP_irrefl] at this;cases this
    · rw [befP_irrefl] at hb;cases hb
def pairW (na nb:List (List Int)):Nat×Nat→List Int→Nat×Nat
  | p,[]=>p
  | p,x :: w=>pairW na nb (stepP na nb p x.toNat) w
def difW (na nb oa ob:List (List Int)):Nat×Nat→List Int→Bool
  | _,[]=>false
  | p,x :: w=>difP oa ob p x.toNat || difW na nb oa ob (stepP na nb p x.toNat) w
def isWd (k:Nat) (w:List Int):Prop:=∀ x∈w,0≤x∧x<k
structure BI (na nb oa ob:List (List Int)) (p0:Nat×Nat) (i:Nat) (L:PS):Prop where
  ok:∀ q∈L,q.1=pairW na nb p0 q.2∧difW na nb oa ob p0 q.2=false∧isWd na.length q.2
  so:L.Pairwise fun a b=>befP a.2 b.2=true
  par:∀ q∈L,q.2=[]∨∃ j<i,∃ y,q.2=(L.getD j ((0,0),[])).2 ++ [y]
  cl:∀ a<i,∀ x<na.length,difP oa ob (L.getD a ((0,0),[])).1 x=false∧∃ q∈L,q.1=stepP na nb (L.getD a ((0,0),[])).1 x∧leP q.2 ((L.getD a ((0,0),[])).2 ++ [(x:Int)])
  le:i≤L.length
  nil:∃ q∈L,q.1=p0∧q.2=[]
structure BV (na nb oa ob:List (List Int)) (p0:Nat×Nat) (i:Nat) (L:PS) (x:Nat) (L':PS):Prop where
  sub:∃ t,L'=L ++ t
  ok:∀ q∈L',q.1=pairW na nb p0 q.2∧difW na nb oa ob p0 q.2=false∧isWd na.length q.2
  so:L'.Pairwise fun a b=>befP a.2 b.2=true
  par:∀ q∈L',q.2=[]∨(∃ j<i,∃ y,q.2=(L.getD j ((0,0),[])).2 ++ [y])∨∃ y<x,q.2=(L.getD i ((0,0),[])).2 ++ [(y:Int)]
  cl:∀ y<x,∃ q∈L',q.1=stepP na nb (L.getD i ((0,0),[])).1 y∧leP q.2 ((L.getD i ((0,0),[])).2 ++ [(y:Int)])
end Go.Ab
namespace Go.Ab
section
variable {σ:Type} [DecidableEq σ] (δ:σ→Nat→Option σ)
def goG (p:σ):List Int→Option σ
  | []=>some p
  | x :: w=>match δ p x.toNat with
    | none=>none
    | some q=>goG q w
def hasG (L:List (σ×List Int)) (q:σ):Bool:=L.any fun p=>decide (p.1=q)
def visG (p:σ) (w:List Int):Nat→List (σ×List Int)→List (σ×List Int)
  | 0,L=>L
  | x+1,L=>match δ p x with
    | none=>visG p w x L
    | some q=>if hasG (visG p w x L) q=true then visG p w x L else visG p w x L ++ [(q,w ++ [(x:Int)])]
def runG (m:Nat) (d:σ×List Int):Nat→Nat→List (σ×List Int)→List (σ×List Int)
  | 0,_,L=>L
  | F+1,i,L=>if i<L.length then runG m d F (i+1) (visG δ (L.getD i d).1 (L.getD i d).2 m L) else L
theorem goG_snoc {w:List Int} {x:Int}:∀ {p:σ},goG δ p (w ++ [x])=(goG δ p w).bind fun q=>δ q x.toNat:=by
  induction w with
  | nil =>
    intro p
    simp only [List.nil_append,goG,Option.bind_some]
    cases δ p x.toNat <;> rfl
  | cons y w ih =>
    intro p
    simp only [List.cons_append,goG]
    cases δ p y.toNat with
    | none=>rfl
    | some q=>exact ih
theorem hasG_iff {L:List (σ×List Int)} {q:σ}:hasG L q=true↔∃ p∈L,p.1=q:=by
  simp only [hasG,List.any_eq_true,decide_eq_true_eq]
structure GI (D:σ→Prop) (m:Nat) (d:σ×List Int) (p0:σ) (i x:Nat) (L:List (σ×List Int)):Prop where
  so:L.Pairwise fun a b=>befP a.2 b.2=true
  up:i<L.length→∀ p∈L,∀ z:Int,(x:Int)≤z→befP p.2 ((L.getD i d).2 ++ [z])=true
  sd:∀ p∈L,goG δ p0 p.2=some p.1∧∀ y∈p.2,0≤y∧y<m
  rg:∀ p∈L,D p.1
  nd:(L.map (·.1)).Nodup
  cl:∀ j y q,(j<i∧y<m)∨(j=i∧y<x)→j<L.length→δ (L.getD j d).1 y=some q→∃ k,k<L.length∧(L.getD k d).1=q∧leP (L.getD k d).2 ((L.getD j d).2 ++ [(y:Int)])
  ze:∃ p∈L,p=(p0,[])
theorem appG_getD {L t:List (σ×List Int)} {i:Nat} {d:σ×List Int} (h:i<L.length):(L ++ t).getD i d=L.getD i d:=by
  rw [List.getD_eq_getElem?_getD,List.getElem?_append_left h,← List.getD_eq_getElem?_getD]
theorem lastG_getD {L:List (σ×List Int)} {p d:σ×List Int}:(L ++ [p]).getD L.length d=p:=by
  rw [List.getD_eq_getElem?_getD,List.getElem?_append_right (Nat.le_refl _),Nat.sub_self];rfl
variable {δ}
theorem GI.next {D:σ→Prop} {m:Nat} {d:σ×List Int} {p0:σ} {i x:Nat} {L:List (σ×List Int)} (hD:∀ p y q,D p→y<m→δ p y=some q→D q) (h:GI δ D m d p0 i x L) (hi:i<L.length) (hx:x<m) :
    match δ (L.getD i d).1 x with
    | none=>GI δ D m d p0 i (x+1) L
    | some q=>if hasG L q=true then GI δ D m d p0 i (x+1) L else GI δ D m d p0 i (x+1) (L ++ [(q,(L.getD i d).2 ++ [(x:Int)])]):=by
  have hm:=yz5 hi d
  cases hq:δ (L.getD i d).1 x with
  | none =>
    refine ⟨h.so,fun hi p hp z hz=>h.up hi p hp z (by omega),h.sd,h.rg,h.nd,fun j y q hj hjl hd=>?_,h.ze⟩
    by_cases e:j=i∧y=x
    · obtain ⟨rfl,rfl⟩:=e
      rw [hq] at hd;cases hd
    · exact h.cl j y q (by omega) hjl hd
  | some q =>
    simp only
    split
    · rename_i hh
      refine ⟨h.so,fun hi p hp z hz=>h.up hi p hp z (by omega),h.sd,h.rg,h.nd,fun j y q' hj hjl hd=>?_,h.ze⟩
      by_cases e:j=i∧y=x
      · obtain ⟨rfl,rfl⟩:=e
        rw [hq] at hd;cases hd
        obtain ⟨p,hp,rfl⟩:=(hasG_iff).1 hh
        obtain ⟨k,hk,hg⟩:=List.getElem_of_mem hp
        have hkd:L.getD k d=p:=by rw [List.getD_eq_getElem?_getD,List.getElem?_eq_getElem hk];exact hg
        exact ⟨k,hk,by rw [hkd],by rw [hkd];exact .inl (h.up hi p hp _ (Int.le_refl _))⟩
      · exact h.cl j y q' (by omega) hjl hd
    · rename_i hh
      have hgi:(L ++ [(q,(L.getD i d).2 ++ [(x:Int)])]).getD i d=L.getD i d:=appG_getD hi
      refine ⟨?_,?_,?_,?_,?_,?_,?_⟩
      · rw [List.pairwise_append]
        refine ⟨h.so,by simp,fun a ha b hb=>?_⟩
        have:b=(q,(L.getD i d).2 ++ [(x:Int)]):=by simpa using hb
        subst this
        exact h.up hi a ha _ (Int.le_refl _)
      · intro _ p hp z hz
        rw [hgi]
        rcases List.mem_append.1 hp with hp | hp
        · exact h.up hi p hp z (by omega)
        · have:p=(q,(L.getD i d).2 ++ [(x:Int)]):=by simpa using hp
          subst this
          exact befP_last (by omega)
      · intro p hp
        rcases List.mem_append.1 hp with hp | hp
        · exact h.sd p hp
        · have:p=(q,(L.getD i d).2 ++ [(x:Int)]):=by simpa using hp
          subst this
          obtain ⟨s1,s2⟩:=h.sd _ hm
          refine ⟨by rw [goG_snoc,s1];exact hq,fun y hy=>?_⟩
          rcases List.mem_append.1 hy with hy | hy
          · exact s2 y hy
          · have:y=(x:Int):=by simpa using hy
            omega
      · intro p hp
        rcases List.mem_append.1 hp with hp | hp
        · exact h.rg p hp
        · have:p=(q,(L.getD i d).2 ++ [(x:Int)]):=by simpa using hp
          subst this
          exact hD _ _ _ (h.rg _ hm) hx hq
      · rw [List.map_append,List.nodup_append]
        refine ⟨h.nd,by simp,fun a ha b hb e=>?_⟩
        have hb:b=q:=by simpa using hb
        obtain ⟨p,hp,rfl⟩:=List.mem_map.1 ha
        exact hh (hasG_iff.2 ⟨p,hp,by rw [e,hb]⟩)
      · intro j y q' hj hjl hd
        rw [List.length_append,List.length_singleton] at hjl
        by_cases e:j=i∧y=x
        · obtain ⟨rfl,rfl⟩:=e
          rw [hgi,hq] at hd;cases hd
          exact ⟨L.length,by simp,by rw [lastG_getD],by rw [lastG_getD,hgi];exact .inr rfl⟩
        · have hjl2:j<L.length:=by omega
          rw [appG_getD hjl2] at hd ⊢
          obtain ⟨k,k1,k2,k3⟩:=h.cl j y q' (by omega) hjl2 hd
          exact ⟨k,by rw [List.length_append];omega,by rw [appG_getD k1];exact k2,by rw [appG_getD k1];exact k3⟩
      · obtain ⟨p,hp,e⟩:=h.ze
        exact ⟨p,List.mem_append.2 (.inl hp),e⟩
theorem visG_pre {p:σ} {w:List Int}:∀ (x:Nat) (L:List (σ×List Int)),∃ t,visG δ p w x L=L ++ t
  | 0,L=>⟨[],by simp [visG]⟩
  | x+1,L=>by
    obtain ⟨t,h⟩:=visG_pre (p:=p) (w:=w) x L
    simp only [visG]
    cases δ p x with
    | none=>exact ⟨t,h⟩
    | some q =>
      simp only
      split
      · exact ⟨t,h⟩
      · exact ⟨t ++ [(q,w ++ [(x:Int)])],by rw [← List.append_assoc,← h]⟩
theorem GI.vis {D:σ→Prop} {m:Nat} {d:σ×List Int} {p0:σ} {i:Nat} {L:List (σ×List Int)} (hD:∀ p y q,D p→y<m→δ p y=some q→D q) (h:GI δ D m d p0 i 0 L) (hi:i<L.length) :
    ∀ x,x≤m→GI δ D m d p0 i x (visG δ (L.getD i d).1 (L.getD i d).2 x L)
  | 0,_=>h
  | x+1,hx=>by
    have h1:=GI.vis hD h hi x (by omega)
    obtain ⟨t,ht⟩:=visG_pre (δ:=δ) (p:=(L.getD i d).1) (w:=(L.getD i d).2) x L
    have hl:i<(visG δ (L.getD i d).1 (L.getD i d).2 x L).length:=by rw [ht,List.length_append];omega
    have hg:(visG δ (L.getD i d).1 (L.getD i d).2 x L).getD i d=L.getD i d:=by rw [ht];exact appG_getD hi
    have h2:=h1.next hD hl (by omega)
    rw [hg] at h2
    simp only [visG]
    cases hq:δ (L.getD i d).1 x with
    | none=>rw [hq] at h2;exact h2
    | some q =>
      rw [hq] at h2
      simp only at h2 ⊢
      split
      · rename_i hh;rw [if_pos hh] at h2;exact h2
      · rename_i hh;rw [if_neg hh] at h2;exact h2
theorem GI.succ {D:σ→Prop} {m:Nat} {d:σ×List Int} {p0:σ} {i:Nat} {L:List (σ×List Int)} (h:GI δ D m d p0 i m L):GI δ D m d p0 (i+1) 0 L:=by
  refine ⟨h.so,fun hi p hp z _=>?_,h.sd,h.rg,h.nd,fun j y q hj hjl hd=>h.cl j y q (by omega) hjl hd,h.ze⟩
  have h1:=h.up (by omega) p hp m (Int.le_refl _)
  refine befP_trans h1 (befP_snoc ?_)
  have:=List.pairwise_iff_getElem.1 h.so i (i+1) (by omega) hi (by omega)
  rw [List.getD_eq_getElem?_getD,List.getD_eq_getElem?_getD,List.getElem?_eq_getElem hi,List.getElem?_eq_getElem (show i<L.length by omega)]
  exact this
theorem GI.run {D:σ→Prop} {m N:Nat} {d:σ×List Int} {p0:σ} (hD:∀ p y q,D p→y<m→δ p y=some q→D q)
    (hN:∀ L:List (σ×List Int),(L.map (·.1)).Nodup→(∀ p∈L,D p.1)→L.length≤N):∀ (F i:Nat) (L:List (σ×List Int)),GI δ D m d p0 i 0 L→i≤L.length→N<F+i →
    GI δ D m d p0 (runG δ m d F i L).length 0 (runG δ m d F i L)
  | 0,i,L,h,hi,hF=>by
    have:=hN L h.nd h.rg
    omega
  | F+1,i,L,h,hi,hF=>by
    simp only [runG]
    split
    · rename_i hi1
      have h1:=(GI.vis hD h hi1 m (Nat.le_refl _)).succ
      obtain ⟨t,ht⟩:=visG_pre (δ:=δ) (p:=(L.getD i d).1) (w:=(L.getD i d).2) m L
      exact GI.run hD hN F (i+1) _ h1 (by rw [ht,List.length_append];omega) (by omega)
    · have:i=L.length:=by omega
      rw [← this];exact h
theorem GI.word {D:σ→Prop} {m:Nat} {d:σ×List Int} {p0:σ} {L:List (σ×List Int)} (h:GI δ D m d p0 L.length 0 L):∀ (k:Nat) (v:List Int),v.length=k→(∀ y∈v,0≤y∧y<m)→∀ q,goG δ p0 v=some q →
    ∃ j,j<L.length∧(L.getD j d).1=q∧leP (L.getD j d).2 v
  | 0,v,hk,_,q,hq=>by
    obtain rfl:v=[]:=List.eq_nil_of_length_eq_zero hk
    simp only [goG,Option.some.injEq] at hq
    obtain ⟨p,hp,e⟩:=h.ze
    obtain ⟨j,hj,hg⟩:=List.getElem_of_mem hp
    have hgd:L.getD j d=p:=by rw [List.getD_eq_getElem?_getD,List.getElem?_eq_getElem hj];exact hg
    exact ⟨j,hj,by rw [hgd,e];exact hq,by rw [hgd,e];exact .inr rfl⟩
  | k+1,v,hk,hv,q,hq=>by
    have hne:v≠[]:=fun e=>by rw [e] at hk;simp at hk
    have e:=List.dropLast_concat_getLast hne
    have hl:=hv _ (List.getLast_mem hne)
    have hq:goG δ p0 (v.dropLast ++ [v.getLast hne])=some q:=by rw [e];exact hq
    rw [goG_snoc] at hq
    cases hg:goG δ p0 v.dropLast with
    | none=>rw [hg] at hq;cases hq
    | some p =>
      rw [hg] at hq
      simp only [Option.bind_some] at hq
      obtain ⟨j,j1,j2,j3⟩:=GI.word h k v.dropLast (by rw [List.length_dropLast];omega) (fun y hy=>hv y (List.dropLast_subset v hy)) p hg
      obtain ⟨i,i1,i2,i3⟩:=h.cl j (v.getLast hne).toNat q (.inl ⟨j1,by omega⟩) j1 (by rw [j2];exact hq)
      refine ⟨i,i1,i2,leP_trans i3 ?_⟩
      have e2:(((v.getLast hne).toNat:Nat):Int)=v.getLast hne:=by omega
      rw [e2]
      have e3:leP ((L.getD j d).2 ++ [v.getLast hne]) (v.dropLast ++ [v.getLast hne]):=by
        rcases j3 with j3 | j3
        · exact .inl (befP_snoc j3)
        · rw [j3];exact .inr rfl
      rw [e] at e3;exact e3
theorem GI.first {D:σ→Prop} {m:Nat} {d:σ×List Int} {p0:σ} {L:List (σ×List Int)} (h:GI δ D m d p0 L.length 0 L) (g:σ→Bool) :
    match L.find? (fun p=>g p.1) with
    | some (q,w)=>goG δ p0 w=some q∧g q=true∧(∀ y∈w,0≤y∧y<m)∧∀ v:List Int,(∀ y∈v,0≤y∧y<m)→∀ q',goG δ p0 v=some q'→g q'=true→befP v w=false
    | none=>∀ v:List Int,(∀ y∈v,0≤y∧y<m)→∀ q',goG δ p0 v=some q'→g q'=false:=by
  cases hf:L.find? (fun p=>g p.1) with
  | none =>
    intro v hv q' hq'
    obtain ⟨j,j1,j2,_⟩:=h.word v.length v rfl hv q' hq'
    have:=List.find?_eq_none.1 hf _ (yz5 j1 d)
    rw [j2] at this;simpa using this
  | some p =>
    obtain ⟨q,w⟩:=p
    have hm:=List.mem_of_find?_eq_some hf
    have hg:=List.find?_some hf
    obtain ⟨s1,s2⟩:=h.sd _ hm
    refine ⟨s1,hg,s2,fun v hv q' hq' hgq=>?_⟩
    obtain ⟨j,j1,j2,j3⟩:=h.word v.length v rfl hv q' hq'
    refine leP_not ?_
    refine leP_trans ?_ j3
    obtain ⟨_,la,lb,hab,hno⟩:=List.find?_eq_some_iff_append.1 hf
    have hj:la.length≤j:=by
      rcases Nat.lt_or_ge j la.length with hlt | hge
      · exfalso
        have hjm:L.getD j d∈la:=by
          rw [hab,List.getD_eq_getElem?_getD,List.getElem?_append_left hlt,List.getElem?_eq_getElem hlt]
          exact List.getElem_mem hlt
        have:=hno _ hjm
        rw [j2,hgq] at this;simp at this
      · exact hge
    have hla:la.length<L.length:=by omega
    have hgw:L.getD la.length d=(q,w):=by
      rw [hab,List.getD_eq_getElem?_getD,List.getElem?_append_right (Nat.le_refl _),Nat.sub_self];rfl
    rcases Nat.lt_or_ge la.length j with hlt | hge
    · have:=List.pairwise_iff_getElem.1 h.so la.length j hla j1 hlt
      have e1:L[la.length]=(q,w):=by rw [← hgw,List.getD_eq_getElem?_getD,List.getElem?_eq_getElem hla];rfl
      have e2:L[j]=L.getD j d:=by rw [List.getD_eq_getElem?_getD,List.getElem?_eq_getElem j1];rfl
      rw [e1,e2] at this
      exact .inl this
    · have:j=la.length:=by omega
      rw [this,hgw];exact .inr rfl
end
end Go.Ab
namespace Go.Ab
def pop (f:Nat):Nat:=(bitsN f).length
def parF (nr or:List Int) (o:Int) (D:List Nat):List Nat:=D.flatMap fun f=>(dvF nr or o (bitsTo f 10)).1
def clrF (nr or:List Int) (o:Int) (D:List Nat):Bool:=D.all fun f=>(dvF nr or o (bitsTo f 10)).2
def nrmF (ps:List Nat):List Nat:=(List.range 1024).filter fun f=>decide (f∈ps) && !smallN f
def dbtD (next out:List (List Int)) (o:Int) (tells:Bool) (D:List Nat) (x:Nat):Option (List Nat) :=
  if (tells && !(clrF (next.getD x []) (out.getD x []) o D))=true then none else some (nrmF (parF (next.getD x []) (out.getD x []) o D))
theorem nrmF_mem {ps:List Nat} {f:Nat} (hp:∀ f∈ps,f<1024):f∈nrmF ps↔f∈ps∧smallN f=false:=by
  simp only [nrmF,List.mem_filter,List.mem_range,Bool.and_eq_true,decide_eq_true_eq,Bool.not_eq_true']
  constructor
  · rintro ⟨_,h⟩;exact h
  · rintro ⟨h1,h2⟩;exact ⟨hp f h1,h1,h2⟩
theorem nrmF_lt (ps:List Nat):(nrmF ps).Pairwise (·<·):=List.Pairwise.filter _ List.pairwise_lt_range
theorem count_or:∀ (l:List Nat) (a k:Nat),l.Nodup→(l.filter fun s=>(a ||| 2 ^ k).testBit s).length≤(l.filter fun s=>a.testBit s).length+(if k∈l then 1 else 0)
  | [],_,_,_=>by simp
  | s :: l,a,k,hd=>by
    rw [List.nodup_cons] at hd
    have ih:=count_or l a k hd.2
    have e:(a ||| 2 ^ k).testBit s=(a.testBit s || decide (k=s)):=by
      rw [Nat.testBit_or,Nat.testBit_two_pow]
    by_cases hs:k=s
    · subst hs
      rw [if_neg hd.1] at ih
      rw [if_pos (by simp),List.filter_cons,List.filter_cons,e]
      simp only [decide_true,Bool.or_true,if_true,List.length_cons]
      split
      · rw [List.length_cons];omega
      · omega
    · have hm:(k∈s :: l)↔k∈l:=by simp [hs]
      rw [List.filter_cons,List.filter_cons,e]
      simp only [hs,decide_false,Bool.or_false]
      have:(if k∈s :: l then 1 else 0)=if k∈l then 1 else 0:=by simp only [hm]
      rw [this]
      by_cases hb:a.testBit s=true
      · simp only [hb,if_true,List.length_cons];omega
      · simp only [hb,if_false];exact ih
theorem pop_or (a k:Nat):pop (a ||| 2 ^ k)≤pop a+1:=by
  have:=count_or (List.range 10) a k List.nodup_range
  unfold pop bitsN
  split at this <;> omega
theorem sum_set:∀ (l:List Nat) (i v:Nat),(l.set i v).sum+l.getD i 0≤l.sum+v
  | [],_,_=>by simp
  | a :: l,0,v=>by simp;omega
  | a :: l,i+1,v=>by
    have:=sum_set l i v
    simp only [List.set_cons_succ,List.sum_cons,List.getD_cons_succ];omega
theorem pop_zero:pop 0=0:=by decide
theorem sum_rep (n:Nat):((List.replicate n 0).map pop).sum=0:=by
  induction n with
  | zero=>rfl
  | succ n ih=>rw [List.replicate_succ,List.map_cons,List.sum_cons,ih,pop_zero]
theorem dvS_sum {nr or:List Int} {D:List Nat×Bool} {s:Int}:((dvS nr or D s).1.map pop).sum≤(D.1.map pop).sum+1:=by
  unfold dvS
  dsimp only
  generalize (or.getD s.toNat 0).toNat=i
  generalize (nr.getD s.toNat 0).toNat=k
  rw [List.map_set]
  have h1:=sum_set (D.1.map pop) i (pop (D.1.getD i 0 ||| 2 ^ k))
  have h2:=pop_or (D.1.getD i 0) k
  have h3:(D.1.map pop).getD i 0=pop (D.1.getD i 0):=by
    rw [List.getD_eq_getElem?_getD,List.getElem?_map,List.getD_eq_getElem?_getD]
    cases D.1[i]? with
    | none=>exact pop_zero.symm
    | some a=>rfl
  rw [h3] at h1;omega
theorem dvFold_sum {nr or:List Int}:∀ (S:List Int) (D:List Nat×Bool),((S.foldl (dvS nr or) D).1.map pop).sum≤(D.1.map pop).sum+S.length
  | [],D=>by simp
  | s :: S,D=>by
    have h1:=dvFold_sum (nr:=nr) (or:=or) S (dvS nr or D s)
    have h2:=dvS_sum (nr:=nr) (or:=or) (D:=D) (s:=s)
    rw [List.foldl_cons,List.length_cons];omega
theorem dvF_sum {nr or:List Int} {o:Int} {S:List Int}:((dvF nr or o S).1.map pop).sum≤S.length:=by
  have:=dvFold_sum (nr:=nr) (or:=or) S (List.replicate o.toNat 0,true)
  rw [sum_rep] at this
  unfold dvF;omega
theorem dvFold_len {nr or:List Int}:∀ (S:List Int) (D:List Nat×Bool),(S.foldl (dvS nr or) D).1.length=D.1.length
  | [],D=>rfl
  | s :: S,D=>by rw [List.foldl_cons,dvFold_len S];simp [dvS]
theorem dvF_len {nr or:List Int} {o:Int} {S:List Int}:(dvF nr or o S).1.length=o.toNat:=by
  unfold dvF;rw [dvFold_len];simp
theorem dvFold_lt {nr or:List Int} {n:Nat} (hr:∀ s∈nr,s.toNat<n) (hl:∀ D:List Nat×Bool,True):∀ (S:List Int) (D:List Nat×Bool),(∀ s∈S,s.toNat<nr.length)→(∀ g∈D.1,g<2 ^ n)→∀ g∈(S.foldl (dvS nr or) D).1,g<2 ^ n
  | [],D,_,h=>h
  | s :: S,D,hS,h=>by
    rw [List.foldl_cons]
    refine dvFold_lt hr hl S _ (fun s hs=>hS s (List.mem_cons_of_mem _ hs)) fun g hg=>?_
    unfold dvS at hg
    dsimp only at hg
    rcases List.mem_or_eq_of_mem_set hg with hg | rfl
    · exact h g hg
    · refine Nat.or_lt_two_pow ?_ (Nat.pow_lt_pow_right (by omega) (hr _ (yz5 (hS s (by simp)) 0)))
      by_cases hi:(or.getD s.toNat 0).toNat<D.1.length
      · exact h _ (yz5 hi 0)
      · rw [List.getD_eq_getElem?_getD,List.getElem?_eq_none (by omega)];exact Nat.two_pow_pos n
theorem dvF_lt {nr or:List Int} {o:Int} {n:Nat} {S:List Int} (hr:∀ s∈nr,s.toNat<n) (hS:∀ s∈S,s.toNat<nr.length):∀ g∈(dvF nr or o S).1,g<2 ^ n:=by
  refine dvFold_lt hr (fun _=>trivial) S _ hS fun g hg=>?_
  rw [(List.mem_replicate.1 hg).2];exact Nat.two_pow_pos n
theorem parF_sum {nr or:List Int} {o:Int}:∀ {D:List Nat},((parF nr or o D).map pop).sum≤(D.map pop).sum
  | []=>by simp [parF]
  | f :: D=>by
    have h1:=parF_sum (nr:=nr) (or:=or) (o:=o) (D:=D)
    have h2:=dvF_sum (nr:=nr) (or:=or) (o:=o) (S:=bitsTo f 10)
    have h3:(bitsTo f 10).length=pop f:=by unfold bitsTo pop bitsN;simp
    unfold parF at h1 ⊢
    rw [List.flatMap_cons,List.map_append,List.sum_append,List.map_cons,List.sum_cons];omega
theorem sum_sub (g:Nat→Nat):∀ {q ps:List Nat},q.Nodup→(∀ f∈q,f∈ps)→(q.map g).sum≤(ps.map g).sum
  | [],_,_,_=>by simp
  | a :: q,ps,hd,h=>by
    rw [List.nodup_cons] at hd
    have ha:=h a (by simp)
    have h1:=(List.perm_cons_erase ha)
    have h2:(ps.map g).sum=((a :: ps.erase a).map g).sum:=(h1.map g).sum_nat
    rw [h2,List.map_cons,List.sum_cons,List.map_cons,List.sum_cons]
    have h3:=sum_sub g (q:=q) (ps:=ps.erase a) hd.2 fun f hf=>(List.mem_erase_of_ne (fun e=>hd.1 (by rw [← e];exact hf))).2 (h f (List.mem_cons_of_mem _ hf))
    omega
theorem len_sub {α:Type} [DecidableEq α]:∀ {q ps:List α},q.Nodup→(∀ f∈q,f∈ps)→q.length≤ps.length
  | [],_,_,_=>by simp
  | a :: q,ps,hd,h=>by
    rw [List.nodup_cons] at hd
    have ha:=h a (by simp)
    have h1:=(List.perm_cons_erase ha).length_eq
    have h3:=len_sub (q:=q) (ps:=ps.erase a) hd.2 fun f hf=>(List.mem_erase_of_ne (fun e=>hd.1 (by rw [← e];exact hf))).2 (h f (List.mem_cons_of_mem _ hf))
    rw [List.length_cons] at h1 ⊢;omega
structure DB (n:Nat) (q:List Nat):Prop where
  lt:q.Pairwise (·<·)
  el:∀ f∈q,f<2 ^ n∧smallN f=false
  sm:(q.map pop).sum≤n
theorem two_sum:∀ {q:List Nat},(∀ f∈q,f<1024∧smallN f=false)→2 * q.length≤(q.map pop).sum
  | [],_=>by simp
  | f :: q,h=>by
    have h1:=two_sum (q:=q) fun g hg=>h g (List.mem_cons_of_mem _ hg)
    obtain ⟨h2,h3⟩:=h f (by simp)
    rw [small_bits f h2] at h3
    have:¬ (bitsN f).length≤1:=by simpa using h3
    rw [List.map_cons,List.sum_cons,List.length_cons]
    unfold pop at h1 ⊢;omega
theorem DB.len {n:Nat} {q:List Nat} (h:DB n q) (hn:n≤10):2 * q.length≤n:=by
  have hN:2 ^ n≤1024:=Nat.pow_le_pow_right (n:=2) (by omega) (show n≤10 by omega)
  have:=two_sum (q:=q) fun f hf=>⟨Nat.lt_of_lt_of_le (h.el f hf).1 hN,(h.el f hf).2⟩
  have:=h.sm;omega
theorem DB.nil (n:Nat):DB n []:=⟨by simp,by simp,by simp⟩
theorem parF_lt {nr or:List Int} {o:Int} {n:Nat} {D:List Nat} (hr:∀ s∈nr,s.toNat<n) (hnl:nr.length=n) (hD:∀ f∈D,f<2 ^ n):∀ g∈parF nr or o D,g<2 ^ n:=by
  intro g hg
  obtain ⟨f,hf,hg⟩:=List.mem_flatMap.1 hg
  refine dvF_lt hr (fun s hs=>?_) g hg
  obtain ⟨k,hk,rfl⟩:=List.mem_map.1 (show s∈(bitsN f).map (fun (s:Nat)=>(s:Int)) from hs)
  have h2:=Nat.ge_two_pow_of_testBit (mem_bits.1 hk).2
  have h3:k<n:=(Nat.pow_lt_pow_iff_right (a:=2) (by omega)).1 (Nat.lt_of_le_of_lt h2 (hD f hf))
  rw [hnl];omega
theorem DB.next {n:Nat} {q:List Nat} (h:DB n q) (hn:n≤10) {nr or:List Int} {o:Int} (hr:∀ s∈nr,s.toNat<n) (hnl:nr.length=n):DB n (nrmF (parF nr or o q)):=by
  have hN:2 ^ n≤1024:=Nat.pow_le_pow_right (n:=2) (by omega) (show n≤10 by omega)
  have hlt:=parF_lt (or:=or) (o:=o) hr hnl fun f hf=>(h.el f hf).1
  have hm:=fun f=>nrmF_mem (f:=f) fun g hg=>Nat.lt_of_lt_of_le (hlt g hg) hN
  refine ⟨nrmF_lt _,fun f hf=>⟨hlt f ((hm f).1 hf).1,((hm f).1 hf).2⟩,?_⟩
  have h1:=sum_sub pop (q:=nrmF (parF nr or o q)) (ps:=parF nr or o q) ((nrmF_lt _).imp fun h=>Nat.ne_of_lt h) fun f hf=>((hm f).1 hf).1
  have h2:=parF_sum (nr:=nr) (or:=or) (o:=o) (D:=q)
  have h3:=h.sm
  omega
theorem DB_all {n:Int} (n1:1≤n) (n2:n≤10) (hn:n > 1):DB n.toNat [2 ^ n.toNat - 1]:=by
  have key:∀ k:Fin 11,2≤k.val→smallN (2 ^ k.val - 1)=false∧pop (2 ^ k.val - 1)=k.val:=by decide +kernel
  obtain ⟨k1,k2⟩:=key ⟨n.toNat,by omega⟩ (by show 2≤n.toNat;omega)
  have hp:=Nat.two_pow_pos n.toNat
  refine ⟨by simp,fun f hf=>?_,?_⟩
  · rw [List.mem_singleton.1 hf];exact ⟨by omega,k1⟩
  · have k2:pop (2 ^ n.toNat - 1)=n.toNat:=k2
    simp [k2]
end Go.Ab
namespace Go.Ab
theorem vis_in {C:Int→Prop} {s:Int}:∀ {rs:List (List Int)} {l:List Int},(∀ row∈rs,C (row.getD s.toNat 0))→(∀ x∈l,C x)→∀ x∈visK s rs l,C x
  | [],_,_,h=>h
  | row :: rs,l,hr,h=>by
    refine vis_in (rs:=rs) (fun r hm=>hr r (by simp [hm])) fun x hx=>?_
    unfold addL at hx
    split at hx
    · exact h x hx
    · rcases List.mem_append.1 hx with hx | hx
      · exact h x hx
      · rw [List.mem_singleton.1 hx];exact hr row (by simp)
theorem runL_in {C:Int→Prop} {next:List (List Int)} (hC:∀ x,C x→∀ row∈next,C (row.getD x.toNat 0)):∀ (f:Nat) {l:List Int} {i:Nat},(∀ x∈l,C x)→∀ x∈runL next f l i,C x
  | 0,_,_,h=>h
  | f+1,l,i,h=>by
    simp only [runL]
    split
    · rename_i hi
      exact runL_in hC f (vis_in (hC _ (h _ (yz5 hi 0))) h)
    · exact h
theorem reach_min {C:Int→Prop} {n s:Int} {next:List (List Int)} (hC:∀ x,C x→∀ row∈next,C (row.getD x.toNat 0)) (hs:C s):∀ x∈reachL n next s,C x :=
  runL_in hC _ fun x hx=>by rw [List.mem_singleton.1 hx];exact hs
theorem allS_mem {n t:Int}:t∈allS n↔0≤t∧t<n:=by
  unfold allS
  rw [List.mem_map]
  constructor
  · rintro ⟨k,hk,rfl⟩
    have:=List.mem_range.1 hk
    omega
  · rintro ⟨h1,h2⟩
    exact ⟨t.toNat,List.mem_range.2 (by omega),by omega⟩
theorem stepA_in {n:Int} {next:List (List Int)} (A:Aut n next) {s x:Int} (hs:0≤s∧s<n) (hx:0≤x∧x<next.length):0≤stepA next s x∧stepA next s x<n:=by
  have h:=A.row _ (yz5 (show x.toNat<next.length by omega) [])
  exact h.2 _ (yz5 (by omega) 0)
theorem atA_in {n:Int} {next:List (List Int)} (A:Aut n next):∀ {w:List Int} {s:Int},(0≤s∧s<n)→IsW next.length w→0≤atA next s w∧atA next s w<n
  | [],_,hs,_=>hs
  | x :: w,s,hs,hw=>atA_in A (w:=w) (s:=stepA next s x) (stepA_in A hs (hw x (by simp))) fun y hy=>hw y (by simp [hy])
def Per (n:Int) (next:List (List Int)) (far:Int→Int) (p:Int):Prop:=∀ s x,0≤s∧s<n→0≤x∧x<(next.length:Int)→p ∣ far s+1 - far (stepA next s x)
theorem Per.word {n p:Int} {next:List (List Int)} {far:Int→Int} (A:Aut n next) (h:Per n next far p):∀ {w:List Int} {s:Int},(0≤s∧s<n)→IsW next.length w→p ∣ far s+w.length - far (atA next s w)
  | [],s,_,_=>by
    have e:far s+(([]:List Int).length:Int) - far (atA next s [])=0:=by simp [atA]
    rw [e];exact Int.dvd_zero p
  | x :: w,s,hs,hw=>by
    have hx:=hw x (by simp)
    have h1:=h s x hs hx
    have h2:=Per.word A h (w:=w) (s:=stepA next s x) (stepA_in A hs hx) fun y hy=>hw y (by simp [hy])
    have e:far s+((x :: w).length:Int) - far (atA next s (x :: w))=(far s+1 - far (stepA next s x))+(far (stepA next s x)+(w.length:Int) - far (atA next (stepA next s x) w)):=by
      have e2:atA next s (x :: w)=atA next (stepA next s x) w:=rfl
      rw [e2,List.length_cons];omega
    rw [e];exact Int.dvd_add h1 h2
theorem Per.loop {n p s:Int} {next:List (List Int)} {far:Int→Int} (A:Aut n next) (h:Per n next far p) {w:List Int} (hs:0≤s∧s<n) (hw:IsW next.length w) (e:atA next s w=s):p ∣ (w.length:Int):=by
  have:=h.word A hs hw
  rw [e] at this
  rwa [show far s+(w.length:Int) - far s=w.length by omega] at this
theorem Per.pos {n p:Int} {next:List (List Int)} {far:Int→Int} (A:Aut n next) (h:Per n next far p):p≠0:=by
  intro hp
  subst hp
  have n1:=A.n1
  have l1:=A.l1
  have hW:∀ k:Nat,IsW next.length (List.replicate k 0):=fun k x hx=>by rw [List.eq_of_mem_replicate hx];omega
  have hf:∀ k:Nat,far (atA next 0 (List.replicate k 0))=far 0+k:=fun k=>by
    have:=Int.zero_dvd.1 (h.word A (s:=0) ⟨Int.le_refl 0,by omega⟩ (hW k))
    rw [List.length_replicate] at this;omega
  have hl:=len_sub (q:=(List.range (n.toNat+1)).map fun k=>atA next 0 (List.replicate k 0)) (ps:=allS n) (by
    refine (List.pairwise_map.2 (List.nodup_range.imp fun {a b} hne e=>hne ?_))
    have h1:=hf a
    have h2:=hf b
    rw [e] at h1;omega) fun t ht=>by
    obtain ⟨k,_,rfl⟩:=List.mem_map.1 ht
    exact allS_mem.2 (atA_in A ⟨Int.le_refl 0,by omega⟩ (hW k))
  unfold allS at hl
  rw [List.length_map,List.length_range,List.length_map,List.length_range] at hl
  omega
end Go.Ab
namespace Go.Ab
open Go.Proofs
def conB (n:Int) (next:List (List Int)):Bool:=(List.range n.toNat).all fun (s:Nat)=>!decide (((nrm (reachL n next s)).length:Int)<n)
theorem k_isConnected (n:Int) (next:List (List Int)) (A:Aut n next):Fun Try.prog nz45 [autA n next] (bv (conB n next)):=by
  refine fun_of mixed czo6 rfl ⟨rfl,trivial⟩ ?_
  have n1:=A.n1
  have n2:=A.n2
  simp only [Azio,Bzin,Bzil,go_sem,yz0,xx9,xx8,xx6,xx7,xx5,xx0,xx1,xx2,reduceIte,xx3,xx4,reduceCtorEq]
  intro vs
  refine wpD_lo (fun s=>n.toNat - s) (fun s=>s≤n.toNat∧((List.range s).all fun (s:Nat)=>!decide (((nrm (reachL n next s)).length:Int)<n))=true)
    (fun s:Nat=>⟨L .any [(1,.ptr 1 (vs 0 0) 0),(5,iv n),(6,iv s)],L .gone [(1,.box (vs 0 0) [iv n,.ro none 1 (rwn next)])]⟩) 0 ⟨by omega,rfl⟩ (by simp only [Bz2n,go_sem,yz0,xx9,xx8,xx6,xx7,xx5,xx0,xx1,xx2,reduceIte,xx3,xx4,reduceCtorEq];try rfl) ?_
  rintro s ⟨hs,ha⟩
  by_cases hlt:(s:Int)<n
  · simp only [Bz2n,Bz8w,Bzik,Bzii,decide_eq_true hlt,go_sem,yz0,xx9,xx8,xx6,xx7,xx5,xx0,xx1,xx2,reduceIte,xx3,xx4,reduceCtorEq]
    intro vs2
    refine call_rowI (k_reached n next s A (by omega)) qCS qGN ⟨_,rfl⟩ ?_
    rintro ys v rfl
    simp only [go_sem,yz0,xx9,xx8,xx6,xx7,xx5,xx0,xx1,xx2,reduceIte,xx3,xx4,reduceCtorEq]
    refine yz4 (k_size (nrm (reachL n next s))) qCS trivial ?_
    have ws:IntKind.i64.wrap ((s:Int)+1)=((s+1:Nat):Int):=by rw [w64 (by omega)];simp
    by_cases hd:((nrm (reachL n next s)).length:Int)<n
    · simp only [Bz8v,decide_eq_true hd,go_sem,yz0,xx9,xx8,xx6,xx7,xx5,xx0,xx1,xx2,reduceIte,xx3,xx4,reduceCtorEq]
      have:conB n next=false:=by
        rw [Bool.eq_false_iff]
        intro h
        have:=List.all_eq_true.1 h s (List.mem_range.2 (by omega))
        rw [decide_eq_true hd] at this;cases this
      rw [this]
    · simp only [Bz8v,Bzij,decide_eq_false hd,ws,go_sem,yz0,xx9,xx8,xx6,xx7,xx5,xx0,xx1,xx2,reduceIte,xx3,xx4,reduceCtorEq]
      exact ⟨s+1,by omega,⟨by omega,by rw [List.range_succ,List.all_append,ha];simp [decide_eq_false hd]⟩,rfl⟩
  · obtain rfl:s=n.toNat:=by omega
    simp only [Bz2n,Bz8w,Bzim,decide_eq_false hlt,go_sem,yz0,xx9,xx8,xx6,xx7,xx5,xx0,xx1,xx2,reduceIte,xx3,xx4,reduceCtorEq]
    unfold conB
    rw [ha]
end Go.Ab
namespace Go.Ab
def divS:Int→List Int→Bool
  | _,[]=>true
  | u,c :: cs=>(decide (0≤c) && decide (c≤u)) && divS (max u (c+1)) cs
def usedS:Int→List Int→Int
  | u,[]=>u
  | u,c :: cs=>usedS (max u (c+1)) cs
def divB (cl:List Int) (n:Int):Bool:=divS 0 cl && decide ((cl.length:Int)=n)
theorem used_ge:∀ {cs:List Int} {u:Int},u≤usedS u cs
  | [],_=>Int.le_refl _
  | c :: cs,u=>by
    have:=used_ge (cs:=cs) (u:=max u (c+1))
    simp only [usedS];omega
theorem used_mem:∀ {cs:List Int} {u c:Int},c∈cs→c+1≤usedS u cs
  | x :: cs,u,c,h=>by
    simp only [usedS]
    rcases List.mem_cons.1 h with rfl | h
    · have:=used_ge (cs:=cs) (u:=max u (c+1));omega
    · exact used_mem h
theorem divS_cons {u c:Int} {cs:List Int}:divS u (c :: cs)=true↔(0≤c∧c≤u)∧divS (max u (c+1)) cs=true:=by
  simp [divS,Bool.and_eq_true,decide_eq_true_eq]
theorem div_nn:∀ {cs:List Int} {u c:Int},divS u cs=true→c∈cs→0≤c
  | x :: cs,u,c,h,hc=>by
    obtain ⟨h1,h2⟩:=divS_cons.1 h
    rcases List.mem_cons.1 hc with rfl | hc
    · exact h1.1
    · exact div_nn h2 hc
theorem div_surj:∀ {cs:List Int} {u c:Int},divS u cs=true→u≤c→c<usedS u cs→c∈cs
  | [],u,c,_,h1,h2=>by simp only [usedS] at h2;omega
  | x :: cs,u,c,h,h1,h2=>by
    obtain ⟨g1,g2⟩:=divS_cons.1 h
    simp only [usedS] at h2
    by_cases e:c=x
    · rw [e];simp
    · exact List.mem_cons_of_mem _ (div_surj g2 (by omega) h2)
theorem used_len:∀ {cs:List Int} {u:Int},divS u cs=true→usedS u cs≤u+cs.length
  | [],u,_=>by simp [usedS]
  | x :: cs,u,h=>by
    obtain ⟨g1,g2⟩:=divS_cons.1 h
    have:=used_len g2
    simp only [usedS,List.length_cons];omega
theorem divS_snoc:∀ {cs:List Int} {u c:Int},divS u (cs ++ [c])=(divS u cs && (decide (0≤c) && decide (c≤usedS u cs)))
  | [],u,c=>by simp only [List.nil_append,divS,usedS,Bool.and_true,Bool.true_and];rfl
  | x :: cs,u,c=>by simp only [List.cons_append,divS,usedS,divS_snoc (cs:=cs),Bool.and_assoc];rfl
theorem used_snoc:∀ {cs:List Int} {u c:Int},usedS u (cs ++ [c])=max (usedS u cs) (c+1)
  | [],u,c=>rfl
  | x :: cs,u,c=>by simp only [List.cons_append,usedS,used_snoc (cs:=cs)]
structure Div (cl:List Int) (n k:Int):Prop where
  ln:(cl.length:Int)=n
  nn:∀ c∈cl,0≤c∧c<k
  on:∀ c,0≤c→c<k→c∈cl
  le:k≤n
theorem Div.of {cl:List Int} {n:Int} (h:divB cl n=true):Div cl n (usedS 0 cl):=by
  unfold divB at h
  rw [Bool.and_eq_true,decide_eq_true_eq] at h
  exact ⟨h.2,fun c hc=>⟨div_nn h.1 hc,by have:=used_mem (u:=0) hc;omega⟩,fun c h1 h2=>div_surj h.1 h1 h2,by have:=used_len h.1;omega⟩
theorem Div.at {cl:List Int} {n k:Int} (D:Div cl n k) {s:Nat} (hs:(s:Int)<n):0≤cl.getD s 0∧cl.getD s 0<k:=D.nn _ (yz5 (by have:=D.ln;omega) 0)
theorem Div.pos {cl:List Int} {n k:Int} (D:Div cl n k) (hn:1≤n):1≤k:=by
  have:=D.at (s:=0) (by omega);omega
end Go.Ab
namespace Go.Ab
open Go.Proofs
structure TidP (xs ys:List Int):Prop where
  ln:ys.length≤xs.length
  dv:divS 0 ys=true
  eq:∀ i j,i<ys.length→j<ys.length→(ys.getD i 0=ys.getD j 0↔xs.getD i 0=xs.getD j 0)
theorem TidP.nil {xs:List Int}:TidP xs []:=⟨by simp,rfl,by simp⟩
theorem getD_snl {ys:List Int} {c:Int} {i:Nat} (h:i<ys.length):(ys ++ [c]).getD i 0=ys.getD i 0:=by
  rw [List.getD_eq_getElem?_getD,List.getElem?_append_left h,← List.getD_eq_getElem?_getD]
theorem getD_snr {ys:List Int} {c:Int}:(ys ++ [c]).getD ys.length 0=c:=by
  rw [List.getD_eq_getElem?_getD,List.getElem?_append_right (Nat.le_refl _)];simp
theorem TidP.add {xs ys:List Int} {c:Int} (T:TidP xs ys) (hlt:ys.length<xs.length) (hd:0≤c∧c≤usedS 0 ys) (he:∀ i<ys.length,(ys.getD i 0=c↔xs.getD i 0=xs.getD ys.length 0)):TidP xs (ys ++ [c]):=by
  refine ⟨by simp;omega,by rw [divS_snoc,T.dv];simp [hd],fun i j hi hj=>?_⟩
  rw [List.length_append,List.length_singleton] at hi hj
  by_cases h1:i<ys.length
  · by_cases h2:j<ys.length
    · rw [getD_snl h1,getD_snl h2];exact T.eq i j h1 h2
    · obtain rfl:j=ys.length:=by omega
      rw [getD_snl h1,getD_snr];exact he i h1
  · obtain rfl:i=ys.length:=by omega
    by_cases h2:j<ys.length
    · rw [getD_snl h2,getD_snr]
      constructor
      · intro h;exact ((he j h2).1 h.symm).symm
      · intro h;exact ((he j h2).2 h.symm).symm
    · obtain rfl:j=ys.length:=by omega
      simp
theorem TidP.new {xs ys:List Int} (T:TidP xs ys) (hlt:ys.length<xs.length) (h:∀ k<ys.length,xs.getD k 0≠xs.getD ys.length 0):TidP xs (ys ++ [usedS 0 ys]):=by
  refine T.add hlt ⟨used_ge,Int.le_refl _⟩ fun i hi=>⟨fun e=>?_,fun e=>absurd e (h i hi)⟩
  have:=used_mem (u:=0) (yz5 hi 0)
  omega
theorem TidP.old {xs ys:List Int} (T:TidP xs ys) (hlt:ys.length<xs.length) {k:Nat} (hk:k<ys.length) (h:xs.getD k 0=xs.getD ys.length 0):TidP xs (ys ++ [ys.getD k 0]):=by
  have hm:=yz5 hk 0
  refine T.add hlt ⟨div_nn T.dv hm,by have:=used_mem (u:=0) hm;omega⟩ fun i hi=>?_
  rw [T.eq i k hi hk,h]
end Go.Ab
namespace Go.Ab
open Go.Proofs
end Go.Ab
namespace Go.Ab
open Go.Proofs
end Go.Ab
namespace Go.Ab
end Go.Ab
namespace Go.Ab
theorem appg_new {α:Type} {xs:List α} {y d:α}:(xs ++ [y]).getD xs.length d=y:=by
  simp [List.getD_eq_getElem?_getD]
end Go.Ab
namespace Go.Ab
structure CI (n:Int) (L:List Int):Prop where
  nd:L.Nodup
  rg:∀ s∈L,0≤s∧s<n
  hd:L.getD 0 1=0
theorem CI.len {n:Int} {L:List Int} (h:CI n L) (hn:n≤10):1≤L.length∧L.length≤10:=by
  have h1:L≠[]:=fun e=>by have:=h.hd;rw [e] at this;simp at this
  have hm:(L.map Int.toNat).Nodup:=by
    refine List.Pairwise.map _ ?_ (List.Pairwise.and_mem.1 h.nd)
    rintro a b ⟨ha,hb,hab⟩ e
    have:=h.rg a ha
    have:=h.rg b hb
    omega
  have:=nodup_lt 10 _ hm fun x hx=>by
    obtain ⟨s,hs,rfl⟩:=List.mem_map.1 hx
    have:=h.rg s hs
    omega
  rw [List.length_map] at this
  exact ⟨List.length_pos_iff.2 h1,this⟩
structure Rel (na oa nb ob:List (List Int)) (R:Int→Int→Prop):Prop where
  len:na.length=nb.length
  step:∀ s t,R s t→∀ x,0≤x∧x<(na.length:Int)→outA oa s x=outA ob t x∧R (stepA na s x) (stepA nb t x)
  fn:∀ s t t',R s t→R s t'→t=t'
  inj:∀ s s' t,R s t→R s' t→s=s'
def RelL (R:Int→Int→Prop) (L M:List Int):Prop:=L.length=M.length∧∀ i<L.length,R (L.getD i 0) (M.getD i 0)
theorem RelL.snoc {R:Int→Int→Prop} {L M:List Int} (h:RelL R L M) {s t:Int} (hst:R s t):RelL R (L ++ [s]) (M ++ [t]):=by
  refine ⟨by simp [h.1],fun i hi=>?_⟩
  rw [List.length_append,List.length_singleton] at hi
  by_cases e:i<L.length
  · rw [getD_app e,getD_app (by rw [← h.1];exact e)];exact h.2 i e
  · have e1:i=L.length:=by omega
    subst e1
    rw [appg_new]
    rw [h.1,appg_new];exact hst
end Go.Ab
namespace Go.Ab
end Go.Ab
namespace Go.Ab
open Go.Proofs
abbrev MachR (n o:Int) (xs ys:List (List Int)) (rows:List AObj) (res:AVal):Prop :=
  ∃ v w ps qs,rows=[.row v 1 true (rwp ps),.row w 1 true (rwp qs)]∧ps.map (·.2)=xs∧qs.map (·.2)=ys∧DJ (ps ++ qs)∧res=.st [iv n,iv o,.own 6000 v,.own 6001 w]
abbrev NamM (P:Program) (g:FuncId) (args:List AVal) (n o:Int) (xs ys:List (List Int)):Prop:=Fn P g args (MachR n o xs ys)
end Go.Ab
namespace Go.Ab
open Go.Proofs
end Go.Ab
namespace Go.Ab
open Go.Proofs
abbrev MachS (n o:Int) (xs ys:List (List Int)) (rows:List AObj) (res:AVal):Prop :=
  ∃ v w,rows=[.row v 1 true (rws xs),.row w 1 true (rws ys)]∧res=.st [iv n,iv o,.own 6000 v,.own 6001 w]
theorem NamM.dn {P:Program} {g:FuncId} {args:List AVal} {n o:Int} {xs ys:List (List Int)} (h:NamM P g args n o xs ys):Fn P g args (MachS n o xs ys):=by
  refine Con.dnr h ?_
  rintro o' r x ⟨rfl,v,w,ps,qs,rfl,rfl,rfl,_,rfl⟩
  refine ⟨rfl,v,w,?_,?_⟩
  · simp only [List.map_cons,List.map_nil,AObj.dn,dnL_rwp]
  · simp only [AVal.dn,dnL]
abbrev MachRC (ok:Bool) (n o:Int) (xs ys:List (List Int)) (code:Int) (rows:List AObj) (res:AVal):Prop :=
  if ok=true then ∃ v w ps qs,rows=[.row v 1 true (rwp ps),.row w 1 true (rwp qs)]∧ps.map (·.2)=xs∧qs.map (·.2)=ys∧DJ (ps ++ qs)∧res=.tup [.st [iv n,iv o,.own 6000 v,.own 6001 w],iv code]
  else rows=[]∧res=.tup [.st [iv 0,iv 0,nilS,nilS],iv code]
abbrev NamMR (P:Program) (g:FuncId) (args:List AVal) (ok:Bool) (n o:Int) (xs ys:List (List Int)) (code:Int):Prop:=Fn P g args (MachRC ok n o xs ys code)
abbrev MachSC (n o:Int) (xs ys:List (List Int)) (rows:List AObj) (res:AVal):Prop :=
  ∃ v w,rows=[.row v 1 true (rws xs),.row w 1 true (rws ys)]∧res=.tup [.st [iv n,iv o,.own 6000 v,.own 6001 w],iv 0]
theorem NamMR.dn {P:Program} {g:FuncId} {args:List AVal} {ok:Bool} {n o:Int} {xs ys:List (List Int)} {code:Int} (h:NamMR P g args ok n o xs ys code) (hok:ok=true) (hc:code=0):Fn P g args (MachSC n o xs ys):=by
  subst hok hc
  refine Con.dnr h ?_
  rintro o' r x ⟨rfl,hR⟩
  unfold MachRC at hR
  rw [if_pos rfl] at hR
  obtain ⟨v,w,ps,qs,rfl,rfl,rfl,_,rfl⟩:=hR
  refine ⟨rfl,v,w,?_,?_⟩
  · simp only [List.map_cons,List.map_nil,AObj.dn,dnL_rwp]
  · simp only [AVal.dn,dnL]
end Go.Ab
namespace Go.Ab
open Go.Proofs
end Go.Ab
namespace Go.Ab
open Go.Proofs
end Go.Ab
namespace Go.Ab
open Go.Proofs
structure NumI (cl K ys:List Int) (i:Nat):Prop where
  t:TidP cl ys
  ln:ys.length=i
  nd:K.Nodup
  us:usedS 0 ys=K.length
  a:∀ j<i,K.getD (ys.getD j 0).toNat 0=cl.getD j 0
  b:∀ m:Nat,m<K.length→∃ j<i,ys.getD j 0=m
theorem NumI.rg {cl K ys:List Int} {i:Nat} (I:NumI cl K ys i) {j:Nat} (hj:j<i):0≤ys.getD j 0∧ys.getD j 0<K.length:=by
  have hm:=yz5 (show j<ys.length by rw [I.ln];exact hj) (0:Int)
  have h1:=div_nn I.t.dv hm
  have h2:=used_mem (u:=0) hm
  rw [I.us] at h2
  omega
theorem NumI.new {cl K ys:List Int} {i:Nat} (I:NumI cl K ys i) (hi:i<cl.length) (h:cl.getD i 0 ∉ K):NumI cl (K ++ [cl.getD i 0]) (ys ++ [(K.length:Int)]) (i+1):=by
  have hln:=I.ln
  have hT:=I.t.new (by omega) (fun k hk e=>h (by
    rw [hln] at e hk
    have h1:=I.rg hk
    rw [← e,← I.a k hk]
    exact yz5 (by omega) 0))
  rw [I.us] at hT
  refine ⟨hT,by simp [hln],?_,by rw [used_snoc,I.us];simp;omega,fun j hj=>?_,fun m hm=>?_⟩
  · refine List.nodup_append.2 ⟨I.nd,by simp,fun x hx y hy=>?_⟩
    rw [List.mem_singleton.1 hy];exact fun e=>h (e ▸ hx)
  · by_cases e:j<i
    · have h1:=I.rg e
      have e1:(ys ++ [(K.length:Int)]).getD j 0=ys.getD j 0:=getD_snl (by omega)
      have e2:(K ++ [cl.getD i 0]).getD (ys.getD j 0).toNat 0=K.getD (ys.getD j 0).toNat 0:=getD_snl (by omega)
      rw [e1,e2]
      exact I.a j e
    · obtain rfl:j=i:=by omega
      have e2:(ys ++ [(K.length:Int)]).getD j 0=K.length:=by rw [← hln];exact getD_snr
      rw [e2,Int.toNat_natCast]
      exact getD_snr
  · rw [List.length_append,List.length_singleton] at hm
    by_cases e:m<K.length
    · obtain ⟨j,h1,h2⟩:=I.b m e
      exact ⟨j,by omega,by rw [getD_snl (by omega)];exact h2⟩
    · obtain rfl:m=K.length:=by omega
      exact ⟨i,by omega,by rw [← hln];exact getD_snr⟩
theorem NumI.old {cl K ys:List Int} {i m:Nat} (I:NumI cl K ys i) (hi:i<cl.length) (hm:m<K.length) (h:K.getD m 0=cl.getD i 0):NumI cl K (ys ++ [(m:Int)]) (i+1):=by
  have hln:=I.ln
  obtain ⟨j0,h1,h2⟩:=I.b m hm
  have h3:=I.a j0 h1
  rw [h2,Int.toNat_natCast,h] at h3
  have hT:=I.t.old (by omega) (show j0<ys.length by omega) (by rw [hln];exact h3.symm)
  rw [h2] at hT
  refine ⟨hT,by simp [hln],I.nd,by rw [used_snoc,I.us];omega,fun j hj=>?_,fun m' hm'=>?_⟩
  · by_cases e:j<i
    · rw [getD_snl (by omega)];exact I.a j e
    · obtain rfl:j=i:=by omega
      have e2:(ys ++ [(m:Int)]).getD j 0=m:=by rw [← hln];exact getD_snr
      rw [e2,Int.toNat_natCast];exact h
  · obtain ⟨j,g1,g2⟩:=I.b m' hm'
    exact ⟨j,by omega,by rw [getD_snl (by omega)];exact g2⟩
end Go.Ab
namespace Go.Ab
theorem set_getD7 {l:List Int} {i j:Nat} {v:Int}:(l.set i v).getD j 0=if i=j∧i<l.length then v else l.getD j 0:=by
  rw [List.getD_eq_getElem?_getD,List.getElem?_set,List.getD_eq_getElem?_getD]
  by_cases e:i=j
  · subst e
    by_cases h:i<l.length
    · rw [if_pos rfl,if_pos h,if_pos ⟨rfl,h⟩];rfl
    · rw [if_pos rfl,if_neg h,if_neg (fun g=>h g.2),List.getElem?_eq_none (by omega)]
  · rw [if_neg e,if_neg (fun g=>e g.1)]
structure Ext (P Q:List Int):Prop where
  len:Q.length=P.length
  eq:∀ k,0≤P.getD k 0→Q.getD k 0=P.getD k 0
theorem Ext.refl (P:List Int):Ext P P:=⟨rfl,fun _ _=>rfl⟩
theorem Ext.trans {P Q R:List Int} (h:Ext P Q) (g:Ext Q R):Ext P R :=
  ⟨g.len.trans h.len,fun k hk=>by have e:=h.eq k hk;rw [g.eq k (by omega),e]⟩
theorem Ext.set {P:List Int} {i:Nat} {s:Int} (hi:P.getD i 0<0):Ext P (P.set i s) :=
  ⟨by simp,fun k hk=>by
    rw [set_getD7,if_neg (fun e=>by rw [e.1] at hi;omega)]⟩
def Ed (na nb:List (List Int)) (Q:List Int) (k:Nat):Prop:=∀ l:Nat,l<na.length→Q.getD (stepA nb k l).toNat 0=stepA na (Q.getD k 0) l
theorem Ed.ext {na nb:List (List Int)} {Q R:List Int} {k:Nat} (hA:∀ s l,0≤stepA na s l) (h:Ed na nb Q k) (hk:0≤Q.getD k 0) (g:Ext Q R):Ed na nb R k:=fun l hl=>by
  have e:=h l hl
  rw [g.eq k hk,g.eq _ (by rw [e];exact hA _ _),e]
structure Iso (na nb:List (List Int)) (ph:List Int):Prop where
  nn:∀ x∈ph,0≤x
  nd:ph.Nodup
  ed:∀ k:Nat,k<ph.length→∀ l:Nat,l<na.length→(stepA nb k l).toNat<ph.length∧ph.getD (stepA nb k l).toNat 0=stepA na (ph.getD k 0) l
structure Sub (P ph:List Int):Prop where
  len:P.length=ph.length
  eq:∀ k,k<ph.length→0≤P.getD k 0→P.getD k 0=ph.getD k 0
theorem Sub.set {P ph:List Int} {i:Nat} (h:Sub P ph):Sub (P.set i (ph.getD i 0)) ph :=
  ⟨by rw [List.length_set];exact h.len,fun k hk h0=>by
    rw [set_getD7] at h0 ⊢
    by_cases e:i=k∧i<P.length
    · rw [if_pos e,e.1]
    · rw [if_neg e] at h0 ⊢;exact h.eq k hk h0⟩
end Go.Ab
namespace Go.Ab
structure Prt2 (n:Int) (P:List Int):Prop where
  len:P.length=n.toNat
  rg:∀ x∈P,-1≤x∧x<n
  inj:∀ j k,j<P.length→k<P.length→0≤P.getD j 0→P.getD j 0=P.getD k 0→j=k
theorem Prt2.set {n:Int} {P:List Int} {i:Nat} {s:Int} (h:Prt2 n P) (hs:0≤s∧s<n) (hn:s ∉ P):Prt2 n (P.set i s):=by
  have hm:∀ k,k<P.length→P.getD k 0≠s:=fun k hk e=>hn (by rw [← e];exact yz5 hk 0)
  refine ⟨by rw [List.length_set];exact h.len,fun x hx=>?_,fun j k hj hk h0 e=>?_⟩
  · rcases List.mem_or_eq_of_mem_set hx with hx | rfl
    · exact h.rg x hx
    · omega
  · rw [List.length_set] at hj hk
    rw [set_getD7] at h0 e
    rw [set_getD7] at e
    by_cases e1:i=j∧i<P.length
    · by_cases e2:i=k∧i<P.length
      · omega
      · rw [if_pos e1,if_neg e2] at e
        exact absurd e.symm (hm k hk)
    · by_cases e2:i=k∧i<P.length
      · rw [if_neg e1,if_pos e2] at e
        exact absurd e (hm j hj)
      · rw [if_neg e1] at h0
        rw [if_neg e1,if_neg e2] at e
        exact h.inj j k hj hk h0 e
theorem stepA_nn {n:Int} {na:List (List Int)} (A:Aut n na) (s l:Int):0≤stepA na s l:=by
  unfold stepA
  by_cases h1:l.toNat<na.length
  · have h2:=A.row _ (yz5 h1 [])
    generalize na.getD l.toNat []=row at h2 ⊢
    by_cases h3:s.toNat<row.length
    · exact (h2.2 _ (yz5 h3 0)).1
    · rw [List.getD_eq_getElem?_getD,List.getElem?_eq_none (by omega)];exact Int.le_refl 0
  · have e:na.getD l.toNat []=[]:=by rw [List.getD_eq_getElem?_getD,List.getElem?_eq_none (by omega)];rfl
    rw [e];simp
end Go.Ab
namespace Go.Ab
open Go.Proofs
def rww (x:List (List (List Int))):List AVal:=x.map fun xss=>.ro (some none) 1 (rws xss)
def rwwn (x:List (List (List Int))):List AVal:=x.map fun xss=>.ro none 1 (rwn xss)
theorem dnL_rww {x:List (List (List Int))}:dnL (rww x)=rww x:=by
  simp only [dnL_eq,rww,List.map_map]
  exact List.map_congr_left fun o _=>by simp [AVal.dn,dnL_rws,dnNm]
theorem dnL_rwwn {x:List (List (List Int))}:dnL (rwwn x)=rwwn x:=by
  simp only [dnL_eq,rwwn,List.map_map]
  exact List.map_congr_left fun o _=>by simp [AVal.dn,dnL_rwn,dnNm]
theorem one_rww {hp:Nat→AObj} {x:List (List (List Int))}:(∀ A∈rww x,One hp A)=True:=by
  refine eq_true ?_
  intro A hA
  simp only [rww,List.mem_map] at hA
  obtain ⟨y,_,rfl⟩:=hA
  exact trivial
theorem frz_rww {hp:Nat→AObj} {x:List (List (List Int))}:(rww x).map (frz hp)=rww x:=by simp [rww,frz]
theorem owned_rww:∀ {x:List (List (List Int))},owned (rww x)=[]
  | []=>rfl
  | _ :: x=>owned_rww (x:=x)
theorem rww_snoc {x:List (List (List Int))} {y:List (List Int)}:rww x ++ [.ro (some none) 1 (rws y)]=rww (x ++ [y]):=by simp [rww]
theorem rww_len {x:List (List (List Int))}:(rww x).length=x.length:=by simp [rww]
theorem rwwn_len {x:List (List (List Int))}:(rwwn x).length=x.length:=by simp [rwwn]
theorem rww_nil:rww []=[]:=rfl
attribute [go_sem] dnL_rww dnL_rwwn one_rww frz_rww owned_rww rww_snoc rww_len rwwn_len rww_nil
structure Chc (n:Int) (nx:List (List (List Int))):Prop where
  n1:1≤n
  n2:n≤10
  l1:1≤nx.length
  l2:nx.length≤3
  row:∀ r∈nx,(r.length:Int)=n∧∀ s∈r,setB n s=true
end Go.Ab
namespace Go.Ab
open Go.Proofs
end Go.Ab
namespace Go.Ab
open Go.Proofs
structure Prt (n:Int) (next:List (List Int)):Prop where
  n1:1≤n
  n2:n≤10
  l1:1≤next.length
  l2:next.length≤3
  row:∀ row∈next,(row.length:Int)=n∧∀ x∈row,-1≤x∧x<n
theorem Prt.at {n:Int} {next:List (List Int)} (P:Prt n next) {l:Nat} (hl:l<next.length) {s:Int} (hs:0≤s∧s<n):s.toNat<(next.getD l []).length∧-1≤(next.getD l []).getD s.toNat 0∧(next.getD l []).getD s.toNat 0<n:=by
  have h1:=P.row _ (yz5 hl [])
  have h2:s.toNat<(next.getD l []).length:=by omega
  have h3:=h1.2 _ (yz5 h2 0)
  exact ⟨h2,h3⟩
end Go.Ab
namespace Go.Ab
open Go.Proofs
end Go.Ab
namespace Go.Ab
open Go.Proofs
theorem bitsTo_eq {f:Nat}:bitsTo f 10=(bitsN f).map fun (s:Nat)=>(s:Int):=rfl
theorem mem_bitsTo {f:Nat} {x:Int}:x∈bitsTo f 10↔0≤x∧x<10∧f.testBit x.toNat=true:=by
  rw [bitsTo_eq,List.mem_map]
  constructor
  · rintro ⟨s,hs,rfl⟩
    rw [mem_bits] at hs
    exact ⟨by omega,by omega,by rw [Int.toNat_natCast];exact hs.2⟩
  · rintro ⟨h1,h2,h3⟩
    exact ⟨x.toNat,mem_bits.2 ⟨by omega,h3⟩,by omega⟩
end Go.Ab
namespace Go.Ab
open Go.Proofs
end Go.Ab
namespace Go.Ab
def pairI (n:Int) (p:List Int):Nat:=(fidx (fun q=>decide (q=p)) (every n) 0).toNat
def wocW (n:Int) (words:List (List Int)) (set:List Int):List Int:=words.getD (pairI n (set.take 2)) []
def wocR (n:Int) (next words:List (List Int)):Nat→List Int→List Int→List Int
  | 0,_,out=>out
  | F+1,set,out=>if set.length≤1 then out else wocR n next words F (imgL next set (wocW n words set)) (out ++ wocW n words set)
structure WS1 (n:Int) (set:List Int):Prop where
  si:SI set
  rg:∀ x∈set,0≤x∧x<n
end Go.Ab
namespace Go.Ab
open Go.Proofs
noncomputable def wocF (n:Int) (next words:List (List Int)):List Int:=wocR n next words n.toNat (allS n) []
theorem tf_L {l:List (Nat×AVal)} {h:List (Nat×AObj)} {t q ver k:Nat} {nn:Bool} {cs:List AVal} :
    St.tf ⟨L .any l,L .gone h⟩ t q ver k nn cs=⟨L .any ((t,.ro (frNm nn cs.length ver) k cs) :: l),L .gone ((q,.gone) :: h)⟩:=by
  have h1:∀ x,(if x=t then AVal.ro (frNm nn cs.length ver) k cs else L .any l x)=L .any ((t,.ro (frNm nn cs.length ver) k cs) :: l) x:=fun x=>by
    by_cases e:x=t <;> simp [L,e,eq_comm]
  have h2:∀ x,(if x=q then AObj.gone else L .gone h x)=L .gone ((q,.gone) :: h) x:=fun x=>by
    by_cases e:x=q <;> simp [L,e,eq_comm]
  exact congr (congrArg St.mk (funext h1)) (funext h2)
theorem gwp_tf {gs:List GStep} {K:St→Prop} {l:List (Nat×AVal)} {h:List (Nat×AObj)} {t q k ver:Nat} {nn:Bool} {cs:List AVal} (ht:L .any l t=.own q ver)
    (hq:L .gone h q=.row ver k nn cs) (hk:gwp gs K ⟨L .any ((t,.ro (frNm nn cs.length ver) k cs) :: l),L .gone ((q,.gone) :: h)⟩):gwp (.tf t q :: gs) K ⟨L .any l,L .gone h⟩ :=
  ⟨ver,k,nn,cs,ht,hq,by rw [tf_L];exact hk⟩
structure WocI (n:Int) (next words:List (List Int)) (set out:List Int):Prop where
  ws:WS1 n set
  ln:out.length+400 * (set.length - 1)≤4000
  fu:∃ F,set.length≤F∧wocR n next words F set out=wocF n next words
end Go.Ab
namespace Go.Ab
open Go.Proofs
end Go.Ab
namespace Go.Ab
open Go.Proofs
abbrev QS:=List (List Nat×List Int)
structure QI (n m:Nat) (L:QS):Prop where
  rg:∀ p∈L,DB n p.1
  wd:∀ p∈L,(∀ y∈p.2,0≤y∧y<m)∧p.2.length<L.length
  nd:(L.map (·.1)).Nodup
  ne:∀ i,0<i→i<L.length→(L.getD i ([],[])).2≠[]
  z:∃ q t,L=(q,[]) :: t
theorem QI.lt {n m:Nat} {L:QS} (h:QI n m L) (hn:n≤10):∀ p∈L,∀ f∈p.1,f<1024:=fun p hp f hf =>
  Nat.lt_of_lt_of_le ((h.rg p hp).el f hf).1 (Nat.pow_le_pow_right (n:=2) (by omega) (show n≤10 by omega))
def wA (w:List Int):AVal:=if w=[] then .val (.slice none 0 0) else .ro (some none) 1 (ints w)
def dcl (L:QS):List AVal:=L.flatMap fun p=>[.ro (some none) 1 (nfs p.1),wA p.2]
theorem dcl_len:∀ {L:QS},(dcl L).length=2 * L.length
  | []=>rfl
  | p :: L=>by
    have:=dcl_len (L:=L)
    unfold dcl at this ⊢
    rw [List.flatMap_cons,List.length_append,this,List.length_cons];simp;omega
theorem wA_cases (w:List Int):wA w=.val (.slice none 0 0)∨wA w=.ro (some none) 1 (ints w):=by
  unfold wA;split
  · exact .inl rfl
  · exact .inr rfl
theorem dcl_mem {L:QS} {A:AVal} (h:A∈dcl L):(∃ q,A=.ro (some none) 1 (nfs q))∨(∃ w,A=.ro (some none) 1 (ints w))∨A=.val (.slice none 0 0):=by
  obtain ⟨p,_,h⟩:=List.mem_flatMap.1 h
  rcases List.mem_cons.1 h with rfl | h
  · exact .inl ⟨_,rfl⟩
  · rw [List.mem_singleton.1 h]
    rcases wA_cases p.2 with e | e
    · exact .inr (.inr e)
    · exact .inr (.inl ⟨_,e⟩)
theorem dnL_dcl {L:QS}:dnL (dcl L)=dcl L:=by
  rw [dnL_eq]
  have h:(dcl L).map AVal.dn=(dcl L).map id:=List.map_congr_left fun A hA=>by
    rcases dcl_mem hA with ⟨q,rfl⟩ | ⟨w,rfl⟩ | rfl
    · simp [AVal.dn,dnL_eq,dnNm]
    · simp [AVal.dn,dnL_eq,dnNm]
    · rfl
  rw [h,List.map_id]
theorem one_dcl {hp:Nat→AObj} {L:QS}:(∀ A∈dcl L,One hp A)=True:=by
  refine eq_true fun A hA=>?_
  rcases dcl_mem hA with ⟨q,rfl⟩ | ⟨w,rfl⟩ | rfl
  · trivial
  · trivial
  · rfl
theorem frz_dcl {hp:Nat→AObj} {L:QS}:(dcl L).map (frz hp)=dcl L:=by
  have h:(dcl L).map (frz hp)=(dcl L).map id:=List.map_congr_left fun A hA=>by
    rcases dcl_mem hA with ⟨q,rfl⟩ | ⟨w,rfl⟩ | rfl <;> rfl
  rw [h,List.map_id]
theorem owned_dcl {L:QS}:owned (dcl L)=[]:=by
  refine List.eq_nil_iff_forall_not_mem.2 fun r hr=>?_
  obtain ⟨v,hv⟩:=owned_mem.1 hr
  rcases dcl_mem hv with ⟨q,h⟩ | ⟨w,h⟩ | h <;> cases h
theorem dnL_trueQ {L:QS}:dnL (L.map fun _=>bv true)=L.map fun _=>bv true:=by
  rw [dnL_eq,List.map_map];rfl
attribute [go_sem] dnL_trueQ dnL_dcl one_dcl frz_dcl owned_dcl dcl_len
theorem dbt_DB {n o:Int} {next out:List (List Int)} (M:Mach n o next out) {tl:Bool} {q q':List Nat} {x:Nat} (h:DB n.toNat q) (hx:x<next.length) (e:dbtD next out o tl q x=some q'):DB n.toNat q':=by
  unfold dbtD at e
  split at e
  · cases e
  · simp only [Option.some.injEq] at e
    subst e
    have hr:=M.aut.row _ (yz5 hx [])
    have n1:=M.aut.n1
    have n2:=M.aut.n2
    exact h.next (by omega) (fun s hs=>by have:=hr.2 s hs;omega) (by omega)
theorem QI.snoc {n m:Nat} {L:QS} (h:QI n m L) {q:List Nat} {w:List Int} {x:Nat} (hq:DB n q) (hx:x<m) (hw:(∀ y∈w,0≤y∧y<m)∧w.length<L.length) (hn:hasG L q=false):QI n m (L ++ [(q,w ++ [(x:Int)])]) where
  rg:=fun p hp=>by
    rcases List.mem_append.1 hp with hp | hp
    · exact h.rg p hp
    · rw [List.mem_singleton.1 hp];exact hq
  wd:=fun p hp=>by
    rw [List.length_append,List.length_singleton]
    rcases List.mem_append.1 hp with hp | hp
    · have:=h.wd p hp;exact ⟨this.1,by omega⟩
    · rw [List.mem_singleton.1 hp]
      refine ⟨fun y hy=>?_,by rw [List.length_append,List.length_singleton];omega⟩
      rcases List.mem_append.1 hy with hy | hy
      · exact hw.1 y hy
      · rw [List.mem_singleton.1 hy];omega
  nd:=by
    rw [List.map_append,List.nodup_append]
    refine ⟨h.nd,by simp,fun a ha b hb e=>?_⟩
    have hb:b=q:=by simpa using hb
    obtain ⟨p,hp,rfl⟩:=List.mem_map.1 ha
    have:hasG L q=true:=hasG_iff.2 ⟨p,hp,by rw [e,hb]⟩
    rw [hn] at this;cases this
  ne:=fun i h0 hi=>by
    rw [List.length_append,List.length_singleton] at hi
    by_cases e:i<L.length
    · rw [appG_getD e];exact h.ne i h0 e
    · obtain rfl:i=L.length:=by omega
      rw [lastG_getD];simp
  z:=by
    obtain ⟨q0,t,e⟩:=h.z
    exact ⟨q0,t ++ [(q,w ++ [(x:Int)])],by rw [e];rfl⟩
end Go.Ab
namespace Go.Ab
open Go.Proofs
end Go.Ab
namespace Go.Ab
open Go.Proofs
end Go.Ab
namespace Go.Ab
open Go.Proofs
end Go.Ab
namespace Go.Ab
open Go.Proofs
end Go.Ab
