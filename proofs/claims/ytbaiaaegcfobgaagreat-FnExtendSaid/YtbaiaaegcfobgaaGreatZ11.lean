/- Contracts and what they lean on, part 11. Conditions: none. -/
import Derived.Test.YtbaiaaegcfobgaaGreatZ10
set_option maxRecDepth 100000
set_option maxHeartbeats 4000000
set_option linter.all false
open Nat renaming reduceLeDiff → J0, reduceMul → J1, reduceSub → J2, reduceEqDiff → J3, reduceAdd → J4, reduceLT → J5
open Int renaming reduceToNat → J6, reduceNeg → J7, reduceLE → J8, reduceLT → J9
open List renaming getD_eq_getElem?_getD → Y0, map_cons → Y1, getElem?_eq_getElem → Y2, mem_map → Y3, mem_append → Y4, length_append → Y5, length_map → Y6, length_singleton → Y7, mem_cons → Y8, mem_singleton → Y9, range → Ya, map_nil → Yb, map_append → Yc, getElem?_map → Yd, length_cons → Ye, length → Yf, map_congr_left → Yg, eq_nil_of_length_eq_zero → Yh, not_mem_nil → Yi, map_map → Yj, length_take → Yk, replicate → Yl, mem_range → Ym, getElem?_eq_some_iff → Yn, all_eq_true → Yo, length_drop → Yp, getElem_map → Yq, getElem?_take → Yr, foldl_cons → Ys, mem_cons_of_mem → Yt, cons_append → Yu, getElem?_append_right → Yv, mem_of_getElem? → Yw, pairwise_cons → Yx, getElem_mem → Yy, mem_flatMap → Yz, getElem?_append_left → Y10, take_length → Y11, pairwise_append → Y12, append_assoc → Y13, drop_length → Y14, getElem?_drop → Y15, nodup_cons → Y16, length_nil → Y17, ext_getElem → Y18, nodup_append → Y19, take_succ_eq_append_getElem → Y1a, getElem_of_mem → Y1b, getElem?_eq_none → Y1c, mem_of_mem_take → Y1d, contains_iff_mem → Y1e, filter_cons_of_pos → Y1f, pairwise_iff_getElem → Y1g
open Nat renaming le_refl → Y1h, lt_of_lt_of_le → Y1i, zero_le → Y1j, pow_le_pow_right → Y1k, sub_self → Y1l, le_trans → Y1m, add_mul → Y1n, zero_add → Y1o, add_zero → Y1p, mul_le_mul_right → Y1q, two_pow_pos → Y1r, shiftRight_eq_div_pow → Y1s
open Int renaming toNat_natCast → Y1t, le_refl → Y1u
open Option renaming isSome_some → Y1v, map_eq_some_iff → Y1w, getD_some → Y1x, isSome_iff_exists → Y1y, map_some → Y1z
open Bool renaming and_eq_true → Y20, not_true → Y21, or_eq_true → Y22, false_eq_true → Y23, not_eq_true' → Y24
open Array renaming length_toList → Y25, getElem?_toList → Y26, getElem?_eq_getElem → Y27, getD_eq_getD_getElem? → Y28, getElem?_append_left → Y29
namespace Go.Ab
open Go Go.Proofs
theorem yzeh (x:Int):Fun Tryz.prog nz28 [iv x] (bv false):=by
 refine yzd mixed cztp rfl ⟨rfl,trivial⟩ ?_
 simp only [Bzpq,Azpr,bne_self_eq_false,go_sem,yz0,J9,J8,J6,J7,J5,J0,J1,J2,reduceIte,J3,J4,reduceCtorEq]
theorem k_cmpi (x y:Int):Fun Tryz.prog nz5p [iv x,iv y] (iv (cmpI x y)):=by
 refine yzd mixed czt1 rfl ⟨rfl,trivial⟩ ?_
 simp only [Azm1,Bzm0,go_sem,yz0,J9,J8,J6,J7,J5,J0,J1,J2,reduceIte,J3,J4,reduceCtorEq]
 intro vs
 refine yz5 (yzeh x) qCS trivial ?_
 simp only [Bzlz,go_sem,yz0,J9,J8,J6,J7,J5,J0,J1,J2,reduceIte,J3,J4,reduceCtorEq]
 intro vs2
 refine yz5 (yzeh y) qCS trivial ?_
 simp only [Bzly,Bzlu,Bzlx,Bzlv,go_sem,yz0,J9,J8,J6,J7,J5,J0,J1,J2,reduceIte,J3,J4,reduceCtorEq]
 unfold cmpI
 by_cases h1:x<y
 ·simp only [Bz43,Bz42,decide_eq_true h1,if_pos h1,go_sem,yz0,J9,J8,J6,J7,J5,J0,J1,J2,reduceIte,J3,J4,reduceCtorEq]
 ·by_cases h2:x > y
  ·simp only [Bz43,Bz42,Bz9x,Bz9w,decide_eq_false h1,decide_eq_true h2,if_neg h1,if_pos h2,go_sem,yz0,J9,J8,J6,J7,J5,J0,J1,J2,reduceIte,J3,J4,reduceCtorEq]
  ·simp only [Bz43,Bz42,Bz9x,Bz9w,Bzlw,decide_eq_false h1,decide_eq_false h2,if_neg h1,if_neg h2,go_sem,yz0,J9,J8,J6,J7,J5,J0,J1,J2,reduceIte,J3,J4,reduceCtorEq]
theorem k_Or2 (a b:Int):Fun Tryz.prog nz5o [.ro none 1 (ints [a,b])] (iv (if a=0 then b else a)):=by
 refine yzd mixed czsy rfl ⟨rfl,trivial⟩ ?_
 simp only [Azlt,Bzls,Bzlr,Y1,Yb,go_sem,yz0,J9,J8,J6,J7,J5,J0,J1,J2,reduceIte,J3,J4,reduceCtorEq]
 intro hM
 simp only [Bzlp,go_sem,yz0,J9,J8,J6,J7,J5,J0,J1,J2,reduceIte,J3,J4,reduceCtorEq]
 refine yzo (fun i=>2 - i) (fun i=>i=0∨(a=0∧i=1)∨(a=0∧b=0∧i=2))
  (fun i:Nat=>⟨L .any [(3,iv 0),(6,.ro none 1 (ints [a,b])),(7,iv 2),(8,iv i)],L .gone []⟩) 0 (.inl rfl) (by simp only [Bz1a,Y1,Yb,go_sem,yz0,J9,J8,J6,J7,J5,J0,J1,J2,reduceIte,J3,J4,reduceCtorEq];try rfl) ?_
 intro i hi
 have z0:((0:Int) != 0)=false:=rfl
 rcases hi with rfl | ⟨rfl,rfl⟩ | ⟨rfl,rfl,rfl⟩
 ·have hl:decide (((0:Nat):Int)<2)=true:=by decide
  have g:=yz3 (k:=.i64) (xs:=[a,b]) (i:=0) (by simp)
  simp only [Bz1a,Bz41,Bz9v,hl,g,go_sem,yz0,J9,J8,J6,J7,J5,J0,J1,J2,reduceIte,J3,J4,reduceCtorEq]
  refine ⟨by omega,?_⟩
  by_cases ha:a=0
  ·subst ha
   have w1:IntKind.i64.wrap (((0:Nat):Int)+1)=((1:Nat):Int):=by decide
   simp only [Bz19,Bz18,Bz9u,List.getD_cons_zero,z0,w1,go_sem,yz0,J9,J8,J6,J7,J5,J0,J1,J2,reduceIte,J3,J4,reduceCtorEq]
   exact ⟨1,by omega,.inr (.inl rfl),rfl⟩
  ·have hn:(a != 0)=true:=by simpa using ha
   simp only [Bz19,Bz18,List.getD_cons_zero,hn,if_neg ha,go_sem,yz0,J9,J8,J6,J7,J5,J0,J1,J2,reduceIte,J3,J4,reduceCtorEq]
 ·have hl:decide (((1:Nat):Int)<2)=true:=by decide
  have g:=yz3 (k:=.i64) (xs:=[0,b]) (i:=1) (by simp)
  simp only [Bz1a,Bz41,Bz9v,hl,g,go_sem,yz0,J9,J8,J6,J7,J5,J0,J1,J2,reduceIte,J3,J4,reduceCtorEq]
  refine ⟨by omega,?_⟩
  by_cases hb:b=0
  ·subst hb
   have w1:IntKind.i64.wrap (((1:Nat):Int)+1)=((2:Nat):Int):=by decide
   simp only [Bz19,Bz18,Bz9u,List.getD_cons_zero,List.getD_cons_succ,z0,w1,go_sem,yz0,J9,J8,J6,J7,J5,J0,J1,J2,reduceIte,J3,J4,reduceCtorEq]
   exact ⟨2,by omega,.inr (.inr rfl),rfl⟩
  ·have hn:(b != 0)=true:=by simpa using hb
   simp only [Bz19,Bz18,List.getD_cons_zero,List.getD_cons_succ,hn,if_true,go_sem,yz0,J9,J8,J6,J7,J5,J0,J1,J2,reduceIte,J3,J4,reduceCtorEq]
 ·have hl:decide (((2:Nat):Int)<2)=false:=by decide
  simp only [Bz1a,Bz41,Bzlq,hl,if_true,go_sem,yz0,J9,J8,J6,J7,J5,J0,J1,J2,reduceIte,J3,J4,reduceCtorEq]
theorem ltC {x y:Int}:cmpI x y<0↔x<y:=by unfold cmpI;split <;> (try split) <;> omega
theorem cmpI_zero {x y:Int}:cmpI x y=0↔x=y:=by unfold cmpI;split <;> (try split) <;> omega
theorem yz48:∀ xs:List Int,cmpL xs xs=0
 | []=>rfl
 | x :: xs=>by simp only [cmpL];rw [if_pos (cmpI_zero.2 rfl)];exact yz48 xs
theorem yz8b:∀ xs ys zs:List Int,cmpL xs ys<0→cmpL ys zs<0→cmpL xs zs<0
 | [],[],_,h,_=>by simp [cmpL] at h
 | [],_ :: _,[],_,h=>by simp [cmpL] at h
 | [],_ :: _,_ :: _,_,_=>by simp [cmpL]
 | _ :: _,[],_,h,_=>by simp [cmpL] at h
 | _ :: _,_ :: _,[],_,h=>by simp [cmpL] at h
 | x :: xs,y :: ys,z :: zs,h1,h2=>by
  simp only [cmpL] at h1 h2 ⊢
  by_cases e1:cmpI x y=0
  ·rw [if_pos e1] at h1
   rw [cmpI_zero] at e1
   subst e1
   by_cases e2:cmpI x z=0
   ·rw [if_pos e2] at h2 ⊢
    exact yz8b xs ys zs h1 h2
   ·rw [if_neg e2] at h2 ⊢;exact h2
  ·rw [if_neg e1] at h1
   rw [ltC] at h1
   by_cases e2:cmpI y z=0
   ·rw [cmpI_zero] at e2
    subst e2
    rw [if_neg (by rw [cmpI_zero];omega)];exact ltC.2 h1
   ·rw [if_neg e2] at h2
    rw [ltC] at h2
    rw [if_neg (by rw [cmpI_zero];omega)];exact ltC.2 (by omega)
theorem yz70:∀ xs ys:List Int,cmpL xs ys=- cmpL ys xs
 | [],[]=>rfl
 | [],_ :: _=>rfl
 | _ :: _,[]=>rfl
 | x :: xs,y :: ys=>by
  simp only [cmpL]
  by_cases e:x=y
  ·subst e
   rw [if_pos (cmpI_zero.2 rfl),if_pos (cmpI_zero.2 rfl)];exact yz70 xs ys
  ·rw [if_neg (by rw [cmpI_zero];exact e),if_neg (by rw [cmpI_zero];exact Ne.symm e)]
   unfold cmpI
   split <;> split <;> (try split) <;> (try split) <;> omega
theorem yz9o:∀ {xs ys:List Int},cmpL xs ys=0→xs=ys
 | [],[],_=>rfl
 | [],_ :: _,h=>by simp [cmpL] at h
 | _ :: _,[],h=>by simp [cmpL] at h
 | x :: xs,y :: ys,h=>by
  simp only [cmpL] at h
  by_cases e:cmpI x y=0
  ·rw [if_pos e] at h
   rw [cmpI_zero.1 e,yz9o h]
  ·rw [if_neg e] at h;exact absurd h e
def cmpW (u w:List Int):Int:=if cmpI u.length w.length=0 then cmpL u w else cmpI u.length w.length
theorem cmpW_eq {u w:List Int} (h:u.length=w.length):cmpW u w=cmpL u w:=by unfold cmpW;rw [if_pos (cmpI_zero.2 (by omega))]
theorem yz2u (u w:List Int):Fun Tryz.prog nz1u [.ro none 1 (ints u),.ro none 1 (ints w)] (iv (cmpW u w)):=by
 refine yzd mixed czs8 rfl ⟨rfl,trivial⟩ ?_
 simp only [Azid,Bzic,go_sem,yz0,J9,J8,J6,J7,J5,J0,J1,J2,reduceIte,J3,J4,reduceCtorEq]
 intro vs hM1 hM2
 refine yz5 (k_cmpi u.length w.length) qCS trivial ?_
 simp only [go_sem,yz0,J9,J8,J6,J7,J5,J0,J1,J2,reduceIte,J3,J4,reduceCtorEq]
 refine yz5 (yzde u w) qCS trivial ?_
 simp only [go_sem,yz0,J9,J8,J6,J7,J5,J0,J1,J2,reduceIte,J3,J4,reduceCtorEq]
 refine ⟨⟨⟨_,rfl,rfl⟩,⟨_,rfl,rfl⟩⟩,?_⟩
 refine yz5 (k_Or2 (cmpI u.length w.length) (cmpL u w)) (by simp only [Y1,Yb,csA,rowIs,boxIs,J3,ne_eq,reduceCtorEq,exists_eq_left,exists_eq_right,Y8,Yi,exists_eq_left',exists_and_left,exists_eq,Y1,Yb,AObj.ver,J5]) trivial ?_
 simp only [go_sem,yz0,J9,J8,J6,J7,J5,J0,J1,J2,reduceIte,J3,J4,reduceCtorEq]
 rfl
theorem yzcv {a b:List Int} (h:cmpL a b<0):¬ cmpL b a<0:=by
 have:=yz70 a b;omega
theorem wlt_eq {a b:List Int} (h1:¬ cmpL a b<0) (h2:¬ cmpL b a<0):a=b:=by
 have:=yz70 a b
 exact yz9o (by omega)
theorem wlt_nt {a b c:List Int} (h1:¬ cmpL b a<0) (h2:¬ cmpL c b<0):¬ cmpL c a<0:=fun h=>by
 by_cases e:cmpL a b<0
 ·exact h2 (yz8b _ _ _ h e)
 ·rw [wlt_eq h1 e] at h2;exact h2 h
def stepW:Option (List Int)→List Int→Option (List Int)
 | none,w=>some w
 | some v,w=>if cmpL w v<0 then some w else some v
def IsL (S:List Int→Prop):Option (List Int)→Prop
 | none=>∀ w,¬ S w
 | some v=>S v∧∀ w,S w→¬ cmpL w v<0
theorem IsL.step {S:List Int→Prop} {b:Option (List Int)} {w:List Int} (h:IsL S b):IsL (fun u=>S u∨u=w) (stepW b w):=by
 cases b with
 | none=>exact ⟨.inr rfl,fun u hu=>by
   rcases hu with hu | rfl
   ·exact absurd hu (h u)
   ·rw [yz48];omega⟩
 | some v =>
  simp only [stepW]
  by_cases e:cmpL w v<0
  ·rw [if_pos e]
   refine ⟨.inr rfl,fun u hu=>?_⟩
   rcases hu with hu | rfl
   ·exact wlt_nt (yzcv e) (h.2 u hu)
   ·rw [yz48];omega
  ·rw [if_neg e]
   refine ⟨.inl h.1,fun u hu=>?_⟩
   rcases hu with hu | rfl
   ·exact h.2 u hu
   ·exact e
theorem IsL.congr {S S':List Int→Prop} {b:Option (List Int)} (h:IsL S b) (e:∀ w,S w↔S' w):IsL S' b:=by
 have:S=S':=funext fun w=>propext (e w)
 exact this ▸ h
theorem IsL.uniq {S:List Int→Prop} {b b':Option (List Int)} (h:IsL S b) (h':IsL S b'):b=b':=by
 cases b with
 | none=>cases b' with
  | none=>rfl
  | some v=>exact absurd h'.1 (h v)
 | some v=>cases b' with
  | none=>exact absurd h.1 (h' v)
  | some v'=>rw [wlt_eq (h'.2 v h.1) (h.2 v' h'.1)]
theorem IsL.less {S S':List Int→Prop} {b:Option (List Int)} (h:IsL S b) (h1:∀ w,S' w→S w) (h2:∀ w,S w→(∀ u,S u→¬ cmpL u w<0)→S' w):IsL S' b:=by
 cases b with
 | none=>exact fun w hw=>h w (h1 w hw)
 | some v=>exact ⟨h2 v h.1 h.2,fun w hw=>h.2 w (h1 w hw)⟩
def leastW (ws:List (List Int)):Option (List Int):=ws.foldl stepW none
theorem yzc8 {ws:List (List Int)} {w:List Int}:leastW (ws ++ [w])=stepW (leastW ws) w:=by simp [leastW]
theorem isL_fold {ws:List (List Int)}:∀ {b:Option (List Int)} {S:List Int→Prop},IsL S b→IsL (fun u=>S u∨u∈ws) (ws.foldl stepW b):=by
 induction ws with
 | nil=>intro b S h;exact h.congr fun w=>by simp
 | cons w ws ih =>
  intro b S h
  rw [Ys]
  refine (ih (h.step (w:=w))).congr fun u=>?_
  simp only [Y8]
  constructor
  ·rintro ((h | h) | h)
   ·exact .inl h
   ·exact .inr (.inl h)
   ·exact .inr (.inr h)
  ·rintro (h | h | h)
   ·exact .inl (.inl h)
   ·exact .inl (.inr h)
   ·exact .inr h
theorem leastW_is {ws:List (List Int)}:IsL (·∈ws) (leastW ws):=(isL_fold (S:=fun _=>False) (b:=none) (ws:=ws) fun _ h=>h).congr fun w=>by simp
def candL (bk:Nat→Nat→Nat) (K:Nat) (L:List (Nat×List Int)):List (Nat×List Int):=L.flatMap fun p=>(Ya K).map fun (x:Nat)=>(bk x p.1,(x:Int) :: p.2)
def insA (seen:Nat→Bool) (A:List (Nat×List Int)) (c:Nat×List Int):List (Nat×List Int) :=
 if seen c.1=true then A else if (A.map (·.1)).idxOf c.1<A.length then (if cmpL c.2 (A.getD ((A.map (·.1)).idxOf c.1) (0,[])).2<0 then A.set ((A.map (·.1)).idxOf c.1) c else A) else A ++ [c]
structure MinA (seen:Nat→Bool) (cs A:List (Nat×List Int)):Prop where
 nd:(A.map (·.1)).Nodup
 sub:∀ p∈A,p∈cs∧seen p.1=false∧∀ q∈cs,q.1=p.1→¬ cmpL q.2 p.2<0
 all:∀ q∈cs,seen q.1=false→q.1∈A.map (·.1)
theorem yz97 {seen:Nat→Bool}:MinA seen [] []:=⟨by simp,by simp,by simp⟩
theorem yzab {A:List (Nat×List Int)} (h:(A.map (·.1)).Nodup) {i j:Nat} (hi:i<A.length) (hj:j<A.length) (e:A[i].1=A[j].1):i=j:=by
 have h2:=Y1g.1 h
 rcases Nat.lt_trichotomy i j with g | g | g
 ·have:=h2 i j (by rw [Y6];exact hi) (by rw [Y6];exact hj) g
  rw [Yq,Yq] at this
  exact absurd e this
 ·exact g
 ·have:=h2 j i (by rw [Y6];exact hj) (by rw [Y6];exact hi) g
  rw [Yq,Yq] at this
  exact absurd e.symm this
theorem MinA.step {seen:Nat→Bool} {cs A:List (Nat×List Int)} (h:MinA seen cs A) (c:Nat×List Int):MinA seen (cs ++ [c]) (insA seen A c):=by
 unfold insA
 by_cases hs:seen c.1=true
 ·rw [if_pos hs]
  refine ⟨h.nd,fun p hp=>?_,fun q hq hqs=>?_⟩
  ·obtain ⟨h1,h2,h3⟩:=h.sub p hp
   refine ⟨List.mem_append_left _ h1,h2,fun q hq e=>?_⟩
   rcases Y4.1 hq with hq | hq
   ·exact h3 q hq e
   ·obtain rfl:=Y9.1 hq
    rw [e] at hs;rw [hs] at h2;cases h2
  ·rcases Y4.1 hq with hq | hq
   ·exact h.all q hq hqs
   ·obtain rfl:=Y9.1 hq
    rw [hs] at hqs;cases hqs
 rw [if_neg hs]
 have hs:seen c.1=false:=by simpa using hs
 by_cases hi:(A.map (·.1)).idxOf c.1<A.length
 ·rw [if_pos hi]
  have hi':(A.map (·.1)).idxOf c.1<(A.map (·.1)).length:=by rw [Y6];exact hi
  have hk:=List.getElem_idxOf hi'
  rw [Yq] at hk
  generalize (A.map (·.1)).idxOf c.1=i at hi hi' hk
  have hg:A.getD i (0,[])=A[i]:=by rw [Y0,Y2 hi];rfl
  rw [hg]
  by_cases hlt:cmpL c.2 A[i].2<0
  ·rw [if_pos hlt]
   have hkeys:(A.set i c).map (·.1)=A.map (·.1):=by
    rw [List.map_set,← hk]
    refine Y18 (by simp) fun j h1 h2=>?_
    rw [List.getElem_set]
    split
    ·rename_i e;subst e;rw [Yq]
    ·rfl
   refine ⟨by rw [hkeys];exact h.nd,fun p hp=>?_,fun q hq hqs=>?_⟩
   ·obtain ⟨j,hj,rfl⟩:=Y1b hp
    have hj2:j<A.length:=by rw [List.length_set] at hj;exact hj
    rw [List.getElem_set]
    split
    ·refine ⟨by simp,hs,fun q hq e=>?_⟩
     rcases Y4.1 hq with hq | hq
     ·have h3:=(h.sub _ (Yy hi)).2.2 q hq (by rw [e,hk])
      exact wlt_nt (yzcv hlt) h3
     ·obtain rfl:=Y9.1 hq
      rw [yz48];omega
    ·rename_i hne
     obtain ⟨h1,h2,h3⟩:=h.sub _ (Yy hj2)
     refine ⟨List.mem_append_left _ h1,h2,fun q hq e=>?_⟩
     rcases Y4.1 hq with hq | hq
     ·exact h3 q hq e
     ·obtain rfl:=Y9.1 hq
      exact absurd (yzab h.nd hi hj2 (by rw [hk,e])) hne
   ·rw [hkeys]
    rcases Y4.1 hq with hq | hq
    ·exact h.all q hq hqs
    ·obtain rfl:=Y9.1 hq
     exact Y3.2 ⟨A[i],Yy hi,hk⟩
  ·rw [if_neg hlt]
   refine ⟨h.nd,fun p hp=>?_,fun q hq hqs=>?_⟩
   ·obtain ⟨h1,h2,h3⟩:=h.sub p hp
    refine ⟨List.mem_append_left _ h1,h2,fun q hq e=>?_⟩
    rcases Y4.1 hq with hq | hq
    ·exact h3 q hq e
    ·obtain rfl:=Y9.1 hq
     obtain ⟨j,hj,rfl⟩:=Y1b hp
     obtain rfl:=yzab h.nd hi hj (by rw [hk,e])
     exact hlt
   ·rcases Y4.1 hq with hq | hq
    ·exact h.all q hq hqs
    ·obtain rfl:=Y9.1 hq
     exact Y3.2 ⟨A[i],Yy hi,hk⟩
 ·rw [if_neg hi]
  have hnm:c.1 ∉ A.map (·.1):=fun hm=>hi (by have:=List.idxOf_lt_length_of_mem hm;rwa [Y6] at this)
  refine ⟨?_,fun p hp=>?_,fun q hq hqs=>?_⟩
  ·rw [Yc,Y1,Yb]
   exact Y19.2 ⟨h.nd,by simp,fun a ha b hb e=>hnm (by rw [Y9.1 hb] at e;rw [← e];exact ha)⟩
  ·rcases Y4.1 hp with hpA | hpA
   ·obtain ⟨h1,h2,h3⟩:=h.sub p hpA
    refine ⟨List.mem_append_left _ h1,h2,fun q hq e=>?_⟩
    rcases Y4.1 hq with hq | hq
    ·exact h3 q hq e
    ·obtain rfl:=Y9.1 hq
     exact absurd (show q.1∈A.map (·.1) from Y3.2 ⟨p,hpA,e.symm⟩) hnm
   ·obtain rfl:=Y9.1 hpA
    refine ⟨by simp,hs,fun q hq e=>?_⟩
    rcases Y4.1 hq with hq | hq
    ·exact absurd (by rw [← e];exact h.all q hq (by rw [e];exact hs)) hnm
    ·obtain rfl:=Y9.1 hq
     rw [yz48];omega
  ·rw [Yc,Y4]
   rcases Y4.1 hq with hq | hq
   ·exact .inl (h.all q hq hqs)
   ·obtain rfl:=Y9.1 hq
    exact .inr (by simp)
theorem minA_fold {seen:Nat→Bool} {ds:List (Nat×List Int)}:∀ {cs A:List (Nat×List Int)},MinA seen cs A→MinA seen (cs ++ ds) (ds.foldl (insA seen) A):=by
 induction ds with
 | nil=>intro cs A h;rw [List.append_nil];exact h
 | cons c ds ih =>
  intro cs A h
  have:=ih (h.step c)
  rw [Y13,List.singleton_append] at this
  exact this
def nextL (bk:Nat→Nat→Nat) (K:Nat) (seen:Nat→Bool) (L:List (Nat×List Int)):List (Nat×List Int):=(candL bk K L).foldl (insA seen) []
theorem yz26 {bk:Nat→Nat→Nat} {K:Nat} {seen:Nat→Bool} {L:List (Nat×List Int)}:MinA seen (candL bk K L) (nextL bk K seen L):=by
 have:=minA_fold (seen:=seen) (ds:=candL bk K L) yz97
 rwa [List.nil_append] at this
theorem MinA.mem_iff {seen:Nat→Bool} {cs cs' A A':List (Nat×List Int)} (h:MinA seen cs A) (h':MinA seen cs' A') (e:∀ q,q∈cs↔q∈cs') {p:Nat×List Int} (hp:p∈A):p∈A':=by
 obtain ⟨h1,h2,h3⟩:=h.sub p hp
 obtain ⟨p',hp',hk⟩:=Y3.1 (h'.all p ((e p).1 h1) h2)
 obtain ⟨g1,g2,g3⟩:=h'.sub p' hp'
 have:p'=p:=Prod.ext hk (wlt_eq (h3 p' ((e p').2 g1) hk) (g3 p ((e p).1 h1) hk.symm))
 exact this ▸ hp'
theorem yz3s {A:List (Nat×List Int)} (h:(A.map (·.1)).Nodup):A.Nodup:=by
 refine Y1g.2 fun i j hi hj hij e=>?_
 have:=yzab h hi hj (by rw [e])
 omega
theorem MinA.perm {seen:Nat→Bool} {cs cs' A A':List (Nat×List Int)} (h:MinA seen cs A) (h':MinA seen cs' A') (e:∀ q,q∈cs↔q∈cs'):A.Perm A' :=
 (List.perm_ext_iff_of_nodup (yz3s h.nd) (yz3s h'.nd)).2 fun _=>⟨h.mem_iff h' e,h'.mem_iff h fun q=>(e q).symm⟩
theorem candL_mem {bk:Nat→Nat→Nat} {K:Nat} {L:List (Nat×List Int)} {q:Nat×List Int}:q∈candL bk K L↔∃ p∈L,∃ x<K,q=(bk x p.1,(x:Int) :: p.2):=by
 simp only [candL,Yz,Y3,Ym]
 constructor
 ·rintro ⟨p,hp,x,hx,rfl⟩;exact ⟨p,hp,x,hx,rfl⟩
 ·rintro ⟨p,hp,x,hx,rfl⟩;exact ⟨p,hp,x,hx,rfl⟩
def bestL (hv:Nat→Bool) (L:List (Nat×List Int)):Option (List Int):=leastW ((L.filter fun p=>hv p.1).map (·.2))
theorem bestL_is {hv:Nat→Bool} {L:List (Nat×List Int)}:IsL (fun w=>∃ p∈L,hv p.1=true∧p.2=w) (bestL hv L):=leastW_is.congr fun w=>by
 simp only [Y3,List.mem_filter]
 constructor
 ·rintro ⟨p,⟨h1,h2⟩,h3⟩;exact ⟨p,h1,h2,h3⟩
 ·rintro ⟨p,h1,h2,h3⟩;exact ⟨p,⟨h1,h2⟩,h3⟩
theorem best_next {hv:Nat→Bool} {seen:Nat→Bool} {cs A:List (Nat×List Int)} (h:MinA seen cs A) {b:Option (List Int)}
  (hb:IsL (fun w=>∃ p∈cs,seen p.1=false∧hv p.1=true∧p.2=w) b):b=bestL hv A:=by
 refine IsL.uniq (hb.less (S':=fun w=>∃ p∈A,hv p.1=true∧p.2=w) ?_ ?_) bestL_is
 ·rintro w ⟨p,hp,h2,h3⟩
  obtain ⟨g1,g2,_⟩:=h.sub p hp
  exact ⟨p,g1,g2,h2,h3⟩
 ·rintro w ⟨p,hp,h1,h2,rfl⟩ hmin
  obtain ⟨p',hp',hk⟩:=Y3.1 (h.all p hp h1)
  obtain ⟨g1,g2,g3⟩:=h.sub p' hp'
  have hk:p'.1=p.1:=hk
  have:=wlt_eq (hmin p'.2 ⟨p',g1,g2,by rw [hk];exact h2,rfl⟩) (g3 p hp hk.symm)
  exact ⟨p',hp',by rw [hk];exact h2,this⟩
theorem yz7h {hv:Nat→Bool} {L L':List (Nat×List Int)} (h:L.Perm L'):bestL hv L=bestL hv L' :=
 IsL.uniq bestL_is (bestL_is.congr fun w=>⟨fun ⟨p,h1,h2⟩=>⟨p,h.mem_iff.2 h1,h2⟩,fun ⟨p,h1,h2⟩=>⟨p,h.mem_iff.1 h1,h2⟩⟩)
def seeL (seen:Nat→Bool) (A:List (Nat×List Int)):Nat→Bool:=fun k=>seen k || (A.map (·.1)).contains k
def extR (bk:Nat→Nat→Nat) (K:Nat) (hv:Nat→Bool):Nat→(Nat→Bool)→List (Nat×List Int)→Option (List Int)
 | 0,_,_=>none
 | _+1,_,[]=>none
 | f+1,seen,p :: L=>match bestL hv (p :: L) with
  | some w=>some w
  | none=>extR bk K hv f (seeL seen (nextL bk K seen (p :: L))) (nextL bk K seen (p :: L))
end Go.Ab
namespace Go.Ab
open Go.Proofs
def preA (next:List (List Int)) (set w:List Int) (i:Nat):List Int:=((Ya i).map fun (s:Nat)=>(s:Int)).filter fun s=>set.contains (atA next s w)
theorem yzah {next:List (List Int)} {set w:List Int} {i:Nat}:preA next set w (i+1)=if set.contains (atA next i w)=true then preA next set w i ++ [(i:Int)] else preA next set w i:=by
 unfold preA
 rw [List.range_succ,Yc,List.filter_append]
 simp only [Y1,Yb,List.filter_cons,List.filter_nil]
 split <;> simp
theorem yz8z {next:List (List Int)} {set w:List Int} {i:Nat}:(preA next set w i).length≤i:=by
 unfold preA
 exact Y1m (List.length_filter_le _ _) (by simp)
theorem preA_mem {next:List (List Int)} {set w:List Int} {i:Nat} {s:Int}:s∈preA next set w i↔(0≤s∧s<i)∧atA next s w∈set:=by
 simp only [preA,List.mem_filter,Y3,Ym,Y1e]
 constructor
 ·rintro ⟨⟨k,hk,rfl⟩,h⟩;exact ⟨by omega,h⟩
 ·rintro ⟨h1,h⟩;exact ⟨⟨s.toNat,by omega,by omega⟩,h⟩
theorem yz7u (n:Int) (next:List (List Int)) (set w:List Int) (A:Aut n next) (hw:IsW next.length w) :
  RowI Tryz.prog nz1s [autA n next,.ro none 1 (ints set),.ro none 1 (ints w)] (fun ys=>ys=preA next set w n.toNat):=by
 refine yz1k mixed czs6 rfl ?_
 simp only [Azi6,Bzi5,go_sem,yz0,J9,J8,J6,J7,J5,J0,J1,J2,reduceIte,J3,J4,reduceCtorEq]
 intro vs vs2
 have n1:=A.n1
 have n2:=A.n2
 simp only [Bzi4,Bzi2,go_sem,yz0,J9,J8,J6,J7,J5,J0,J1,J2,reduceIte,J3,J4,reduceCtorEq]
 refine yzo (fun (_,i)=>n.toNat - i) (fun (_,i)=>(i:Int)≤n)
  (fun ((v,i):Nat×Nat)=>⟨L .any [(1,.ro none 1 (ints set)),(2,.ro none 1 (ints w)),(3,.ptr 3 (vs 0 0) 0),(7,.own 9 v),(11,iv n),(12,iv i)],L .gone [(3,.box (vs 0 0) [iv n,.ro none 1 (rwn next)]),(9,.row v 1 true (ints (preA next set w i)))]⟩) (_,0) (by simp;omega) (by simp only [Bz3f,go_sem,yz0,J9,J8,J6,J7,J5,J0,J1,J2,reduceIte,J3,J4,reduceCtorEq];try rfl) ?_
 rintro ⟨v,i⟩ hi
 have hi:(i:Int)≤n:=hi
 by_cases hlt:(i:Int)<n
 ·have w1:IntKind.i64.wrap ((i:Int)+1)=((i+1:Nat):Int):=by rw [w64 (by omega)];simp
  simp only [Bz3f,Bz8d,Bzi1,Bzi0,decide_eq_true hlt,go_sem,yz0,J9,J8,J6,J7,J5,J0,J1,J2,reduceIte,J3,J4,reduceCtorEq]
  intro vs3
  refine yz5 (k_at n next i w A (by omega) hw) qCS trivial ?_
  simp only [go_sem,yz0,J9,J8,J6,J7,J5,J0,J1,J2,reduceIte,J3,J4,reduceCtorEq]
  refine yz5 (yz7a set (atA next i w)) qCS trivial ?_
  have hs:=yzah (next:=next) (set:=set) (w:=w) (i:=i)
  have hl:=yz8z (next:=next) (set:=set) (w:=w) (i:=i)
  cases hc:set.contains (atA next i w) with
  | true =>
   rw [hc,if_pos rfl] at hs
   simp only [Bz8b,Bz8c,w1,go_sem,yz0,J9,J8,J6,J7,J5,J0,J1,J2,reduceIte,J3,J4,reduceCtorEq]
   intro vs4
   refine ⟨⟨_,rfl,rfl⟩,by omega,?_⟩
   refine ⟨(_,i+1),?_,?_,by rw [hs]⟩
   ·show n.toNat - (i+1)<n.toNat - i;omega
   ·show ((i+1:Nat):Int)≤n;omega
  | false =>
   rw [hc,if_neg (by simp)] at hs
   simp only [Bz8b,Bz8c,w1,go_sem,yz0,J9,J8,J6,J7,J5,J0,J1,J2,reduceIte,J3,J4,reduceCtorEq]
   refine ⟨(_,i+1),?_,?_,by rw [hs]⟩
   ·show n.toNat - (i+1)<n.toNat - i;omega
   ·show ((i+1:Nat):Int)≤n;omega
 ·have e:i=n.toNat:=by omega
  simp only [Bz3f,Bz8d,Bzi3,decide_eq_false hlt,go_sem,yz0,J9,J8,J6,J7,J5,J0,J1,J2,reduceIte,J3,J4,reduceCtorEq]
  refine ⟨9,v,_,by omega,rfl,by rw [← e];simp only [go_sem,yz0,J9,J8,J6,J7,J5,J0,J1,J2,reduceIte,J3,J4,reduceCtorEq],rfl⟩
theorem yz6n (n:Int) (next:List (List Int)) (set w:List Int) (hn:1≤n∧n≤10) (hl:1≤next.length∧next.length≤3) :
  Fun Tryz.prog nz1w [.rp [.ro none 1 (ints set)] 0,autP n next,.rp [.ro none 1 (ints w)] 0] (bv (setB n set && wordB next.length w)):=by
 refine yzd mixed czsb rfl ⟨rfl,trivial⟩ ?_
 simp only [Bzin,Azio,go_sem,yz0,J9,J8,J6,J7,J5,J0,J1,J2,reduceIte,J3,J4,reduceCtorEq]
 intro vs
 refine yz5 (k_isSet set n hn) qCS trivial ?_
 cases hs:setB n set with
 | false=>simp only [Bool.false_and,go_sem,yz0,J9,J8,J6,J7,J5,J0,J1,J2,reduceIte,J3,J4,reduceCtorEq]
 | true =>
  simp only [go_sem,yz0,J9,J8,J6,J7,J5,J0,J1,J2,reduceIte,J3,J4,reduceCtorEq]
  refine yz5 (k_isWord n next w hl) qCS trivial ?_
  simp only [Bool.true_and,go_sem,yz0,J9,J8,J6,J7,J5,J0,J1,J2,reduceIte,J3,J4,reduceCtorEq]
theorem yz49 (n:Int) (next:List (List Int)) (set w:List Int) :
  RowT Tryz.prog nz1k [autA n next,.ro none 1 (ints set),.ro none 1 (ints w)] (autB n next && (setB n set && wordB next.length w)) (preA next set w n.toNat) (codeI (autB n next) (setB n set && wordB next.length w)):=by
 refine yz90 mixed czrm rfl (by simp) ?_
 simp only [Azea,Bze9,go_sem,yz0,J9,J8,J6,J7,J5,J0,J1,J2,reduceIte,J3,J4,reduceCtorEq]
 intro vs vs2
 refine yz5 (k_code n next nz1w [.rp [.ro none 1 (ints set)] 0,autP n next,.rp [.ro none 1 (ints w)] 0] _ ⟨by simp only [go_sem,yz0,J9,J8,J6,J7,J5,J0,J1,J2,reduceIte,J3,J4,reduceCtorEq],by intros;simp only [csA,rowIs,boxIs,J3,ne_eq,reduceCtorEq,exists_eq_left,exists_eq_right,Y8,Yi,exists_eq_left',exists_and_left,exists_eq,Y1,Yb,AObj.ver,J5]⟩
  (fun hv=>yz6n n next set w ⟨(autB_iff.1 hv).n1,(autB_iff.1 hv).n2⟩ ⟨(autB_iff.1 hv).l1,(autB_iff.1 hv).l2⟩)) qCS trivial ?_
 cases hv:autB n next with
 | false =>
  have h3:codeI false (setB n set && wordB next.length w)=1:=by simp [codeI]
  simp only [h3,ne10,Bz2p,Bz2o,Bool.false_and,go_sem,yz0,J9,J8,J6,J7,J5,J0,J1,J2,reduceIte,J3,J4,reduceCtorEq]
  refine ⟨[],by simp,by simp,by simp,?_⟩
  simp only [rsA,AVal.fresh,freshL,AObj.fresh,id,Y1v,go_sem,yz0,J9,J8,J6,J7,J5,J0,J1,J2,reduceIte,J3,J4,reduceCtorEq]
 | true =>
  have A:=autB_iff.1 hv
  cases hw:(setB n set && wordB next.length w) with
  | false =>
   have h3:codeI true false=2:=by simp [codeI]
   simp only [h3,ne20,Bz2p,Bz2o,Bool.true_and,go_sem,yz0,J9,J8,J6,J7,J5,J0,J1,J2,reduceIte,J3,J4,reduceCtorEq]
   refine ⟨[],by simp,by simp,by simp,?_⟩
   simp only [rsA,AVal.fresh,freshL,AObj.fresh,id,Y1v,go_sem,yz0,J9,J8,J6,J7,J5,J0,J1,J2,reduceIte,J3,J4,reduceCtorEq]
  | true =>
   have hw':=hw
   rw [Y20] at hw'
   have W:=wordB_iff.1 hw'.2
   have h3:codeI true true=0:=by simp [codeI]
   simp only [h3,Bz2p,Bz2o,Bze8,bne_self_eq_false,Bool.true_and,go_sem,yz0,J9,J8,J6,J7,J5,J0,J1,J2,reduceIte,J3,J4,reduceCtorEq]
   intro vs3
   refine yzm (yz7u n next set w A W.2) qCS rfl ⟨_,rfl⟩ ?_
   rintro ys v rfl
   simp only [go_sem,yz0,J9,J8,J6,J7,J5,J0,J1,J2,reduceIte,J3,J4,reduceCtorEq]
   refine ⟨[18],by simp,by simp,by simp,?_⟩
   simp only [range1,Y7,rsA,AVal.fresh,freshL,AObj.fresh,id,Y1v,go_sem,yz0,J9,J8,J6,J7,J5,J0,J1,J2,reduceIte,J3,J4,reduceCtorEq]
   exact ⟨v,rfl,rfl⟩
theorem SI_snoc {w:List Int} {k:Int} (h:SI w) (hx:∀ x∈w,x<k):SI (w ++ [k]):=by
 unfold SI at h ⊢
 rw [Y12]
 exact ⟨h,by simp,fun x hx' y hy=>by rw [Y9.1 hy];exact hx x hx'⟩
theorem k_A2Set (code:List Int) (n:Int) (next:List (List Int)) (hb:∀ x∈code,0≤x∧x≤255) (hn:0≤n∧n≤10) :
  RowI Tryz.prog nz51 [.ro (some (some 0)) 1 (intsK .u8 code),.st [iv n,.ro none 1 (rwn next)]] (fun xs=>setB n xs=true):=by
 refine yz1k mixed czri rfl ?_
 simp only [Azd0,Bzcz,go_sem,yz0,J9,J8,J6,J7,J5,J0,J1,J2,reduceIte,J3,J4,reduceCtorEq]
 intro vs vs2
 refine yz4o (k_from code) qCS (fun _=>⟨_,_,_,rfl,0,rfl,rfl⟩) ?_
 rintro outs rows res ⟨rfl,v,rfl,rfl⟩
 refine ⟨rfl,by simp,by rw [Y1x,yzw];simp only [go_sem,yz0,J9,J8,J6,J7,J5,J0,J1,J2,reduceIte,J3,J4,reduceCtorEq],?_⟩
 simp only [Bzcy,Bzcx,Bzcv,rsA,AVal.fresh,freshL,AObj.fresh,id,Y1v,go_sem,yz0,J9,J8,J6,J7,J5,J0,J1,J2,reduceIte,J3,J4,reduceCtorEq]
 intro vs3
 refine yzo (fun (_,_,_,_,_,_,k)=>n.toNat - k) (fun (w,_,_,_,a,_,k)=>SI w∧(∀ x∈w,0≤x∧x<k)∧w.length≤k∧0≤a∧a≤2 * k∧(k:Int)≤n)
  (fun ((w,v10,v9,v3,a,s,k):List Int×Nat×Nat×Nat×Int×Int×Nat)=>⟨L .any [(3,.ptr 3 v3 0),(5,.ptr 9 v9 0),(6,.own 10 v10),(7,iv k)],L .gone [(3,.box v3 [iv n,.ro none 1 (rwn next)]),(9,.box v9 (srcC code a s)),(10,.row v10 1 true (ints w))]⟩)
  ([],_,_,_,0,0,0) ⟨by simp [SI],by simp,by simp,by simp,by simp,by simp;omega⟩ (by simp only [Bz2h,go_sem,yz0,J9,J8,J6,J7,J5,J0,J1,J2,reduceIte,J3,J4,reduceCtorEq];rfl) ?_
 rintro ⟨w,v10,v9,v3,a,s,k⟩ ⟨hw,hx,hl,ha,ha2,hk⟩
 have hl:w.length≤k:=hl
 have ha:0≤a:=ha
 have ha2:a≤2 * k:=ha2
 have hk:(k:Int)≤n:=hk
 have hx:∀ x∈w,0≤x∧x<(k:Int):=hx
 by_cases hlt:(k:Int)<n
 ·have w1:IntKind.i64.wrap ((k:Int)+1)=((k+1:Nat):Int):=by rw [w64 (by omega)];simp
  simp only [Bz2h,Bz6i,Bzcu,decide_eq_true hlt,go_sem,yz0,J9,J8,J6,J7,J5,J0,J1,J2,reduceIte,J3,J4,reduceCtorEq]
  intro vs5
  refine yza (k_one code a s 2 hb (by omega)) rfl qCS qCS ?_
  rintro cs' x ⟨a',s',b,rfl,h1,h2,rfl⟩
  cases b with
  | true =>
   simp only [Bz6j,Bz6k,w1,rsA,AVal.fresh,freshL,AObj.fresh,id,Y1v,go_sem,yz0,J9,J8,J6,J7,J5,J0,J1,J2,reduceIte,J3,J4,reduceCtorEq]
   intro vs6
   refine ⟨⟨_,rfl,rfl⟩,by omega,(w ++ [(k:Int)],_,_,_,a',s',k+1),?_,⟨?_,?_,?_,?_,?_,?_⟩,rfl⟩
   ·show n.toNat - (k+1)<n.toNat - k;omega
   ·exact SI_snoc hw fun x h=>(hx x h).2
   ·intro x h
    rcases Y4.1 h with h | h
    ·have:=hx x h;show 0≤x∧x<((k+1:Nat):Int);omega
    ·rw [Y9.1 h];show 0≤(k:Int)∧(k:Int)<((k+1:Nat):Int);omega
   ·show (w ++ [(k:Int)]).length≤k+1;simp;omega
   ·show 0≤a';omega
   ·show a'≤2 * ((k+1:Nat):Int);omega
   ·show ((k+1:Nat):Int)≤n;omega
  | false =>
   simp only [Bz6j,Bz6k,w1,rsA,AVal.fresh,freshL,AObj.fresh,id,Y1v,go_sem,yz0,J9,J8,J6,J7,J5,J0,J1,J2,reduceIte,J3,J4,reduceCtorEq]
   refine ⟨(w,_,_,_,a',s',k+1),?_,⟨hw,?_,?_,?_,?_,?_⟩,rfl⟩
   ·show n.toNat - (k+1)<n.toNat - k;omega
   ·intro x h;have:=hx x h;show 0≤x∧x<((k+1:Nat):Int);omega
   ·show w.length≤k+1;omega
   ·show 0≤a';omega
   ·show a'≤2 * ((k+1:Nat):Int);omega
   ·show ((k+1:Nat):Int)≤n;omega
 ·simp only [Bz2h,Bz6i,Bzcw,decide_eq_false hlt,go_sem,yz0,J9,J8,J6,J7,J5,J0,J1,J2,reduceIte,J3,J4,reduceCtorEq]
  exact ⟨10,v10,w,by omega,rfl,by simp only [go_sem,yz0,J9,J8,J6,J7,J5,J0,J1,J2,reduceIte,J3,J4,reduceCtorEq],setB_iff.2 ⟨hw,fun x h=>by have:=hx x h;omega⟩⟩
theorem yzat:∀ {T:TS} (k:Nat),firstT T=none→fidx smallN (T.map (·.1)) k=-1
 | [],_,_=>rfl
 | p :: T,k,h=>by
  simp only [firstT,List.find?_cons] at h
  cases hs:smallN p.1 with
  | true=>rw [hs] at h;cases h
  | false =>
   rw [hs] at h
   have h1:=yzat (T:=T) (k+1) h
   simp only [Y1,fidx,hs,Y23,if_false,h1]
theorem k_firstN (N m:Nat) (T:TS) (hI:TI N m T) (hN:2 ^ N≤1024) (hf:firstT T=none) :
  Con Tryz.prog nz23 [.row 0 1 true (intsK .u64 (setsI T)),.map 1 (keysF T) (rwn (T.map (·.2)))] [.st [.own 5000 0,.mp 5001 1],.clo nz7 []] true
   fun outs rows res=>outs=[.row 0 1 true (intsK .u64 (setsI T)),.map 1 (keysF T) (rwn (T.map (·.2)))]∧rows=[]∧res=.tup [.val (.slice none 0 0),iv 6]:=by
 refine yz38 mixed czmn rfl (by simp) ?_
 have h1:=yzat 0 hf
 simp only [Azae,Bzad,go_sem,yz0,J9,J8,J6,J7,J5,J0,J1,J2,reduceIte,J3,J4,reduceCtorEq]
 intro vs vs2
 refine yz5 (yz52 T (fun p hp=>by have:=hI.rg p hp;omega)) qCS trivial ?_
 have hi0:((-1:Int)<0):=by omega
 simp only [h1,Bzac,Bzab,decide_eq_true hi0,go_sem,yz0,J9,J8,J6,J7,J5,J0,J1,J2,reduceIte,J3,J4,reduceCtorEq]
 refine ⟨[],by simp,by simp,by simp,?_⟩
 simp only [List.nil_append,Yu,Y1p,J4,rsA,AVal.fresh,freshL,AObj.fresh,id,Y1v,go_sem,yz0,J9,J8,J6,J7,J5,J0,J1,J2,reduceIte,J3,J4,reduceCtorEq]
def shortR (next:List (List Int)) (n:Int):AVal:=match firstT (tourT next (2 ^ n.toNat - 1)) with
 | some (_,w)=>.tup [.ro none 1 (ints w),iv 0]
 | none=>.tup [.val (.slice none 0 0),iv 6]
theorem yzbw (n:Int) (next:List (List Int)) (A:Aut n next) :
  Con Tryz.prog nz5a [] [autA n next] true fun outs rows res=>outs=[]∧rows=[]∧res=shortR next n:=by
 refine yz38 mixed czs9 rfl (by simp) ?_
 have n1:=A.n1
 have n2:=A.n2
 have hv:autB n next=true:=autB_iff.2 A
 have hp:=Y1r n.toNat
 have hN:2 ^ n.toNat≤1024:=Y1k (n:=2) (by omega) (show n.toNat≤10 by omega)
 simp only [Azih,Bzig,go_sem,yz0,J9,J8,J6,J7,J5,J0,J1,J2,reduceIte,J3,J4,reduceCtorEq]
 intro vs vs2
 refine yz5 (k_Valid n next) qCS trivial ?_
 simp only [hv,Bzie,Bzif,go_sem,yz0,J9,J8,J6,J7,J5,J0,J1,J2,reduceIte,J3,J4,reduceCtorEq]
 intro vs3
 refine yzm (k_all n next A) qCS rfl ⟨_,rfl⟩ ?_
 rintro xs v rfl
 simp only [go_sem,yz0,J9,J8,J6,J7,J5,J0,J1,J2,reduceIte,J3,J4,reduceCtorEq]
 refine yz5 (yz40 (allS n) (fun s hs=>by have:=allS_in s hs;omega)) qCS trivial ?_
 rw [maskN_all ⟨n1,n2⟩]
 simp only [go_sem,yz0,J9,J8,J6,J7,J5,J0,J1,J2,reduceIte,J3,J4,reduceCtorEq]
 refine yz5r (k_tour n next A (2 ^ n.toNat - 1) (by omega)) qCS (fun e=>by cases e) ?_
 rintro rows res ⟨v1,v2,rfl,rfl⟩
 refine ⟨by simp,by rw [Y1x,yz6s];simp only [go_sem,yz0,J9,J8,J6,J7,J5,J0,J1,J2,reduceIte,J3,J4,reduceCtorEq],?_⟩
 have hT:=(yzdi A 1100 0 _ (TI0 (m:=next.length) (show 2 ^ n.toNat - 1<2 ^ n.toNat by omega))).1
 simp only [Y1x,rsA,AVal.fresh,freshL,AObj.fresh,id,Y1v,go_sem,yz0,J9,J8,J6,J7,J5,J0,J1,J2,reduceIte,J3,J4,reduceCtorEq]
 unfold shortR
 cases hf:firstT (tourT next (2 ^ n.toNat - 1)) with
 | some p =>
  obtain ⟨f,w⟩:=p
  refine call_rm (k_first n.toNat next.length (tourT next (2 ^ n.toNat - 1)) hT hN f w hf) rfl rfl (by omega) qCS qCS qCS ?_
  simp only [rsA,AVal.fresh,freshL,AObj.fresh,id,Y1v,go_sem,yz0,J9,J8,J6,J7,J5,J0,J1,J2,reduceIte,J3,J4,reduceCtorEq]
  exact ⟨[],by simp,by simp,by simp,rfl⟩
 | none =>
  refine call_rm (k_firstN n.toNat next.length (tourT next (2 ^ n.toNat - 1)) hT hN hf) rfl rfl (by omega) qCS qCS qCS ?_
  simp only [rsA,AVal.fresh,freshL,AObj.fresh,id,Y1v,go_sem,yz0,J9,J8,J6,J7,J5,J0,J1,J2,reduceIte,J3,J4,reduceCtorEq]
  exact ⟨[],by simp,by simp,by simp,rfl⟩
theorem yz7j (n:Int) (next:List (List Int)) (A:Aut n next) :
  Fun Tryz.prog nz54 [autA n next] (.tup [bv (firstT (tourT next (2 ^ n.toNat - 1))).isSome,iv 0]):=by
 refine yzd mixed czrl rfl ⟨rfl,by simp [AVal.fresh,freshL]⟩ ?_
 simp only [Aze7,Bze6,go_sem,yz0,J9,J8,J6,J7,J5,J0,J1,J2,reduceIte,J3,J4,reduceCtorEq]
 intro vs vs2
 refine yz4o (yzbw n next A) qCS (fun e=>by cases e) ?_
 rintro outs rows res ⟨rfl,rfl,rfl⟩
 refine ⟨rfl,by simp,by simp,?_⟩
 unfold shortR
 cases hf:firstT (tourT next (2 ^ n.toNat - 1)) with
 | some p =>
  obtain ⟨f,w⟩:=p
  have e1:((0:Int) == 1)=false:=rfl
  simp only [e1,Bz76,Bz74,Bz75,Y1x,Y1v,rsA,AVal.fresh,freshL,AObj.fresh,id,Y1v,go_sem,yz0,J9,J8,J6,J7,J5,J0,J1,J2,reduceIte,J3,J4,reduceCtorEq]
 | none =>
  have e1:((6:Int) == 1)=false:=rfl
  have e2:((6:Int) == 0)=false:=rfl
  simp only [e1,e2,Bz76,Bz74,Bz75,Y1x,Option.isSome_none,rsA,AVal.fresh,freshL,AObj.fresh,id,Y1v,go_sem,yz0,J9,J8,J6,J7,J5,J0,J1,J2,reduceIte,J3,J4,reduceCtorEq]
end Go.Ab
namespace Go.Ab
structure BT (L:TS) (B C:List Int):Prop where
 lb:B.length=L.length
 lc:C.length=L.length
 wd:∀ i,i<L.length→(B.getD i 0=-1∧(L.getD i (0,[])).2=[])∨(0≤B.getD i 0∧B.getD i 0<i∧(L.getD i (0,[])).2=(L.getD (B.getD i 0).toNat (0,[])).2 ++ [C.getD i 0])
theorem yz2s {α:Type} {xs ys:List α} {i:Nat} {d:α} (h:i<xs.length):(xs ++ ys).getD i d=xs.getD i d:=by
 rw [Y0,Y10 h,← Y0]
theorem yz6j {α:Type} {xs:List α} {y d:α} {i:Nat} (h:i=xs.length):(xs ++ [y]).getD i d=y:=by
 rw [Y0,Yv (by omega),h];simp
theorem BT.add {L:TS} {B C:List Int} (h:BT L B C) {i:Nat} (hi:i<L.length) (to x:Nat) :
  BT (L ++ [(to,(L.getD i (0,[])).2 ++ [(x:Int)])]) (B ++ [(i:Int)]) (C ++ [(x:Int)]):=by
 have lb:=h.lb
 have lc:=h.lc
 refine ⟨by simp [lb],by simp [lc],fun j hj=>?_⟩
 rw [Y5,Y7] at hj
 by_cases e:j<L.length
 ·have e1:(B ++ [(i:Int)]).getD j 0=B.getD j 0:=yz2s (by omega)
  have e2:(C ++ [(x:Int)]).getD j 0=C.getD j 0:=yz2s (by omega)
  have e3:(L ++ [(to,(L.getD i (0,[])).2 ++ [(x:Int)])]).getD j (0,[])=L.getD j (0,[]):=yz2s e
  rw [e1,e2,e3]
  rcases h.wd j e with h1 | ⟨h1,h2,h3⟩
  ·exact .inl h1
  ·have e4:(L ++ [(to,(L.getD i (0,[])).2 ++ [(x:Int)])]).getD (B.getD j 0).toNat (0,[])=L.getD (B.getD j 0).toNat (0,[]):=yz2s (by omega)
   rw [e4]
   exact .inr ⟨h1,h2,h3⟩
 ·have:j=L.length:=by omega
  subst this
  have e1:(B ++ [(i:Int)]).getD L.length 0=i:=yz6j lb.symm
  have e2:(C ++ [(x:Int)]).getD L.length 0=x:=yz6j lc.symm
  have e3:(L ++ [(to,(L.getD i (0,[])).2 ++ [(x:Int)])]).getD L.length (0,[])=(to,(L.getD i (0,[])).2 ++ [(x:Int)]):=yz6j rfl
  have e4:(L ++ [(to,(L.getD i (0,[])).2 ++ [(x:Int)])]).getD i (0,[])=L.getD i (0,[]):=yz2s hi
  rw [e1,e2,e3,Y1t,e4]
  exact .inr ⟨by omega,by omega,rfl⟩
end Go.Ab
namespace Go.Ab
open Go.Proofs
theorem i_and {x y:Nat} (hx:x<4611686018427387904) (hy:y<4611686018427387904) :
  IntKind.i64.wrap ((@HAnd.hAnd (BitVec 64) (BitVec 64) (BitVec 64) (@instHAndOfAndOp (BitVec IntKind.i64.bits) (@BitVec.instAndOp IntKind.i64.bits)) (BitVec.ofInt 64 (x:Int)) (BitVec.ofInt 64 (y:Int))).toNat)=((x &&& y:Nat):Int):=by
 have h:(BitVec.ofInt 64 (x:Int) &&& BitVec.ofInt 64 (y:Int)).toNat=x &&& y:=by rw [BitVec.toNat_and,bv64 (by omega),bv64 (by omega)]
 show IntKind.i64.wrap ((BitVec.ofInt 64 (x:Int) &&& BitVec.ofInt 64 (y:Int)).toNat:Int)=_
 rw [h]
 have:x &&& y≤x:=Nat.and_le_left
 exact w64 (by omega)
theorem i_and1 {x:Nat} (hx:x<4611686018427387904) :
  IntKind.i64.wrap ((@HAnd.hAnd (BitVec 64) (BitVec 64) (BitVec 64) (@instHAndOfAndOp (BitVec IntKind.i64.bits) (@BitVec.instAndOp IntKind.i64.bits)) (BitVec.ofInt 64 (x:Int)) (BitVec.ofInt 64 1)).toNat)=((x &&& 1:Nat):Int):=i_and (y:=1) hx (by omega)
theorem i_or {x y:Nat} (hx:x<4611686018427387904) (hy:y<4611686018427387904) :
  IntKind.i64.wrap ((@HOr.hOr (BitVec 64) (BitVec 64) (BitVec 64) (@instHOrOfOrOp (BitVec IntKind.i64.bits) (@BitVec.instOrOp IntKind.i64.bits)) (BitVec.ofInt 64 (x:Int)) (BitVec.ofInt 64 (y:Int))).toNat)=((x ||| y:Nat):Int):=by
 have h:(BitVec.ofInt 64 (x:Int) ||| BitVec.ofInt 64 (y:Int)).toNat=x ||| y:=by rw [BitVec.toNat_or,bv64 (by omega),bv64 (by omega)]
 show IntKind.i64.wrap ((BitVec.ofInt 64 (x:Int) ||| BitVec.ofInt 64 (y:Int)).toNat:Int)=_
 rw [h]
 have:x ||| y<2 ^ 62:=Nat.or_lt_two_pow (n:=62) (by omega) (by omega)
 exact w64 (by omega)
theorem i_shl {b:Nat} (h:b<60):IntKind.i64.wrap (1 * 2 ^ min b 64)=((2 ^ b:Nat):Int):=by
 have h1:min b 64=b:=by omega
 have h2:(2:Int) ^ b=((2 ^ b:Nat):Int):=by simp
 rw [h1,Int.one_mul,h2]
 have h3:2 ^ b<1152921504606846976:=Nat.pow_lt_pow_right (a:=2) (n:=60) (by omega) h
 generalize 2 ^ b=q at h3 ⊢
 exact w64 (by omega)
end Go.Ab
namespace Go.Ab
end Go.Ab
namespace Go.Ab
open Go.Proofs
def optC:Option (List Int)→AVal
 | some w=>.ro none 1 (ints w)
 | none=>.val (.slice none 0 0)
def optL (os:List (Option (List Int))):List AVal:=os.map optC
def rzs (oss:List (List (Option (List Int)))):List AVal:=oss.map fun os=>.ro (some none) 1 (optL os)
def rzn (oss:List (List (Option (List Int)))):List AVal:=oss.map fun os=>.ro none 1 (optL os)
theorem dn_optC {o:Option (List Int)}:(optC o).dn=optC o:=by cases o <;> simp [optC,AVal.dn,ints,yz17,dnNm]
theorem yz9p {os:List (Option (List Int))}:dnL (optL os)=optL os:=by
 simp only [yz17,optL,Yj]
 exact Yg fun o _=>dn_optC
theorem dnL_rzs {oss:List (List (Option (List Int)))}:dnL (rzs oss)=rzs oss:=by
 simp only [yz17,rzs,Yj]
 exact Yg fun o _=>by simp [AVal.dn,yz9p,dnNm]
theorem dnL_rzn {oss:List (List (Option (List Int)))}:dnL (rzn oss)=rzn oss:=by
 simp only [yz17,rzn,Yj]
 exact Yg fun o _=>by simp [AVal.dn,yz9p,dnNm]
theorem one_optC {hp:Nat→AObj} {o:Option (List Int)}:One hp (optC o)=True:=by cases o <;> simp [optC,One,Value.oneCell']
theorem one_opt {hp:Nat→AObj} {os:List (Option (List Int))}:(∀ A∈optL os,One hp A)=True:=by
 refine eq_true ?_
 intro A hA
 simp only [optL,Y3] at hA
 obtain ⟨x,_,rfl⟩:=hA
 exact of_eq_true one_optC
theorem one_rzs {hp:Nat→AObj} {oss:List (List (Option (List Int)))}:(∀ A∈rzs oss,One hp A)=True:=by
 refine eq_true ?_
 intro A hA
 simp only [rzs,Y3] at hA
 obtain ⟨x,_,rfl⟩:=hA
 exact trivial
theorem frz_optC {hp:Nat→AObj} {o:Option (List Int)}:frz hp (optC o)=optC o:=by cases o <;> simp [optC,frz]
theorem frz_opt {hp:Nat→AObj} {os:List (Option (List Int))}:(optL os).map (frz hp)=optL os:=by
 simp only [optL,Yj]
 exact Yg fun o _=>frz_optC
theorem frz_rzs {hp:Nat→AObj} {oss:List (List (Option (List Int)))}:(rzs oss).map (frz hp)=rzs oss:=by simp [rzs,frz]
theorem yz3x:∀ {os:List (Option (List Int))},owned (optL os)=[]
 | []=>rfl
 | some _ :: os=>yz3x (os:=os)
 | none :: os=>yz3x (os:=os)
theorem yz6i:∀ {oss:List (List (Option (List Int)))},owned (rzs oss)=[]
 | []=>rfl
 | _ :: oss=>yz6i (oss:=oss)
theorem yzdp {os:List (Option (List Int))} {w:List Int}:optL os ++ [.ro none 1 (ints w)]=optL (os ++ [some w]):=by simp [optL,optC]
theorem yzed {os:List (Option (List Int))}:optL os ++ [.val (.slice none 0 0)]=optL (os ++ [none]):=by simp [optL,optC]
theorem yze6 {oss:List (List (Option (List Int)))} {os:List (Option (List Int))}:rzs oss ++ [.ro (some none) 1 (optL os)]=rzs (oss ++ [os]):=by simp [rzs]
theorem opt_len {os:List (Option (List Int))}:(optL os).length=os.length:=by simp [optL]
theorem rzs_len {oss:List (List (Option (List Int)))}:(rzs oss).length=oss.length:=by simp [rzs]
theorem rzn_len {oss:List (List (Option (List Int)))}:(rzn oss).length=oss.length:=by simp [rzn]
attribute [local go_sem] yz9p dnL_rzs dnL_rzn one_opt one_rzs frz_opt frz_rzs yz3x yz6i yzdp yzed yze6 rzs_len rzn_len opt_len
attribute [local go_sem] yz9p dnL_rzs dnL_rzn one_opt one_rzs frz_opt frz_rzs yz3x yz6i yzdp yzed yze6 rzs_len rzn_len opt_len
theorem rwnS {xss:List (List Int)} {xs:List Int}:rwn xss ++ [.ro none 1 (ints xs)]=rwn (xss ++ [xs]):=by simp [rwn]
theorem frz_rwnS {hp:Nat→AObj} {xss:List (List Int)}:(rwn xss).map (frz hp)=rwn xss:=by simp [rwn,frz]
theorem yz7g:∀ {xss:List (List Int)},owned (rwn xss)=[]
 | []=>rfl
 | _ :: xss=>yz7g (xss:=xss)
attribute [local go_sem] rwnS frz_rwnS yz7g
theorem k_l02Bits (set:List Int) (h:∀ s∈set,0≤s∧s<10):Fun Tryz.prog nz58 [.ro none 1 (ints set)] (iv (maskN set)):=by
 refine yzd mixed czrw rfl ⟨rfl,trivial⟩ ?_
 simp only [Azfs,Bzfr,Bzfq,Bzfo,go_sem,yz0,J9,J8,J6,J7,J5,J0,J1,J2,reduceIte,J3,J4,reduceCtorEq]
 refine yzo (fun i=>set.length - i) (fun i=>i≤set.length)
  (fun i:Nat=>⟨L .any [(0,.ro none 1 (ints set)),(3,iv (maskN (set.take i))),(4,iv i)],L .gone []⟩) 0 (by simp) (by simp only [Bz30,List.take_zero,go_sem,yz0,J9,J8,J6,J7,J5,J0,J1,J2,reduceIte,J3,J4,reduceCtorEq];try rfl) ?_
 intro i hi
 by_cases hlt:(i:Int)<set.length
 ·have hlt1:i<set.length:=by omega
  have hs:=h _ (yz4 hlt1 0)
  have hs0:¬ set.getD i 0<0:=by omega
  have h1:=yz9d (set:=set.take i) (fun s hs=>h s (Y1d hs))
  have h2:=yz4f (k:=(set.getD i 0).toNat) (by omega)
  have hx64:IntKind.u64.wrap (set.getD i 0)=set.getD i 0:=by
   rw [show set.getD i 0=(((set.getD i 0).toNat:Nat):Int) by omega];exact u64w (by omega)
  have hsl:=i_shl (b:=(set.getD i 0).toNat) (by omega)
  have hor:=i_or (x:=maskN (set.take i)) (y:=2 ^ (set.getD i 0).toNat) (by omega) (by omega)
  have hr:maskN (set.take i) ||| 2 ^ (set.getD i 0).toNat=maskN (set.take (i+1)):=yz6c set (fun o s=>o ||| 2 ^ s.toNat) 0 0 hlt1
  simp only [Bz30,Bz7j,Bzfn,Bzfm,hs0,hx64,hsl,hor,hr,yz3 hlt1,decide_eq_true hlt,go_sem,yz0,J9,J8,J6,J7,J5,J0,J1,J2,reduceIte,J3,J4,reduceCtorEq]
  intro hM
  simp only [nat1 i _ hlt1 hM,go_sem,yz0,J9,J8,J6,J7,J5,J0,J1,J2,reduceIte,J3,J4,reduceCtorEq]
  exact ⟨⟨by omega,hlt1⟩,hlt1,i+1,by omega,by omega,rfl⟩
 ·obtain rfl:i=set.length:=by omega
  simp only [Bz30,Bz7j,Bzfp,decide_eq_false hlt,Y11,go_sem,yz0,J9,J8,J6,J7,J5,J0,J1,J2,reduceIte,J3,J4,reduceCtorEq]
  try (intro _;trivial)
end Go.Ab
namespace Go.Ab
open Go Go.Proofs
theorem yz5z (xs ys:List Int):Fun Tryz.prog nz1o [.ro none 1 (ints xs),.ro none 1 (ints ys)] (bv (decide (cmpL xs ys<0))):=by
 refine yzd mixed czrz rfl ⟨rfl,trivial⟩ ?_
 have hM:=yzc
 simp only [Azg9,Bzg8,Bzg7,go_sem,yz0,J9,J8,J6,J7,J5,J0,J1,J2,reduceIte,J3,J4,reduceCtorEq]
 refine yzo (fun i=>xs.length - i) (fun i=>i≤xs.length∧i≤ys.length∧cmpL (xs.drop i) (ys.drop i)=cmpL xs ys)
  (fun i:Nat=>⟨L .any [(0,.ro none 1 (ints xs)),(1,.ro none 1 (ints ys)),(5,iv i)],L .gone []⟩) 0 (by simp) (by simp only [Bzx,go_sem,yz0,J9,J8,J6,J7,J5,J0,J1,J2,reduceIte,J3,J4,reduceCtorEq];try rfl) ?_
 rintro i ⟨hi,hi2,hc⟩
 by_cases hlt:(i:Int)<xs.length
 ·have hlt1:i<xs.length:=by omega
  rw [yzn hlt1 0] at hc
  by_cases hlt2:(i:Int)<ys.length
  ·have hlt3:i<ys.length:=by omega
   rw [yzn hlt3 0] at hc
   simp only [cmpL] at hc
   simp only [Bzx,Bz33,Bzg6,decide_eq_true hlt,decide_eq_true hlt2,yz3 hlt1,yz3 hlt3,go_sem,yz0,J9,J8,J6,J7,J5,J0,J1,J2,reduceIte,J3,J4,reduceCtorEq]
   intro hM1 hM2
   refine ⟨⟨by omega,hlt1⟩,hlt1,⟨by omega,hlt3⟩,hlt3,?_⟩
   by_cases he:xs.getD i 0=ys.getD i 0
   ·rw [if_pos (cmpI_zero.2 he)] at hc
    have wi:IntKind.i64.wrap ((i:Int)+1)=((i+1:Nat):Int):=by rw [w64 (by omega)];simp
    simp only [Bz7o,Bzg5,he,bne_self_eq_false,wi,go_sem,yz0,J9,J8,J6,J7,J5,J0,J1,J2,reduceIte,J3,J4,reduceCtorEq]
    exact ⟨i+1,by omega,⟨by omega,by omega,hc⟩,rfl⟩
   ·rw [if_neg (fun h=>he (cmpI_zero.1 h))] at hc
    have e1:(xs.getD i 0 != ys.getD i 0)=true:=by simpa using he
    have e2:decide (cmpL xs ys<0)=decide (xs.getD i 0<ys.getD i 0):=by
     rw [← hc]
     exact decide_eq_decide.2 ltC
    simp only [Bz7o,e1,yz3 hlt1,yz3 hlt3,e2,go_sem,yz0,J9,J8,J6,J7,J5,J0,J1,J2,reduceIte,J3,J4,reduceCtorEq]
    exact ⟨⟨by omega,hlt1⟩,hlt1,⟨by omega,hlt3⟩,hlt3⟩
  ·have hle:ys.length≤i:=by omega
   have:ys.drop i=[]:=List.drop_eq_nil_of_le hle
   rw [this] at hc
   simp only [cmpL] at hc
   have e2:decide (cmpL xs ys<0)=false:=by rw [← hc];decide
   have e3:¬ (xs.length:Int)<ys.length:=by omega
   simp only [Bzx,Bz33,Bz7p,decide_eq_true hlt,decide_eq_false hlt2,e2,decide_eq_false e3,go_sem,yz0,J9,J8,J6,J7,J5,J0,J1,J2,reduceIte,J3,J4,reduceCtorEq]
   try (intros;trivial)
 ·obtain rfl:i=xs.length:=by omega
  rw [Y14] at hc
  have e2:decide (cmpL xs ys<0)=decide ((xs.length:Int)<ys.length):=by
   by_cases h:xs.length<ys.length
   ·rw [yzn h 0] at hc
    simp only [cmpL] at hc
    rw [← hc,decide_eq_true (show (xs.length:Int)<ys.length by omega)];rfl
   ·have:ys.drop xs.length=[]:=List.drop_eq_nil_of_le (by omega)
    rw [this] at hc
    simp only [cmpL] at hc
    rw [← hc,decide_eq_false (show ¬ (xs.length:Int)<ys.length by omega)];rfl
  simp only [Bzx,Bz33,Bz7p,decide_eq_false hlt,e2,go_sem,yz0,J9,J8,J6,J7,J5,J0,J1,J2,reduceIte,J3,J4,reduceCtorEq]
  try (intros;trivial)
def bkA (n:Int) (next:List (List Int)) (x f:Nat):Nat:=maskN (preA next (bitsTo f 10) [(x:Int)] n.toNat)
theorem preA_in {next:List (List Int)} {set w:List Int} {i:Nat} (hi:i≤10):∀ s∈preA next set w i,0≤s∧s<10:=fun s hs=>by
 have:=(preA_mem.1 hs).1;omega
theorem yzc6 (n:Int) (next:List (List Int)) (A:Aut n next) (x f:Nat) (hx:x<next.length) (hf:f<1024):Fun Tryz.prog nz5j [.ro none 1 (ints (next.getD x [])),iv f] (iv (bkA n next x f)):=by
 refine yzd mixed czsq rfl ⟨rfl,trivial⟩ ?_
 have n1:=A.n1
 have n2:=A.n2
 have hrow:=A.row _ (yz4 hx [])
 have hrl:(next.getD x []).length=n.toNat:=by have:=hrow.1;omega
 have hat:∀ s:Nat,atA next (s:Int) [(x:Int)]=(next.getD x []).getD s 0:=fun s=>by simp [atA,stepA]
 simp only [Azki,Bzkh,Bzkg,Bzke,go_sem,yz0,J9,J8,J6,J7,J5,J0,J1,J2,reduceIte,J3,J4,reduceCtorEq]
 refine yzo (fun i=>n.toNat - i) (fun i=>i≤n.toNat)
  (fun i:Nat=>⟨L .any [(0,.ro none 1 (ints (next.getD x []))),(1,iv f),(5,iv (maskN (preA next (bitsTo f 10) [(x:Int)] i))),(6,iv i)],L .gone []⟩) 0 (Y1j _)
  (by
   have:maskN (preA next (bitsTo f 10) [(x:Int)] 0)=0:=rfl
   rw [this]
   simp only [Bz17,go_sem,yz0,J9,J8,J6,J7,J5,J0,J1,J2,reduceIte,J3,J4,reduceCtorEq];try rfl) ?_
 intro i hi
 have hi:i≤n.toNat:=hi
 by_cases hlt:(i:Int)<(next.getD x []).length
 ·have hlt1:i<(next.getD x []).length:=by omega
  have wi:IntKind.i64.wrap ((i:Int)+1)=((i+1:Nat):Int):=by rw [w64 (by omega)];simp
  have hv:=hrow.2 _ (yz4 hlt1 0)
  obtain ⟨v,hv2⟩:∃ v:Nat,(next.getD x []).getD i 0=(v:Int):=⟨((next.getD x []).getD i 0).toNat,by omega⟩
  have hv10:v<10:=by omega
  have h64:IntKind.u64.wrap (v:Int)=v:=u64w (by omega)
  have h642:IntKind.u64.wrap (i:Int)=i:=u64w (by omega)
  have hv0:¬ (v:Int)<0:=by omega
  have hi0:¬ (i:Int)<0:=by omega
  have hsh:=u_shr (f:=f) (s:=v) (by omega)
  have hlt2:f >>> v<4611686018427387904:=by rw [Y1s];exact Nat.lt_of_le_of_lt (Nat.div_le_self _ _) (by omega)
  have hand:=i_and1 hlt2
  have hbit:((((f >>> v &&& 1:Nat):Int)) == 1)=f.testBit v:=by
   rw [Nat.testBit_eq_decide_div_mod_eq,Nat.and_one_is_mod,Y1s,Bool.eq_iff_iff,beq_iff_eq,decide_eq_true_iff]
   omega
  have hcon:(bitsTo f 10).contains (atA next (i:Int) [(x:Int)])=f.testBit v:=by
   rw [hat,hv2,Bool.eq_iff_iff,Y1e,mem_bitsTo,Y1t]
   exact ⟨fun h=>h.2.2,fun h=>⟨by omega,by omega,h⟩⟩
  have hps:=yzah (next:=next) (set:=bitsTo f 10) (w:=[(x:Int)]) (i:=i)
  rw [hcon] at hps
  have h1:=yz9d (preA_in (next:=next) (set:=bitsTo f 10) (w:=[(x:Int)]) (i:=i) (by omega))
  have h2:=yz4f (k:=i) (by omega)
  have hsl:=i_shl (b:=i) (by omega)
  have hor:=i_or (x:=maskN (preA next (bitsTo f 10) [(x:Int)] i)) (y:=2 ^ i) (by omega) (by omega)
  cases hb:f.testBit v with
  | false =>
   rw [hb] at hbit
   rw [hb,if_neg (by simp)] at hps
   simp only [Bz17,Bz3t,Bz9h,Bz9f,Bz9g,yz3 hlt1,hv2,h64,hv0,hsh,hand,hbit,wi,decide_eq_true hlt,Y1t,go_sem,yz0,J9,J8,J6,J7,J5,J0,J1,J2,reduceIte,J3,J4,reduceCtorEq]
   intro hM
   exact ⟨⟨by omega,hlt1⟩,hlt1,i+1,by omega,by omega,by rw [hps]⟩
  | true =>
   rw [hb] at hbit
   rw [hb,if_pos rfl] at hps
   have hr:maskN (preA next (bitsTo f 10) [(x:Int)] i) ||| 2 ^ i=maskN (preA next (bitsTo f 10) [(x:Int)] (i+1)):=by
    rw [hps];simp [maskN,List.foldl_append]
   simp only [Bz17,Bz3t,Bz9h,Bz9f,Bz9g,yz3 hlt1,hv2,h64,h642,hv0,hi0,hsh,hsl,hor,hr,hand,hbit,wi,decide_eq_true hlt,Y1t,go_sem,yz0,J9,J8,J6,J7,J5,J0,J1,J2,reduceIte,J3,J4,reduceCtorEq]
   intro hM
   exact ⟨⟨by omega,hlt1⟩,hlt1,i+1,by omega,by omega,rfl⟩
 ·obtain rfl:i=n.toNat:=by omega
  simp only [Bz17,Bz3t,Bzkf,decide_eq_false hlt,go_sem,yz0,J9,J8,J6,J7,J5,J0,J1,J2,reduceIte,J3,J4,reduceCtorEq]
  try (intros;rfl)
end Go.Ab
namespace Go.Ab
def othS (next out:List (List Int)) (s x:Nat) (o t:Nat):Nat:=if (out.getD x []).getD t 0=(out.getD x []).getD s 0 then o ||| 2 ^ ((next.getD x []).getD t 0).toNat else o
def othN (next out:List (List Int)) (s f x:Nat):Nat:=(bitsN f).foldl (othS next out s x) 0
def toN (next:List (List Int)) (s x:Nat):Nat:=((next.getD x []).getD s 0).toNat
def idN (next out:List (List Int)) (p:Nat×Nat) (x:Nat):Option (Nat×Nat) :=
 if (othN next out p.1 p.2 x).testBit (toN next p.1 x)=true then none else some (toN next p.1 x,othN next out p.1 p.2 x)
def idD (n:Nat) (p:Nat×Nat):Prop:=p.1<n∧p.2<2 ^ n
def butN (n s:Nat):Nat:=2 ^ n - 1 - 2 ^ s
theorem toN_lt {n:Int} {next:List (List Int)} (A:Aut n next) {s x:Nat} (hs:s<n.toNat) (hx:x<next.length):toN next s x<n.toNat∧stepA next (s:Int) (x:Int)=(toN next s x:Int):=by
 have h:=A.step (s:=(s:Int)) (l:=(x:Int)) (by omega) (by omega)
 unfold stepA at h ⊢
 rw [Y1t,Y1t] at h ⊢
 unfold toN
 omega
theorem oth_lt {n:Int} {next out:List (List Int)} (A:Aut n next) {s f x:Nat} (hf:f<2 ^ n.toNat) (hx:x<next.length):othN next out s f x<2 ^ n.toNat:=by
 have gen:∀ (l:List Nat) (o:Nat),(∀ t∈l,t<n.toNat)→o<2 ^ n.toNat→l.foldl (othS next out s x) o<2 ^ n.toNat:=by
  intro l
  induction l with
  | nil=>intro o _ h;exact h
  | cons t l ih =>
   intro o hl h
   rw [Ys]
   refine ih _ (fun y hy=>hl y (by simp [hy])) ?_
   unfold othS
   split
   ·refine Nat.or_lt_two_pow h ?_
    have:=(toN_lt A (hl t (by simp)) hx).1
    unfold toN at this
    exact Nat.pow_lt_pow_right (by omega) this
   ·exact h
 exact gen _ 0 (fun t ht=>yz2l hf ht) (Y1r _)
theorem idN_D {n:Int} {next out:List (List Int)} (A:Aut n next):∀ p y q,idD n.toNat p→y<next.length→idN next out p y=some q→idD n.toNat q:=by
 intro p y q hp hy h
 unfold idN at h
 split at h
 ·cases h
 ·cases h
  exact ⟨(toN_lt A hp.1 hy).1,oth_lt A hp.2 hy⟩
theorem id_count {n:Nat} (hn:n≤10):∀ L:List ((Nat×Nat)×List Int),(L.map (·.1)).Nodup→(∀ p∈L,idD n p.1)→L.length≤10240:=by
 intro L hd hr
 have hp:2 ^ n≤1024:=Y1k (n:=2) (by omega) hn
 have h1:=yz3h 10240 (L.map fun p=>p.1.1 * 1024+p.1.2) ?_ ?_
 ·simpa using h1
 ·rw [List.nodup_iff_pairwise_ne,List.pairwise_map] at hd ⊢
  refine (List.Pairwise.and_mem.1 hd).imp fun {a b} h e=>?_
  obtain ⟨ha,hb,hne⟩:=h
  have h1:=hr a ha
  have h2:=hr b hb
  refine hne (Prod.ext ?_ ?_)
  ·have:=h1.2;have:=h2.2;omega
  ·have:=h1.2;have:=h2.2;omega
 ·intro x hx
  obtain ⟨p,hp2,rfl⟩:=Y3.1 hx
  have h1:=hr p hp2
  have:=h1.1;have:=h1.2
  omega
end Go.Ab
namespace Go.Ab
open Go.Proofs
structure IdI (n:Int) (next out:List (List Int)) (s i x:Nat) (L:PS):Prop where
 gi:GI (idN next out) (idD n.toNat) next.length ((0,0),[]) (s,butN n.toNat s) i x L
 wl:∀ p∈L,p.2.length<L.length
theorem IdI.len {n:Int} {next out:List (List Int)} {s i x:Nat} {L:PS} (A:Aut n next) (h:IdI n next out s i x L):L.length≤10240:=id_count (by have:=A.n2;omega) L h.gi.nd h.gi.rg
theorem IdI.vis {n:Int} {next out:List (List Int)} {s i:Nat} {L:PS} (A:Aut n next) (h:IdI n next out s i 0 L) (hi:i<L.length):∀ x,x≤next.length→IdI n next out s i x (visG (idN next out) (L.getD i ((0,0),[])).1 (L.getD i ((0,0),[])).2 x L)
 | 0,_=>h
 | x+1,hx=>by
  have h1:=IdI.vis A h hi x (by omega)
  refine ⟨GI.vis (idN_D A) h.gi hi (x+1) hx,?_⟩
  have hm:=h.wl _ (yz4 hi ((0,0),[]))
  obtain ⟨t,ht⟩:=yz4e (δ:=idN next out) (p:=(L.getD i ((0,0),[])).1) (w:=(L.getD i ((0,0),[])).2) x L
  simp only [visG]
  cases idN next out (L.getD i ((0,0),[])).1 x with
  | none=>exact h1.wl
  | some q =>
   simp only
   split
   ·exact h1.wl
   ·intro p hp
    rw [Y5,Y7]
    rcases Y4.1 hp with hp | hp
    ·have:=h1.wl p hp;omega
    ·have:p=(q,(L.getD i ((0,0),[])).2 ++ [(x:Int)]):=by simpa using hp
     subst this
     rw [Y5,Y7,ht,Y5];omega
def bls (xs:List Bool):List AVal:=xs.map bv
theorem yzas {xs:List Bool}:(bls xs).length=xs.length:=by simp [bls]
theorem yze5 {xs:List Bool} {i:Nat} (h:i<xs.length):(bls xs).getD i .any=bv (xs.getD i false):=by
 rw [Y0,bls,Yd,Y2 h,Y0,Y2 h];rfl
theorem bls_set {xs:List Bool} {i:Nat} {b:Bool} (h:i<xs.length):(bls xs).take i ++ [AVal.val (.bool b)] ++ (bls xs).drop (i+1)=bls (xs.set i b):=by
 rw [List.set_eq_take_append_cons_drop,if_pos h]
 simp [bls]
end Go.Ab
namespace Go.Ab
open Go Go.Proofs
theorem yz8n {n:Nat}:∀ (l:List Int) (o:Nat),(∀ x∈l,x.toNat<n)→o<2 ^ n→l.foldl (fun o (s:Int)=>o ||| 2 ^ s.toNat) o<2 ^ n
 | [],o,_,h=>h
 | x :: l,o,hl,h=>by
  rw [Ys]
  exact yz8n l _ (fun y hy=>hl y (by simp [hy])) (Nat.or_lt_two_pow h (Nat.pow_lt_pow_right (by omega) (hl x (by simp))))
theorem yz3j {n:Int} {next:List (List Int)} {x f:Nat}:bkA n next x f<2 ^ n.toNat:=by
 refine yz8n _ 0 (fun s hs=>?_) (Y1r _)
 have:=(preA_mem.1 hs).1;omega
def tabB (f:Nat→Bool) (M:Nat):List Bool:=(Ya M).map f
theorem yz8q {f:Nat→Bool} {M:Nat}:(tabB f M).length=M:=by simp [tabB]
theorem tabB_getD {f:Nat→Bool} {M i:Nat} (h:i<M):(tabB f M).getD i false=f i:=by
 rw [tabB,Y0,Yd,List.getElem?_range h];rfl
theorem yzdg {f:Nat→Bool} {M i:Nat}:(tabB f M).set i true=tabB (fun k=>f k || k == i) M:=by
 refine Y18 (by simp [tabB]) fun j h1 h2=>?_
 rw [List.getElem_set]
 simp only [tabB,Yq,List.getElem_range]
 by_cases e:i=j
 ·subst e;simp
 ·rw [if_neg e,beq_eq_false_iff_ne.2 (fun h=>e h.symm),Bool.or_false]
theorem yz5h:∀ {xs:List Bool},freshL (bls xs)
 | []=>by simp [bls,freshL]
 | x :: xs=>by
  have:=yz5h (xs:=xs)
  simp only [bls,Y1,freshL,AVal.fresh] at this ⊢
  exact ⟨trivial,this⟩
theorem yzag {f:Nat→Option Nat} {g:Nat→Nat} {xs:List Bool}:renL f g (bls xs)=bls xs:=by
 unfold bls
 induction xs with
 | nil=>simp [renL]
 | cons x xs ih=>simp only [Y1,renL,AVal.ren,ih]
theorem put_rwp {ps:List (Nat×List Int)} {i v:Nat} {xs:List Int} (h:i<ps.length):List.take i (rwp ps) ++ [.ro (some (some (v+1))) 1 (ints xs)] ++ List.drop (i+1) (rwp ps)=rwp (ps.set i (v,xs)):=by
 rw [List.set_eq_take_append_cons_drop,if_pos h]
 simp [rwp]
abbrev keyL (A:List (Nat×List Int)):List Int:=A.map fun p=>(p.1:Int)
abbrev wrdL (A:List (Nat×List Int)):List (List Int):=A.map (·.2)
theorem yzax {seen:Nat→Bool} {A:List (Nat×List Int)} {c:Nat×List Int} (h:seen c.1=true):insA seen A c=A:=by unfold insA;rw [if_pos h]
theorem yzd1 {seen:Nat→Bool} {A:List (Nat×List Int)} {c:Nat×List Int} (h:seen c.1=false) (h2:c.1 ∉ A.map (·.1)):insA seen A c=A ++ [c]:=by
 unfold insA
 rw [if_neg (by simp [h]),if_neg]
 intro h3
 exact h2 (List.idxOf_lt_length_iff.1 (by rw [Y6];exact h3))
theorem yzey {seen:Nat→Bool} {A:List (Nat×List Int)} {c:Nat×List Int} {i:Nat} (nd:(A.map (·.1)).Nodup) (h:seen c.1=false) (hi:i<A.length) (hk:(A.getD i (0,[])).1=c.1) :
  insA seen A c=if cmpL c.2 (A.getD i (0,[])).2<0 then A.set i c else A:=by
 have hg:A.getD i (0,[])=A[i]:=by rw [Y0,Y2 hi];rfl
 have hm:c.1∈A.map (·.1):=Y3.2 ⟨A[i],Yy hi,by rw [← hk,hg]⟩
 have hlt:=List.idxOf_lt_length_of_mem hm
 have hl2:(A.map (·.1)).idxOf c.1<A.length:=by rwa [Y6] at hlt
 have he:=List.getElem_idxOf hlt
 rw [Yq] at he
 have:(A.map (·.1)).idxOf c.1=i:=yzab nd hl2 hi (by rw [he,← hk,hg])
 unfold insA
 rw [if_neg (by simp [h]),if_pos hl2,this]
theorem yzbt (n:Int) (next:List (List Int)) (A:Aut n next) (Lv:List (Nat×List Int)) (seen:Nat→Bool) (hk:∀ p∈Lv,p.1<1024) (hl:Lv.length≤1024) (hw:∀ p∈Lv,p.2.length≤4000) :
  Con Tryz.prog nz1p [.row 0 1 true (bls (tabB seen (2 ^ n.toNat)))] [autP n next,.ro none 1 (ints (keyL Lv)),.ro none 1 (rwn (wrdL Lv)),.own 5000 0] false
   fun outs rows res=>outs=[.row 0 1 true (bls (tabB (seeL seen (nextL (bkA n next) next.length seen Lv)) (2 ^ n.toNat)))] ∧
    ∃ v w ps,rows=[.row v 1 true (ints (keyL (nextL (bkA n next) next.length seen Lv))),.row w 1 true (rwp ps)]∧ps.map (·.2)=wrdL (nextL (bkA n next) next.length seen Lv)∧res=.tup [.own 6000 v,.own 6001 w]:=by
 refine yz90 mixed czs0 rfl (by simp) ?_
 have n1:=A.n1
 have n2:=A.n2
 have l2:=A.l2
 have hML:=yzc
 have hN:2 ^ n.toNat≤1024:=Y1k (n:=2) (by omega) (show n.toNat≤10 by omega)
 generalize hQ:finQ _=Q
 simp only [Az82,Bzgq,yz2,yz1,go_sem,yz0,J9,J8,J6,J7,J5,J0,J1,J2,reduceIte,J3,J4,reduceCtorEq]
 intro vs0 U0 hN0 vs1 U1 hN1
 simp only [Bzgp,yz2,yz1,go_sem,yz0,J9,J8,J6,J7,J5,J0,J1,J2,reduceIte,J3,J4,reduceCtorEq]
 intro vs2 U2 hN2
 simp only [Bzgo,yz2,yz1,go_sem,yz0,J9,J8,J6,J7,J5,J0,J1,J2,reduceIte,J3,J4,reduceCtorEq]
 intro vs3 U3 hN3
 simp only [Bzgi,yz2,yz1,go_sem,yz0,J9,J8,J6,J7,J5,J0,J1,J2,reduceIte,J3,J4,reduceCtorEq]
 refine yz16 (fun (_,_,i,_,_)=>Lv.length - i) (fun (_,_,i,As,ps)=>ps.map (·.2)=wrdL As∧i≤Lv.length∧As.length≤4 * i∧MinA seen (candL (bkA n next) next.length (Lv.take i)) As∧As=(candL (bkA n next) next.length (Lv.take i)).foldl (insA seen) [])
  (fun ((v10,v11,i,As,ps):Nat×Nat×Nat×List (Nat×List Int)×List (Nat×List Int))=>⟨L .any [(0,autP n next),(1,.ro none 1 (ints (keyL Lv))),(2,.ro none 1 (rwn (wrdL Lv))),(3,.own 5000 0),(10,.own 19 v10),(11,.own 20 v11),(12,iv i)],
   L .gone [(19,.row v10 1 true (ints (keyL As))),(20,.row v11 1 true (rwp ps)),(77,.gone),(81,.gone),(5000,.row 0 1 true (bls (tabB seen (2 ^ n.toNat)))),(5001,.gone),(5002,.gone),(5003,.gone)]⟩)
  (_,_,0,[],[]) ⟨rfl,Y1j _,Y1j _,by simpa [candL] using yz97,by simp [candL]⟩ (by simp only [Bz36,yz64,Yb,yz2,yz1,go_sem,yz0,J9,J8,J6,J7,J5,J0,J1,J2,reduceIte,J3,J4,reduceCtorEq];try rfl) ?_
 rintro ⟨v10,v11,i,As,ps⟩ ⟨hps,hi,hal,hmin,has⟩
 have hps:ps.map (·.2)=wrdL As:=hps
 have hi:i≤Lv.length:=hi
 have hal:As.length≤4 * i:=hal
 have hmin:MinA seen (candL (bkA n next) next.length (Lv.take i)) As:=hmin
 have has:As=(candL (bkA n next) next.length (Lv.take i)).foldl (insA seen) []:=has
 by_cases hlt:(i:Int)<Lv.length
 ·have hlt1:i<Lv.length:=by omega
  have wi:IntKind.i64.wrap ((i:Int)+1)=((i+1:Nat):Int):=by rw [w64 (by omega)];simp
  have hkl:(keyL Lv).length=Lv.length:=by simp
  obtain ⟨f,w,hg⟩:∃ f w,Lv[i]=(f,w):=⟨_,_,rfl⟩
  have hfw:(f,w)∈Lv:=hg ▸ Yy hlt1
  have hf:f<1024:=hk _ hfw
  have hwl:w.length≤4000:=hw _ hfw
  have htk:Lv.take (i+1)=Lv.take i ++ [(f,w)]:=by rw [Y1a hlt1,hg]
  simp only [Bz36,Bz7q,Bzgh,Bzgf,hkl,decide_eq_true hlt,yz2,yz1,go_sem,yz0,J9,J8,J6,J7,J5,J0,J1,J2,reduceIte,J3,J4,reduceCtorEq]
  intro vsa Ua hNa hM1 vsb Ub hNb
  have hcs:∀ x:Nat,candL (bkA n next) next.length (Lv.take i) ++ (Ya (x+1)).map (fun (x:Nat)=>(bkA n next x f,(x:Int) :: w))=(candL (bkA n next) next.length (Lv.take i) ++ (Ya x).map (fun (x:Nat)=>(bkA n next x f,(x:Int) :: w))) ++ [(bkA n next x f,(x:Int) :: w)]:=fun x=>by
   rw [List.range_succ,Yc,Y13];rfl
  have hcK:candL (bkA n next) next.length (Lv.take (i+1))=candL (bkA n next) next.length (Lv.take i) ++ (Ya next.length).map (fun (x:Nat)=>(bkA n next x f,(x:Int) :: w)):=by
   rw [htk];simp [candL,List.flatMap_append]
  generalize candL (bkA n next) next.length (Lv.take i)=C0 at hmin has hcs hcK
  refine yz16 (fun (_,_,x,_,_)=>next.length - x) (fun (_,_,x,As,ps)=>ps.map (·.2)=wrdL As∧x≤next.length∧As.length≤4 * i+x∧MinA seen (C0 ++ (Ya x).map (fun (x:Nat)=>(bkA n next x f,(x:Int) :: w))) As∧As=(C0 ++ (Ya x).map (fun (x:Nat)=>(bkA n next x f,(x:Int) :: w))).foldl (insA seen) [])
   (fun ((v10,v11,x,As,ps):Nat×Nat×Nat×List (Nat×List Int)×List (Nat×List Int))=>⟨L .any [(0,autP n next),(1,.ro none 1 (ints (keyL Lv))),(2,.ro none 1 (rwn (wrdL Lv))),(3,.own 5000 0),(10,.own 19 v10),(11,.own 20 v11),(12,iv i),(13,iv x)],
    L .gone [(19,.row v10 1 true (ints (keyL As))),(20,.row v11 1 true (rwp ps)),(77,.gone),(81,.gone),(5000,.row 0 1 true (bls (tabB seen (2 ^ n.toNat)))),(5001,.gone),(5002,.gone),(5003,.gone)]⟩)
   (v10,v11,0,As,ps) ⟨hps,Y1j _,by omega,by simpa using hmin,by simpa using has⟩ (by simp only [Bz35,yz2,yz1,go_sem,yz0,J9,J8,J6,J7,J5,J0,J1,J2,reduceIte,J3,J4,reduceCtorEq];try rfl) ?_
  rintro ⟨v10,v11,x,As,ps⟩ ⟨hps,hx,hal,hmin,has⟩
  have hps:ps.map (·.2)=wrdL As:=hps
  have hx:x≤next.length:=hx
  have hal:As.length≤4 * i+x:=hal
  have hmin:MinA seen (C0 ++ (Ya x).map (fun (x:Nat)=>(bkA n next x f,(x:Int) :: w))) As:=hmin
  have has:As=(C0 ++ (Ya x).map (fun (x:Nat)=>(bkA n next x f,(x:Int) :: w))).foldl (insA seen) []:=has
  by_cases hxl:(x:Int)<next.length
  ·have hx1:x<next.length:=by omega
   have wx:IntKind.i64.wrap ((x:Int)+1)=((x+1:Nat):Int):=by rw [w64 (by omega)];simp
   have hk1:i<(keyL Lv).length:=by rw [hkl];exact hlt1
   have hk2:(keyL Lv).getD i 0=(f:Int):=by
    rw [Y0,Yd,Y2 hlt1,hg];rfl
   have hw1:i<(wrdL Lv).length:=by simpa using hlt1
   have hw2:(wrdL Lv).getD i []=w:=by
    rw [Y0,Yd,Y2 hlt1,hg];rfl
   have hto:=yz3j (n:=n) (next:=next) (x:=x) (f:=f)
   have htl:bkA n next x f<(tabB seen (2 ^ n.toNat)).length:=by rw [yz8q];exact hto
   have htg:(tabB seen (2 ^ n.toNat)).getD (bkA n next x f) false=seen (bkA n next x f):=tabB_getD hto
   have hmin2:=hmin.step (bkA n next x f,(x:Int) :: w)
   rw [← hcs] at hmin2
   have has2:insA seen As (bkA n next x f,(x:Int) :: w)=(C0 ++ (Ya (x+1)).map (fun (x:Nat)=>(bkA n next x f,(x:Int) :: w))).foldl (insA seen) []:=by
    rw [hcs,List.foldl_append,← has];rfl
   simp only [Bz35,Bz7r,Bzge,decide_eq_true hxl,yz19 hx1,yz3 hk1,hk2,yz2,yz1,go_sem,yz0,J9,J8,J6,J7,J5,J0,J1,J2,reduceIte,J3,J4,reduceCtorEq]
   intro vsc Uc hNc hM2 vsd Ud hNd
   refine ⟨⟨by omega,hx1⟩,hx1,⟨by omega,hlt1⟩,hlt1,?_⟩
   refine yz5 (yzc6 n next A x f hx1 hf) qCS trivial ?_
   generalize hT:bkA n next x f=to at *
   cases hsn:seen to with
   | true =>
    rw [hsn] at htg
    rw [yzax hsn] at has2 hmin2
    simp only [Bz80,Bz7s,Bz34,yze5 htl,htg,yzas,wx,yz2,yz1,go_sem,yz0,J9,J8,J6,J7,J5,J0,J1,J2,reduceIte,J3,J4,reduceCtorEq]
    intro vse Ue hNe
    refine ⟨⟨by omega,htl⟩,htl,?_⟩
    intro vsf Uf hNf
    exact ⟨(v10,v11,x+1,As,ps),by dsimp only;omega,⟨hps,by dsimp only;omega,by dsimp only;omega,hmin2,has2⟩,rfl⟩
   | false =>
    rw [hsn] at htg
    simp only [Bz80,Bz7s,Bzgd,yze5 htl,htg,yzas,yz19 hw1,hw2,yz2,yz1,go_sem,yz0,J9,J8,J6,J7,J5,J0,J1,J2,reduceIte,J3,J4,reduceCtorEq]
    intro vse Ue hNe
    refine ⟨⟨by omega,htl⟩,htl,?_⟩
    intro vs4 U4 hN4
    refine ⟨⟨_,rfl,rfl⟩,⟨by omega,hlt1⟩,hlt1,by omega,?_⟩
    simp only [Bzgc,yz2,yz1,go_sem,yz0,J9,J8,J6,J7,J5,J0,J1,J2,reduceIte,J3,J4,reduceCtorEq]
    intro vsg Ug hNg
    simp only [Bzgb,yz2,yz1,go_sem,yz0,J9,J8,J6,J7,J5,J0,J1,J2,reduceIte,J3,J4,reduceCtorEq]
    intro vsh Uh hNh
    simp only [Bzga,yz2,yz1,go_sem,yz0,J9,J8,J6,J7,J5,J0,J1,J2,reduceIte,J3,J4,reduceCtorEq]
    refine yz16 (fun (k,_)=>As.length - k) (fun (k,a)=>k≤As.length∧((a=-1∧∀ j<k,(As.getD j (0,[])).1≠to)∨∃ j<k,a=(j:Int)∧(As.getD j (0,[])).1=to))
     (fun ((k,a):Nat×Int)=>⟨L .any [(0,autP n next),(1,.ro none 1 (ints (keyL Lv))),(2,.ro none 1 (rwn (wrdL Lv))),(3,.own 5000 0),(10,.own 19 v10),(11,.own 20 v11),(12,iv i),(13,iv x),(14,iv to),(15,.own 53 (vs4 6 0)),(16,iv a),(17,iv k)],
      L .gone [(19,.row v10 1 true (ints (keyL As))),(20,.row v11 1 true (rwp ps)),(53,.row (vs4 6 0) 1 true (ints ((x:Int) :: w))),(58,.gone),(77,.gone),(81,.gone),(5000,.row 0 1 true (bls (tabB seen (2 ^ n.toNat)))),(5001,.gone),(5002,.gone),(5003,.gone)]⟩)
     (0,-1) ⟨Y1j _,.inl ⟨rfl,fun j hj=>by omega⟩⟩ (by simp only [Bzk,Y1,yz2,yz1,go_sem,yz0,J9,J8,J6,J7,J5,J0,J1,J2,reduceIte,J3,J4,reduceCtorEq];try rfl) ?_
    rintro ⟨k,a⟩ ⟨hk3,ha⟩
    have hk3:k≤As.length:=hk3
    have ha:(a=-1∧∀ j<k,(As.getD j (0,[])).1≠to)∨∃ j<k,a=(j:Int)∧(As.getD j (0,[])).1=to:=ha
    have hkal:(keyL As).length=As.length:=by simp
    have hnd:=hmin.nd
    by_cases hkl2:(k:Int)<As.length
    ·have hk4:k<As.length:=by omega
     have hk5:k<(keyL As).length:=by omega
     have wk:IntKind.i64.wrap ((k:Int)+1)=((k+1:Nat):Int):=by rw [w64 (by omega)];simp
     have hkg:(keyL As).getD k 0=(((As.getD k (0,[])).1:Nat):Int):=by
      rw [Y0,Yd,Y2 hk4,Y0,Y2 hk4];rfl
     by_cases he:(As.getD k (0,[])).1=to
     ·have hb:((((As.getD k (0,[])).1:Nat):Int) == (to:Int))=true:=by rw [beq_iff_eq,he]
      simp only [Bzk,Bzy,Bz7v,Bz7t,Bz7u,hkal,decide_eq_true hkl2,yz3 hk5,hkg,hb,wk,Y1,yz2,yz1,go_sem,yz0,J9,J8,J6,J7,J5,J0,J1,J2,reduceIte,J3,J4,reduceCtorEq]
      intro vsi Ui hNi hM3 vsj Uj hNj
      refine ⟨⟨by omega,hk4⟩,hk4,?_⟩
      intros
      exact ⟨(k+1,(k:Int)),by dsimp only;omega,⟨by dsimp only;omega,.inr ⟨k,by dsimp only;omega,rfl,he⟩⟩,rfl⟩
     ·have hb:((((As.getD k (0,[])).1:Nat):Int) == (to:Int))=false:=by rw [beq_eq_false_iff_ne];omega
      simp only [Bzk,Bzy,Bz7v,Bz7t,Bz7u,hkal,decide_eq_true hkl2,yz3 hk5,hkg,hb,wk,Y1,yz2,yz1,go_sem,yz0,J9,J8,J6,J7,J5,J0,J1,J2,reduceIte,J3,J4,reduceCtorEq]
      intro vsi Ui hNi hM3 vsj Uj hNj
      refine ⟨⟨by omega,hk4⟩,hk4,?_⟩
      intros
      refine ⟨(k+1,a),by dsimp only;omega,⟨by dsimp only;omega,?_⟩,rfl⟩
      rcases ha with ⟨h1,h2⟩ | ⟨j,hj,h1,h2⟩
      ·exact .inl ⟨h1,fun j hj=>by
        by_cases e:j=k
        ·subst e;exact he
        ·exact h2 j (by dsimp only at hj;omega)⟩
      ·exact .inr ⟨j,by dsimp only;omega,h1,h2⟩
    ·obtain rfl:k=As.length:=by omega
     have hpsl:ps.length=As.length:=by
      have:=congrArg Yf hps
      simpa using this
     rcases ha with ⟨rfl,h2⟩ | ⟨j,hj,rfl,h2⟩
     ·have hnm:to ∉ As.map (·.1):=fun hm=>by
       obtain ⟨p,hp,e⟩:=Y3.1 hm
       obtain ⟨j,hj,rfl⟩:=Y1b hp
       exact h2 j hj (by rw [Y0,Y2 hj];exact e)
      rw [yzd1 (c:=(to,(x:Int) :: w)) hsn hnm] at has2 hmin2
      have hlt0:decide ((-1:Int)<0)=true:=by decide
      have hkapp:keyL As ++ [(to:Int)]=keyL (As ++ [(to,(x:Int) :: w)]):=by simp
      have hwapp:wrdL As ++ [(x:Int) :: w]=wrdL (As ++ [(to,(x:Int) :: w)]):=by simp
      simp only [Bzk,Bzy,Bz7z,Bz7y,Bz7w,Bz34,hkal,decide_eq_false hkl2,hlt0,wx,yz2,yz1,go_sem,yz0,J9,J8,J6,J7,J5,J0,J1,J2,reduceIte,J3,J4,reduceCtorEq]
      intro vsi Ui hNi hM3 vsj Uj hNj vs5 U5 hN5
      refine ⟨⟨_,rfl,rfl⟩,by omega,?_⟩
      intro vs6 U6 hN6
      refine ⟨by rw [yz7];omega,?_⟩
      intro vs7 U7 hN7
      have hrw:rwp ps ++ [AVal.ro (some (some (vs4 6 0+1))) 1 (ints ((x:Int) :: w))]=rwp (ps ++ [(vs4 6 0,(x:Int) :: w)]):=yz36
      refine ⟨(vs5 3 0,vs6 3 0,x+1,As ++ [(to,(x:Int) :: w)],ps ++ [(vs4 6 0,(x:Int) :: w)]),by dsimp only;omega,⟨by dsimp only;rw [Yc,hps,← hwapp];rfl,by dsimp only;omega,by dsimp only;rw [Y5,Y7];omega,hmin2,has2⟩,?_⟩
      dsimp only
      rw [← hkapp,← hrw]
      rfl
     ·have hjn:decide ((j:Int)<0)=false:=by rw [decide_eq_false_iff_not];omega
      have hio:=yzey (c:=(to,(x:Int) :: w)) hnd hsn hj h2
      have hjw:j<(wrdL As).length:=by simpa using hj
      have hjg:(wrdL As).getD j []=(As.getD j (0,[])).2:=by
       rw [Y0,Yd,Y2 hj,Y0,Y2 hj];rfl
      have hjp:(ps.getD j (0,[])).2=(As.getD j (0,[])).2:=by
       have this:(ps.map (·.2)).getD j []=(wrdL As).getD j []:=by rw [hps]
       rw [hjg] at this
       rw [← this,Y0,Y0,Yd,Y2 (show j<ps.length by omega)];rfl
      simp only [Bzk,Bzy,Bz7z,Bz7y,Bz7w,Bz34,hkal,decide_eq_false hkl2,hjn,wx,yz24 (show j<ps.length by omega),hjp,yz2,yz1,go_sem,yz0,J9,J8,J6,J7,J5,J0,J1,J2,reduceIte,J3,J4,reduceCtorEq]
      intro vsi Ui hNi hM3 vsj Uj hNj vs5 U5 hN5
      rw [yz7]
      refine ⟨⟨by omega,by omega⟩,by omega,?_⟩
      refine yz5 (yz5z ((x:Int) :: w) (As.getD j (0,[])).2) qCS trivial ?_
      by_cases hb:cmpL ((x:Int) :: w) (As.getD j (0,[])).2<0
      ·rw [if_pos hb] at hio
       rw [hio] at has2 hmin2
       have hk6:keyL (As.set j (to,(x:Int) :: w))=keyL As:=by
        unfold keyL
        rw [List.map_set]
        refine Y18 (by simp) fun l h1 h2'=>?_
        rw [List.getElem_set]
        split
        ·rename_i e;subst e
         rw [Yq]
         rw [Y0,Y2 hj] at h2
         show ((to:Nat):Int)=((As[j].1:Nat):Int)
         rw [← h2];rfl
        ·rfl
       have hw6:wrdL (As.set j (to,(x:Int) :: w))=(wrdL As).set j ((x:Int) :: w):=List.map_set
       have hpr:=put_rwp (v:=vs4 6 0) (xs:=(x:Int) :: w) (show j<ps.length by omega)
       simp only [Bz7x,decide_eq_true hb,wx,yz2,yz1,go_sem,yz0,J9,J8,J6,J7,J5,J0,J1,J2,reduceIte,J3,J4,reduceCtorEq]
       intro vs6 U6 hN6
       refine ⟨⟨by omega,by rw [yz7];omega⟩,by rw [yz7];omega,?_⟩
       intro vs7 U7 hN7
       refine ⟨(v10,v11,x+1,As.set j (to,(x:Int) :: w),ps.set j (vs4 6 0,(x:Int) :: w)),by dsimp only;omega,⟨?_,by dsimp only;omega,by dsimp only;rw [List.length_set];omega,hmin2,has2⟩,?_⟩
       ·dsimp only
        rw [List.map_set,hps,hw6]
       ·dsimp only
        rw [hk6,← hpr]
        rfl
      ·rw [if_neg hb] at hio
       rw [hio] at has2 hmin2
       simp only [Bz7x,decide_eq_false hb,wx,yz2,yz1,go_sem,yz0,J9,J8,J6,J7,J5,J0,J1,J2,reduceIte,J3,J4,reduceCtorEq]
       intros
       exact ⟨(v10,v11,x+1,As,ps),by dsimp only;omega,⟨hps,by dsimp only;omega,by dsimp only;omega,hmin2,has2⟩,rfl⟩
  ·obtain rfl:x=next.length:=by omega
   rw [← hcK] at hmin has
   simp only [Bz35,Bz7r,Bzgg,decide_eq_false hxl,wi,yz2,yz1,go_sem,yz0,J9,J8,J6,J7,J5,J0,J1,J2,reduceIte,J3,J4,reduceCtorEq]
   intros
   exact ⟨(v10,v11,i+1,As,ps),by dsimp only;omega,⟨hps,by dsimp only;omega,by dsimp only;omega,hmin,has⟩,rfl⟩
 ·obtain rfl:i=Lv.length:=by omega
  rw [Y11] at hmin has
  have hnx:As=nextL (bkA n next) next.length seen Lv:=has
  have hkl:(keyL Lv).length=Lv.length:=by simp
  simp only [Bz36,Bz7q,Bzgn,Bzgl,hkl,decide_eq_false hlt,yz2,yz1,go_sem,yz0,J9,J8,J6,J7,J5,J0,J1,J2,reduceIte,J3,J4,reduceCtorEq]
  intros
  have hkeyM:∀ p∈As,p.1<2 ^ n.toNat:=fun p hp=>by
   have h1:=(hmin.sub p hp).1
   obtain ⟨q,hq,x,hx,rfl⟩:=candL_mem.1 h1
   exact yz3j
  have hkal:(keyL As).length=As.length:=by simp
  refine yz16 (fun k=>As.length - k) (fun k=>k≤As.length)
   (fun (k:Nat)=>⟨L .any [(3,.own 5000 0),(10,.own 19 v10),(11,.own 20 v11),(18,iv k)],
    L .gone [(19,.row v10 1 true (ints (keyL As))),(20,.row v11 1 true (rwp ps)),(77,.gone),(81,.gone),(5000,.row 0 1 true (bls (tabB (seeL seen (As.take k)) (2 ^ n.toNat)))),(5001,.gone),(5002,.gone),(5003,.gone)]⟩)
   0 (Y1j _) (by
    have e0:seeL seen (As.take 0)=seen:=by funext t;simp [seeL]
    rw [e0]
    simp only [Bz37,yz2,yz1,go_sem,yz0,J9,J8,J6,J7,J5,J0,J1,J2,reduceIte,J3,J4,reduceCtorEq];try rfl) ?_
  intro k hk3
  have hk3:k≤As.length:=hk3
  by_cases hkl2:(k:Int)<As.length
  ·have hk4:k<As.length:=by omega
   have hk5:k<(keyL As).length:=by omega
   have wk:IntKind.i64.wrap ((k:Int)+1)=((k+1:Nat):Int):=by rw [w64 (by omega)];simp
   have hkg:(keyL As).getD k 0=((As[k].1:Nat):Int):=by
    rw [Y0,Yd,Y2 hk4];rfl
   have hkm:=hkeyM _ (Yy hk4)
   have htl:As[k].1<(tabB (seeL seen (As.take k)) (2 ^ n.toNat)).length:=by rw [yz8q];exact hkm
   have hset:=bls_set (b:=true) htl
   have hss:(fun t=>seeL seen (As.take k) t || t == As[k].1)=seeL seen (As.take (k+1)):=by
    funext t
    rw [Y1a hk4]
    unfold seeL
    rw [Yc,List.contains_append,Bool.or_assoc]
    by_cases e:t=As[k].1
    ·rw [e];simp
    ·have e2:=beq_eq_false_iff_ne.2 e
     simp [e,e2]
   rw [yzdg,hss] at hset
   simp only [Bz37,Bz81,Bzgk,Bzgj,hkal,decide_eq_true hkl2,yz3 hk5,hkg,yzas,hset,wk,yz2,yz1,go_sem,yz0,J9,J8,J6,J7,J5,J0,J1,J2,reduceIte,J3,J4,reduceCtorEq]
   intro vsi Ui hNi hM4 vsj Uj hNj
   refine ⟨⟨by omega,hk4⟩,hk4,⟨by omega,htl⟩,htl,?_⟩
   intros
   exact ⟨k+1,by omega,by omega,rfl⟩
  ·obtain rfl:k=As.length:=by omega
   rw [Y11]
   simp only [Bz37,Bz81,Bzgm,Az82,← hQ,hkal,decide_eq_false hkl2,yz2,yz1,go_sem,yz0,J9,J8,J6,J7,J5,J0,J1,J2,reduceIte,J3,J4,reduceCtorEq]
   intros
   refine ⟨[19,20],by simp,by simp,by simp,?_⟩
   rw [← hnx]
   simp only [range1,List.range_zero,List.nil_append,Y7,yzj,rsA,AVal.fresh,freshL,AObj.fresh,id,Y1v,go_sem,yz0,J9,J8,J6,J7,J5,J0,J1,J2,reduceIte,J3,J4,reduceCtorEq]
   refine ⟨yz9v,fun j hj=>?_,by rw [yzag],v10,v11,ps.map fun p=>(p.1,p.2),rfl,by rw [Yj];exact hps,rfl⟩
   obtain rfl:j=0:=by omega
   simp only [Y1p,go_sem,yz0,J9,J8,J6,J7,J5,J0,J1,J2,reduceIte,J3,J4,reduceCtorEq]
   exact yz5h
end Go.Ab
namespace Go.Ab
open Go.Proofs
theorem k_l02Set (f:Nat) (h:f<1024):RowI Tryz.prog nz59 [iv f] (fun ys=>ys=bitsTo f 10):=by
 refine yz1k mixed czry rfl ?_
 simp only [Azg4,Bzg3,go_sem,yz0,J9,J8,J6,J7,J5,J0,J1,J2,reduceIte,J3,J4,reduceCtorEq]
 intro vs
 simp only [Bzg2,Bzg0,go_sem,yz0,J9,J8,J6,J7,J5,J0,J1,J2,reduceIte,J3,J4,reduceCtorEq]
 refine yzo (fun (_,s)=>10 - s) (fun (_,s)=>s≤10) (fun ((v,s):Nat×Nat)=>⟨L .any [(0,iv f),(3,.own 5 v),(4,iv s)],L .gone [(5,.row v 1 true (ints (bitsTo f s)))]⟩)
  (_,0) (by simp) (by simp only [Bzw,go_sem,yz0,J9,J8,J6,J7,J5,J0,J1,J2,reduceIte,J3,J4,reduceCtorEq];try rfl) ?_
 rintro ⟨v,s⟩ hs
 have hs:s≤10:=hs
 have hs0:¬ ((s:Nat):Int)<0:=by omega
 have h64:IntKind.u64.wrap (s:Int)=s:=u64w (by omega)
 have hsh:=u_shr (f:=f) (s:=s) (by omega)
 have hlt:f >>> s<4611686018427387904:=by rw [Y1s];exact Nat.lt_of_le_of_lt (Nat.div_le_self _ _) (by omega)
 by_cases hz:(0:Int)<((f >>> s:Nat):Int)
 ·have hs10:s<10:=by
   by_cases e:s<10
   ·exact e
   ·have:f >>> s=0:=shr_zero.2 (Y1i (show f<2 ^ 10 from h) (Y1k (by omega) (by omega)))
    omega
  have hand:=i_and1 hlt
  have hbit:((((f >>> s &&& 1:Nat):Int)) == 1)=f.testBit s:=by
   rw [Nat.testBit_eq_decide_div_mod_eq,Nat.and_one_is_mod,Y1s,Bool.eq_iff_iff,beq_iff_eq,decide_eq_true_iff]
   generalize f / 2 ^ s % 2=q
   omega
  have w1:IntKind.i64.wrap ((s:Int)+1)=((s+1:Nat):Int):=by rw [w64 (by omega)];simp
  have hbl:=yz31 (f:=f) (s:=s)
  cases hb:f.testBit s with
  | true =>
   rw [hb] at hbit
   have hr:bitsTo f s ++ [(s:Int)]=bitsTo f (s+1):=by rw [yz1r,if_pos hb]
   simp only [Bzw,Bz32,Bz7n,Bz7l,Bz7m,h64,hs0,hsh,hand,hbit,w1,decide_eq_true hz,hr,go_sem,yz0,J9,J8,J6,J7,J5,J0,J1,J2,reduceIte,J3,J4,reduceCtorEq]
   exact fun vs2=>⟨⟨_,rfl,rfl⟩,by omega,(vs2 3 0,s+1),by dsimp only;omega,by dsimp only;omega,rfl⟩
  | false =>
   rw [hb] at hbit
   have hr:bitsTo f s=bitsTo f (s+1):=by rw [yz1r,if_neg (by simp [hb])]
   simp only [Bzw,Bz32,Bz7n,Bz7l,Bz7m,h64,hs0,hsh,hand,hbit,w1,decide_eq_true hz,go_sem,yz0,J9,J8,J6,J7,J5,J0,J1,J2,reduceIte,J3,J4,reduceCtorEq]
   exact ⟨(v,s+1),by dsimp only;omega,by dsimp only;omega,by rw [hr]⟩
 ·have hfz:f >>> s=0:=by generalize f >>> s=q at hz;omega
  have hr:bitsTo f s=bitsTo f 10:=by
   have h2:=yz5b (shr_zero.1 hfz) (10 - s)
   rw [show s+(10 - s)=10 by omega] at h2
   exact h2.symm
  simp only [Bzw,Bz32,Bzg1,h64,hs0,hsh,decide_eq_false hz,hr,go_sem,yz0,J9,J8,J6,J7,J5,J0,J1,J2,reduceIte,J3,J4,reduceCtorEq]
  exact ⟨5,v,_,by omega,rfl,by simp only [go_sem,yz0,J9,J8,J6,J7,J5,J0,J1,J2,reduceIte,J3,J4,reduceCtorEq],rfl⟩
end Go.Ab
namespace Go.Ab
open Go Go.Proofs
theorem tw_L {l:List (Nat×AVal)} {h:List (Nat×AObj)} {t q n m k':Nat} {cs':List AVal} :
  St.tw ⟨L .any l,L .gone h⟩ t q n m k' cs'=⟨L .any ((t,.own q m) :: woT n l),L .gone ((q,.row m k' true (woL n cs')) :: woO n h)⟩:=by
 unfold St.tw
 congr 1
 ·funext x
  simp only [L]
  split
  ·rfl
  ·exact (woT_eq l x).symm
 ·funext x
  simp only [L]
  split
  ·rfl
  ·exact (woO_eq h x).symm
theorem gwp_tw {gs:List GStep} {K:St→Prop} {l:List (Nat×AVal)} {h:List (Nat×AObj)} {t q n k':Nat} {cs':List AVal} (hr:L .any l t=.ro (some (some (n+1))) k' cs')
  (hne:cs'≠[]) (hq:L .gone h q=.gone)
  (hk:∀ m,gwp gs K ⟨L .any ((t,.own q m) :: woT n l),L .gone ((q,.row m k' true (woL n cs')) :: woO n h)⟩):gwp (.tw t q :: gs) K ⟨L .any l,L .gone h⟩ :=
 ⟨n,k',cs',hr,hne,hq,fun m=>by rw [tw_L];exact hk m⟩
def freeN (seen:Nat→Bool) (M:Nat):Nat:=((Ya M).filter fun k=>!seen k).length
theorem yz5v {p q:Nat→Bool}:∀ {l:List Nat},(∀ x∈l,q x=true→p x=true)→(∃ x∈l,p x=true∧q x=false)→(l.filter q).length<(l.filter p).length
 | [],_,⟨x,hx,_⟩=>by cases hx
 | a :: l,h,⟨x,hx,h1,h2⟩=>by
  have hle:∀ {l:List Nat},(∀ x∈l,q x=true→p x=true)→(l.filter q).length≤(l.filter p).length:=by
   intro l
   induction l with
   | nil=>intro _;exact Y1h _
   | cons b l ih =>
    intro h
    have h3:=ih fun x hx=>h x (Yt _ hx)
    have h4:=h b (List.mem_cons_self ..)
    cases hq:q b with
    | true=>rw [Y1f hq,Y1f (h4 hq),Ye,Ye];omega
    | false =>
     rw [List.filter_cons_of_neg (by simp [hq])]
     cases hp:p b with
     | true=>rw [Y1f hp,Ye];omega
     | false=>rw [List.filter_cons_of_neg (by simp [hp])];exact h3
  have h3:=hle fun x hx=>h x (Yt _ hx)
  rcases Y8.1 hx with rfl | hx
  ·rw [List.filter_cons_of_neg (by simp [h2]),Y1f h1,Ye];omega
  ·have h4:=yz5v (l:=l) (fun x hx=>h x (Yt _ hx)) ⟨x,hx,h1,h2⟩
   cases hq:q a with
   | true=>rw [Y1f hq,Y1f (h a (List.mem_cons_self ..) hq),Ye,Ye];omega
   | false =>
    rw [List.filter_cons_of_neg (by simp [hq])]
    cases hp:p a with
    | true=>rw [Y1f hp,Ye];omega
    | false=>rw [List.filter_cons_of_neg (by simp [hp])];exact h4
theorem yz6a {bk:Nat→Nat→Nat} {K M:Nat} {seen:Nat→Bool} {L:List (Nat×List Int)} (hb:∀ x f,bk x f<M) (hne:nextL bk K seen L≠[]):freeN (seeL seen (nextL bk K seen L)) M<freeN seen M:=by
 have hm:=yz26 (bk:=bk) (K:=K) (seen:=seen) (L:=L)
 generalize nextL bk K seen L=A at hm hne
 cases A with
 | nil=>exact absurd rfl hne
 | cons p A =>
  obtain ⟨h1,h2,_⟩:=hm.sub p (List.mem_cons_self ..)
  obtain ⟨q,_,x,_,rfl⟩:=candL_mem.1 h1
  refine yz5v (fun y _ hy=>?_) ⟨bk x q.1,Ym.2 (hb _ _),by rw [h2];rfl,by simp [seeL]⟩
  unfold seeL at hy
  cases h:seen y with
  | false=>rfl
  | true=>rw [h] at hy;simp at hy
theorem bitsN_SIX {f:Nat}:SI (bitsTo f 10):=by
 rw [yzal]
 unfold SI
 rw [List.pairwise_map]
 unfold bitsN
 exact (List.Pairwise.filter _ List.pairwise_lt_range).imp fun h=>by omega
theorem yz9i:∀ (set:List Int) (o t:Nat),(set.foldl (fun o s=>o ||| 2 ^ s.toNat) o).testBit t=(o.testBit t || set.any fun s=>s.toNat == t)
 | [],o,t=>by simp
 | s :: set,o,t=>by
  rw [Ys,yz9i set,Nat.testBit_or,Nat.testBit_two_pow,List.any_cons,Bool.or_assoc]
  congr 1
theorem yz2w {n:Int} {set:List Int} (hn:n≤10) (hs:setB n set=true):maskN set<2 ^ n.toNat∧bitsTo (maskN set) 10=set:=by
 have h:=setB_iff.1 hs
 have hlt:maskN set<2 ^ n.toNat:=by
  apply Nat.lt_pow_two_of_testBit
  intro i hi
  rw [Bool.eq_false_iff]
  intro hc
  unfold maskN at hc
  rw [yz9i,Nat.zero_testBit,Bool.false_or,List.any_eq_true] at hc
  obtain ⟨s,h1,h2⟩:=hc
  have h3:=h.2 s h1
  have:s.toNat=i:=by simpa using h2
  omega
 refine ⟨hlt,yz8i bitsN_SIX h.1 fun x=>?_⟩
 rw [mem_bitsTo]
 unfold maskN
 rw [yz9i,Nat.zero_testBit,Bool.false_or,List.any_eq_true]
 constructor
 ·rintro ⟨h1,h2,s,h3,h4⟩
  have h5:=h.2 s h3
  have:s.toNat=x.toNat:=by simpa using h4
  rw [show x=s by omega];exact h3
 ·intro hx
  have h5:=h.2 x hx
  exact ⟨by omega,by omega,x,hx,by simp⟩
def hvB (n:Int) (next:List (List Int)) (set:List Int) (f:Nat):Bool:=decide (hvy (wghL n next) (bitsTo f 10) > hvy (wghL n next) set)
def extV (n:Int) (next:List (List Int)) (set:List Int):Option (List Int):=extR (bkA n next) next.length (hvB n next set) 1026 (fun k=>k == maskN set) [(maskN set,[])]
def codeX (n:Int) (next:List (List Int)) (set:List Int):Int:=if codeW n next set=0 then (if (extV n next set).isSome then 0 else 6) else codeW n next set
def wordX (n:Int) (next:List (List Int)) (set:List Int):List Int:=if codeW n next set=0 then (extV n next set).getD [] else []
theorem wpD_lm2 {P:Program} {Q:AEx→St→Prop} {σ:St} {a:AC} {α:Type} {ts hs:List Nat} {p q p' q':Nat} (m:α→Nat) (inv:α→Prop) (S:α→St) (x0:α) (h0:inv x0) (hS:∀ u u',((σ.mv p q u).mv p' q' u').keep ts hs=S x0)
  (h:∀ x,inv x→wpD P a (loopQ (fun σ'=>∃ k,k<m x∧∀ u u',∃ y,m y=k∧inv y∧((σ'.mv p q u).mv p' q' u').keep ts hs=S y) Q) (S x)):wpD P (.loop (.mv p q (.mv p' q' (.kp ts hs a)))) Q σ:=by
 refine ⟨fun n σ=>∀ u u',∃ x,m x=n∧inv x∧((σ.mv p q u).mv p' q' u').keep ts hs=S x,⟨m x0,fun u u'=>⟨x0,rfl,h0,hS u u'⟩⟩,?_⟩
 intro n σ' hI u u'
 obtain ⟨x,rfl,hx,hS⟩:=hI u u'
 show wpD P a _ (((σ'.mv p q u).mv p' q' u').keep ts hs)
 rw [hS]
 refine yzl _ _ _ _ (fun e σ'' he=>?_) (h x hx)
 cases e with
 | normal =>
  obtain ⟨k,h1,h2⟩:=he
  exact ⟨k,h1,h2⟩
 | exit i=>exact he
 | ret=>exact he
theorem yz9z {a v b m:Nat} {ps:List (Nat×List Int)}:mvL a v b m (rwp ps)=rwp ps:=by
 simp only [yz2j,rwp,Yj]
 exact Yg fun xs _=>by simp [AVal.mv,ints,yz2j]
theorem mvL_bls {a v b m:Nat} {xs:List Bool}:mvL a v b m (bls xs)=bls xs:=by
 simp only [yz2j,bls,Yj]
 exact Yg fun xs _=>by simp [AVal.mv]
structure ExI (n:Int) (next:List (List Int)) (set:List Int) (f:Nat) (seen:Nat→Bool) (Lv:List (Nat×List Int)) (ps:List (Nat×List Int)):Prop where
 ps:ps.map (·.2)=wrdL Lv
 val:extR (bkA n next) next.length (hvB n next set) f seen Lv=extV n next set
 free:Lv≠[]→freeN seen (2 ^ n.toNat)<f
 key:∀ p∈Lv,p.1<2 ^ n.toNat
 nd:(Lv.map (·.1)).Nodup
 hv:∀ p∈Lv,hvB n next set p.1=true→p.2≠[]
 len:∀ p∈Lv,p.2.length+freeN seen (2 ^ n.toNat)≤1024
theorem yz8r {seen:Nat→Bool} {M:Nat}:freeN seen M≤M:=by
 unfold freeN
 have:=List.length_filter_le (fun k=>!seen k) (Ya M)
 rwa [List.length_range] at this
theorem ExI.begin {n:Int} {next:List (List Int)} {set:List Int} (v:Nat) (n2:n≤10) (hw:setB n set=true):ExI n next set 1026 (fun k=>k == maskN set) [(maskN set,[])] [(v,[])]:=by
 have hN:2 ^ n.toNat≤1024:=Y1k (n:=2) (by omega) (show n.toNat≤10 by omega)
 have hf:=yz8r (seen:=fun k=>k == maskN set) (M:=2 ^ n.toNat)
 have hb:=yz2w n2 hw
 refine ⟨rfl,rfl,fun _=>by omega,fun p hp=>?_,by simp,fun p hp h=>?_,fun p hp=>?_⟩
 ·obtain rfl:=Y9.1 hp;exact hb.1
 ·obtain rfl:=Y9.1 hp
  unfold hvB at h
  rw [hb.2] at h
  exact absurd (of_decide_eq_true h) (Int.lt_irrefl _)
 ·obtain rfl:=Y9.1 hp
  show 0+_≤1024
  omega
theorem yzfm {l:List Nat} (h:l.Nodup):∀ (m:List Nat),(∀ x∈l,x∈m)→l.length≤m.length:=by
 induction l with
 | nil=>intros;simp
 | cons a l ih =>
  intro m hm
  have hn:=Y16.1 h
  have ha:=hm a (by simp)
  have h2:=ih hn.2 (m.erase a) fun x hx=>(List.mem_erase_of_ne (fun e=>hn.1 (by rw [← e];exact hx))).2 (hm x (by simp [hx]))
  rw [List.length_erase_of_mem ha] at h2
  have:=List.length_pos_of_mem ha
  rw [Ye];omega
theorem ExI.lvlen {n:Int} {next:List (List Int)} {set:List Int} {f:Nat} {seen:Nat→Bool} {Lv ps:List (Nat×List Int)} (h:ExI n next set f seen Lv ps) (n2:n≤10):Lv.length≤1024:=by
 have hN:2 ^ n.toNat≤1024:=Y1k (n:=2) (by omega) (show n.toNat≤10 by omega)
 have h2:=yzfm h.nd (Ya (2 ^ n.toNat)) fun x hx=>by
  obtain ⟨p,hp,rfl⟩:=Y3.1 hx
  exact Ym.2 (h.key p hp)
 rw [Y6,List.length_range] at h2
 omega
theorem ExI.next {n:Int} {next:List (List Int)} {set:List Int} {f:Nat} {seen:Nat→Bool} {Lv ps:List (Nat×List Int)} (h:ExI n next set f seen Lv ps) (hne:Lv≠[]) (hb:bestL (hvB n next set) Lv=none)
  {ps':List (Nat×List Int)} (hps:ps'.map (·.2)=wrdL (nextL (bkA n next) next.length seen Lv)) :
  ExI n next set (f - 1) (seeL seen (nextL (bkA n next) next.length seen Lv)) (nextL (bkA n next) next.length seen Lv) ps'∧f - 1<f:=by
 have hf:=h.free hne
 have hM:=yz26 (bk:=bkA n next) (K:=next.length) (seen:=seen) (L:=Lv)
 have hfr:nextL (bkA n next) next.length seen Lv≠[]→freeN (seeL seen (nextL (bkA n next) next.length seen Lv)) (2 ^ n.toNat)<freeN seen (2 ^ n.toNat):=fun hn=>yz6a (fun x f=>yz3j) hn
 have hv:=h.val
 obtain ⟨f',rfl⟩:∃ f',f=f'+1:=⟨f - 1,by omega⟩
 refine ⟨⟨hps,?_,fun hn=>by have:=hfr hn;omega,fun p hp=>?_,hM.nd,fun p hp _=>?_,fun p hp=>?_⟩,by omega⟩
 ·rw [Nat.add_sub_cancel,← hv]
  cases Lv with
  | nil=>exact absurd rfl hne
  | cons p Lv =>
   simp only [extR,hb]
 ·obtain ⟨h1,_,_⟩:=hM.sub p hp
  obtain ⟨q,hq,x,hx,rfl⟩:=candL_mem.1 h1
  exact yz3j
 ·obtain ⟨h1,_,_⟩:=hM.sub p hp
  obtain ⟨q,hq,x,hx,rfl⟩:=candL_mem.1 h1
  simp
 ·have hn:nextL (bkA n next) next.length seen Lv≠[]:=fun e=>by rw [e] at hp;cases hp
  have h3:=hfr hn
  obtain ⟨h1,_,_⟩:=hM.sub p hp
  obtain ⟨q,hq,x,hx,rfl⟩:=candL_mem.1 h1
  have:=h.len q hq
  show q.2.length+1+_≤1024
  omega
theorem yzec {hv:Nat→Bool} {L:List (Nat×List Int)} {p:Nat×List Int}:bestL hv (L ++ [p])=if hv p.1=true then stepW (bestL hv L) p.2 else bestL hv L:=by
 unfold bestL
 rw [List.filter_append,Yc]
 cases h:hv p.1 with
 | true=>rw [show [p].filter (fun p=>hv p.1)=[p] by simp [h],if_pos rfl];exact yzc8
 | false=>rw [show [p].filter (fun p=>hv p.1)=[] by simp [h],if_neg (by simp)];simp
theorem yzb8 {hp:Nat→AObj} {m:List Nat} {len:Bool}:∀ {xs:List Bool},CoeL hp m len (bls xs) (bls xs)
 | []=>by simp [bls,CoeL]
 | x :: xs=>by
  have h:=yzb8 (hp:=hp) (m:=m) (len:=len) (xs:=xs)
  simp only [bls,Y1,CoeL] at h ⊢
  exact ⟨_,_,rfl,by simp [Coe],h⟩
theorem call_deep {σ:St} {d:Nat} {s:Nat→Nat} {K:St→Prop} {r v:Nat} {X Y Z:AVal} {n:Int} {next:List (List Int)} {Lv:List (Nat×List Int)} {seen:Nat→Bool}
  (A:Aut n next) (hk:∀ p∈Lv,p.1<1024) (hl:Lv.length≤1024) (hw:∀ p∈Lv,p.2.length≤4000)
  (hr:σ.hp r=.row v 1 true (bls (tabB seen (2 ^ n.toNat)))) (hco:CoeL σ.hp [r] true [autP n next,.ro none 1 (ints (keyL Lv)),.ro none 1 (rwn (wrdL Lv))] [X,Y,Z]) (hd:σ.hp d=.gone) (hd2:σ.hp (d+1000)=.gone)
  (hK:∀ v' w' ps',ps'.map (·.2)=wrdL (nextL (bkA n next) next.length seen Lv)→K (St.put ⟨σ.tm,upd (upd (upd σ.hp r (.row v 1 true (bls (tabB (seeL seen (nextL (bkA n next) next.length seen Lv)) (2 ^ n.toNat))))) d (.row v' 1 true (ints (keyL (nextL (bkA n next) next.length seen Lv))))) (d+1000) (.row w' 1 true (rwp ps'))⟩
   (some d) (.tup [.own d v',.own (d+1000) w']))):wpCall Tryz.prog false σ nz1p [X,Y,Z,.own r v] (some d) s K:=by
 have hne:d≠r:=fun e=>by rw [e,hr] at hd;cases hd
 have hne2:d+1000≠r:=fun e=>by rw [e,hr] at hd2;cases hd2
 rw [yzb,yzb,yzb] at hco
 obtain ⟨c1,c2,c3,_⟩:=hco
 refine .inl ⟨[r],_,_,false,_,yzbt n next A Lv seen hk hl hw,⟨by simp,rfl,by simp,by simp [hr],?_⟩,?_,(fun e=>by cases e),?_⟩
 ·intro j B r' hB hr'
  cases j with
  | succ j=>simp at hB
  | zero =>
   simp at hB hr';subst hB;subst hr'
   simp only [ObjCoe,hr]
   exact ⟨trivial,v,_,rfl,yzb8⟩
 ·rw [yzb,yzb,yzb,yzb,yz96,hr,yz1l];exact ⟨c1,c2,c3,rfl,trivial⟩
 ·rintro outs rows res ⟨rfl,v',w',ps',rfl,hps,rfl⟩
  refine ⟨rfl,by simp,by rw [Y1x,yz6s];exact ⟨hd,hd2⟩,?_⟩
  rw [Y1x,yz7v hne hne2]
  have h0:sv σ.hp [r] s 0=v:=by simp [sv,hr,AObj.ver]
  have e2:([AObj.row v' 1 true (ints (keyL (nextL (bkA n next) next.length seen Lv))),AObj.row w' 1 true (rwp ps')]:List AObj).length=2:=rfl
  simp only [yz1p,yzj,yzag,yzf1,yz30,yz4i,yz1q,yz2k,e2,yz1f,yz53,h0]
  exact hK _ _ _ (by rw [Yj];exact hps)
def besA (v:Nat):Option (Nat×List Int)→AVal
 | none=>.own 41 v
 | some (u,w)=>.ro (some (some (u+1))) 1 (ints w)
theorem yz4s (n:Int) (next:List (List Int)) (set:List Int):RowC2 Tryz.prog nz52 [autA n next,.ro none 1 (ints set)] (wordX n next set) (codeX n next set):=by
 refine yz90 mixed czrj rfl (by simp) ?_
 generalize hQ:finQ _=Q
 simp only [Az8,Bzdf,yz2,yz1,go_sem,yz0,J9,J8,J6,J7,J5,J0,J1,J2,reduceIte,J3,J4,reduceCtorEq]
 intro vs0 U0 hN0 vs1 U1 hN1
 refine yz5 (yzf4 n next) qCS trivial ?_
 cases hv:autB n next with
 | false =>
  have h4:codeW n next set=1:=by simp [codeW,hv]
  have h5:codeX n next set=1:=by unfold codeX;rw [h4];rfl
  have h6:wordX n next set=[]:=by unfold wordX;rw [h4];rfl
  simp only [Bz6l,h5,h6,yz2,yz1,go_sem,yz0,J9,J8,J6,J7,J5,J0,J1,J2,reduceIte,J3,J4,reduceCtorEq]
  intro vs2 U2 hN2
  simp only [← hQ,Az8,go_sem,yz0,J9,J8,J6,J7,J5,J0,J1,J2,reduceIte,J3,J4,reduceCtorEq]
  refine ⟨[14],by simp,by simp,by simp,?_⟩
  simp only [range1,Y7,h5,h6,rsA,AVal.fresh,freshL,AObj.fresh,id,Y1v,go_sem,yz0,J9,J8,J6,J7,J5,J0,J1,J2,reduceIte,J3,J4,reduceCtorEq]
  exact ⟨_,rfl,rfl⟩
 | true =>
  have A:=autB_iff.1 hv
  simp only [Bz6l,Bzde,yz2,yz1,go_sem,yz0,J9,J8,J6,J7,J5,J0,J1,J2,reduceIte,J3,J4,reduceCtorEq]
  intro vs2 U2 hN2
  refine yz5 (k_l01Set n next set ⟨A.n1,A.n2⟩) qCS trivial ?_
  cases hw:setB n set with
  | false =>
   have h4:codeW n next set=2:=by simp [codeW,hv,hw]
   have h5:codeX n next set=2:=by unfold codeX;rw [h4];rfl
   have h6:wordX n next set=[]:=by unfold wordX;rw [h4];rfl
   simp only [Bz6m,yz2,yz1,go_sem,yz0,J9,J8,J6,J7,J5,J0,J1,J2,reduceIte,J3,J4,reduceCtorEq]
   intro vs3 U3 hN3
   simp only [← hQ,Az8,go_sem,yz0,J9,J8,J6,J7,J5,J0,J1,J2,reduceIte,J3,J4,reduceCtorEq]
   refine ⟨[18],by simp,by simp,by simp,?_⟩
   simp only [range1,Y7,h5,h6,rsA,AVal.fresh,freshL,AObj.fresh,id,Y1v,go_sem,yz0,J9,J8,J6,J7,J5,J0,J1,J2,reduceIte,J3,J4,reduceCtorEq]
   exact ⟨_,rfl,rfl⟩
  | true =>
   simp only [Bz6m,Bzdd,yz2,yz1,go_sem,yz0,J9,J8,J6,J7,J5,J0,J1,J2,reduceIte,J3,J4,reduceCtorEq]
   intro vs3 U3 hN3
   refine yz5 (yzbk n next A) qCS trivial ?_
   cases hb:conB n next with
   | false =>
    have h4:codeW n next set=4:=by simp [codeW,hv,hw,hb]
    have h5:codeX n next set=4:=by unfold codeX;rw [h4];rfl
    have h6:wordX n next set=[]:=by unfold wordX;rw [h4];rfl
    simp only [Bz6n,yz2,yz1,go_sem,yz0,J9,J8,J6,J7,J5,J0,J1,J2,reduceIte,J3,J4,reduceCtorEq]
    intro vs4 U4 hN4
    simp only [← hQ,Az8,go_sem,yz0,J9,J8,J6,J7,J5,J0,J1,J2,reduceIte,J3,J4,reduceCtorEq]
    refine ⟨[21],by simp,by simp,by simp,?_⟩
    simp only [range1,Y7,h5,h6,rsA,AVal.fresh,freshL,AObj.fresh,id,Y1v,go_sem,yz0,J9,J8,J6,J7,J5,J0,J1,J2,reduceIte,J3,J4,reduceCtorEq]
    exact ⟨_,rfl,rfl⟩
   | true =>
    have h4:codeW n next set=0:=codeW_ok.2 ⟨hv,hw,hb⟩
    simp only [Bz6n,Bzdc,yz2,yz1,go_sem,yz0,J9,J8,J6,J7,J5,J0,J1,J2,reduceIte,J3,J4,reduceCtorEq]
    intro vs4 U4 hN4
    refine yzm (yz9f n next A hb) qCS rfl ⟨_,rfl⟩ ?_
    rintro ys v rfl
    simp only [Bzdb,yz2,yz1,go_sem,yz0,J9,J8,J6,J7,J5,J0,J1,J2,reduceIte,J3,J4,reduceCtorEq]
    intro vs5 U5 hN5
    have n1:=A.n1
    have n2:=A.n2
    have Z:=setB_iff.1 hw
    have hm10:∀ s∈set,0≤s∧s<10:=fun s hs=>by have:=Z.2 s hs;omega
    refine yz5 (k_l02Bits set hm10) qCS trivial ?_
    have h64:IntKind.u64.wrap n=n:=by rw [show n=((n.toNat:Nat):Int) by omega];exact u64w (by omega)
    have hn0:¬ n<0:=by omega
    have hsl:=i_shl (b:=n.toNat) (by omega)
    have hN:2 ^ n.toNat≤1024:=Y1k (n:=2) (by omega) (show n.toNat≤10 by omega)
    simp only [go_sem,yz0,J9,J8,J6,J7,J5,J0,J1,J2,reduceIte,J3,J4,reduceCtorEq]
    refine ⟨⟨_,rfl,rfl⟩,?_⟩
    simp only [Bzda,yz2,yz1,go_sem,yz0,J9,J8,J6,J7,J5,J0,J1,J2,reduceIte,J3,J4,reduceCtorEq]
    intro vs6 U6 hN6
    simp only [Bzd9,h64,hn0,hsl,yz2,yz1,go_sem,yz0,J9,J8,J6,J7,J5,J0,J1,J2,reduceIte,J3,J4,reduceCtorEq]
    intro vs7 U7 hN7
    have hp2:=Y1r n.toNat
    refine ⟨⟨by omega,by omega,by omega,by omega⟩,?_⟩
    have hrep:(Yl (2 ^ n.toNat) [AVal.val (Value.bool false)]).flatten=bls (tabB (fun _=>false) (2 ^ n.toNat)):=by
     rw [List.flatten_replicate_singleton]
     refine Y18 (by simp [bls,tabB]) fun k h1 h2=>?_
     simp [bls,tabB]
    have hml:maskN set<2 ^ n.toNat:=yz8n set 0 (fun s hs=>by have:=Z.2 s hs;omega) hp2
    have hbl:maskN set<(tabB (fun _=>false) (2 ^ n.toNat)).length:=by rw [yz8q];exact hml
    have hst:=bls_set (b:=true) hbl
    have hkeys:[AVal.val (.int .i64 ((maskN set:Nat):Int))]=ints (keyL [(maskN set,[])]):=rfl
    rw [yzdg] at hst
    rw [hrep,hkeys]
    simp only [Bzd8,yzas,hst,yz2,yz1,go_sem,yz0,J9,J8,J6,J7,J5,J0,J1,J2,reduceIte,J3,J4,reduceCtorEq]
    intro vs8 U8 hN8
    refine ⟨⟨by omega,hbl⟩,hbl,?_⟩
    simp only [Bzd7,Bool.false_or,yz2,yz1,go_sem,yz0,J9,J8,J6,J7,J5,J0,J1,J2,reduceIte,J3,J4,reduceCtorEq]
    have hw1:=yzep A hb
    have hz:=set_le n2 hw
    refine wpD_lm2 (fun (_,_,f,_,_,_)=>f) (fun (_,_,f,seen,Lv,ps)=>ExI n next set f seen Lv ps)
     (fun ((v7,v8,f,seen,Lv,ps):Nat×Nat×Nat×(Nat→Bool)×List (Nat×List Int)×List (Nat×List Int))=>⟨L .any [(1,.ro none 1 (ints set)),(2,.ptr 2 (vs0 0 0) 0),(6,.own 22 v),(7,.own 25 v7),(8,.own 27 v8),(9,.own 32 (vs7 4 0))],
      L .gone [(2,.box (vs0 0 0) [iv n,.ro none 1 (rwn next)]),(22,.row v 1 true (ints (wghL n next))),(25,.row v7 1 true (ints (keyL Lv))),(27,.row v8 1 true (rwp ps)),(32,.row (vs7 4 0) 1 true (bls (tabB seen (2 ^ n.toNat)))),(84,.gone),(1084,.gone),(5000,.gone),(5001,.gone),(901,.gone)]⟩)
     (_,_,1026,_,[(maskN set,[])],[(vs6 0 0,[])]) (ExI.begin (vs6 0 0) n2 hw) (fun u u'=>by simp only [Bzd5,Y1,Yb,rwp,yz9z,mvL_bls,yz2,yz1,go_sem,yz0,J9,J8,J6,J7,J5,J0,J1,J2,reduceIte,J3,J4,reduceCtorEq];rfl) ?_
    rintro ⟨v7,v8,f,seen,Lv,ps⟩ hI
    have hI:ExI n next set f seen Lv ps:=hI
    have hLl:=hI.lvlen n2
    generalize hR:loopQ _ _=R
    by_cases hne:Lv=[]
    ·subst hne
     have hcx:codeX n next set=6:=by unfold codeX;rw [if_pos h4,← hI.val];cases f <;> rfl
     have hwx:wordX n next set=[]:=by unfold wordX;rw [if_pos h4,← hI.val];cases f <;> rfl
     have hd0:decide ((0:Int)<((0:Nat):Int))=false:=by decide
     simp only [← hR,hd0,Bz6o,Yb,Y17,yz2,yz1,go_sem,yz0,J9,J8,J6,J7,J5,J0,J1,J2,reduceIte,J3,J4,reduceCtorEq]
     intro vs9 U9 hN9 hM9
     simp only [← hQ,hcx,hwx,Az8,Bzd6,yz2,yz1,go_sem,yz0,J9,J8,J6,J7,J5,J0,J1,J2,reduceIte,J3,J4,reduceCtorEq]
     intro vs10 U10 hN10
     refine ⟨[87],by simp,by simp,by simp,?_⟩
     simp only [range1,Y7,rsA,AVal.fresh,freshL,AObj.fresh,id,Y1v,go_sem,yz0,J9,J8,J6,J7,J5,J0,J1,J2,reduceIte,J3,J4,reduceCtorEq]
     exact ⟨_,rfl,rfl⟩
    ·have hl0:0<Lv.length:=List.length_pos_iff.2 hne
     have hkl:(keyL Lv).length=Lv.length:=by simp
     have hgt:decide ((0:Int)<(Lv.length:Int))=true:=decide_eq_true (by omega)
     simp only [hkl,hgt,Bz6o,Bzd4,yz2,yz1,go_sem,yz0,J9,J8,J6,J7,J5,J0,J1,J2,reduceIte,J3,J4,reduceCtorEq]
     intro vs9 U9 hN9 hM9 vs10 U10 hN10
     simp only [Bzd3,Bzd2,yz2,yz1,go_sem,yz0,J9,J8,J6,J7,J5,J0,J1,J2,reduceIte,J3,J4,reduceCtorEq]
     intro vs11 U11 hN11
     generalize vs10 0 0=v41
     refine yz16 (fun (i,_)=>Lv.length - i) (fun (i,b)=>i≤Lv.length∧b.map (·.2)=bestL (hvB n next set) (Lv.take i)∧∀ u w,b=some (u,w)→w≠[])
      (fun ((i,b):Nat×Option (Nat×List Int))=>⟨L .any [(1,.ro none 1 (ints set)),(2,.ptr 2 (vs0 0 0) 0),(6,.own 22 v),(7,.own 25 v7),(8,.own 27 v8),(9,.own 32 (vs7 4 0)),(10,besA v41 b),(11,iv i)],
      L .gone [(2,.box (vs0 0 0) [iv n,.ro none 1 (rwn next)]),(22,.row v 1 true (ints (wghL n next))),(25,.row v7 1 true (ints (keyL Lv))),(27,.row v8 1 true (rwp ps)),(32,.row (vs7 4 0) 1 true (bls (tabB seen (2 ^ n.toNat)))),(41,.row v41 1 true []),(84,.gone),(1084,.gone),(5000,.gone),(5001,.gone),(901,.gone)]⟩)
      (0,none) ⟨Y1j _,rfl,fun u w h=>by cases h⟩ (by simp only [Bzu,besA,yz2,yz1,go_sem,yz0,J9,J8,J6,J7,J5,J0,J1,J2,reduceIte,J3,J4,reduceCtorEq];try rfl) ?_
     rintro ⟨i,b⟩ ⟨hi,hbs,hbn⟩
     have hi:i≤Lv.length:=hi
     have hbs:b.map (·.2)=bestL (hvB n next set) (Lv.take i):=hbs
     have hbn:∀ u w,b=some (u,w)→w≠[]:=hbn
     have hpl:ps.length=Lv.length:=by have:=congrArg Yf hI.ps;simpa using this
     generalize hR2:loopQ _ _=R2
     by_cases hlt:(i:Int)<Lv.length
     ·have hlt1:i<Lv.length:=by omega
      obtain ⟨g,w,hg⟩:∃ g w,Lv[i]=(g,w):=⟨_,_,rfl⟩
      have hgw:(g,w)∈Lv:=hg ▸ Yy hlt1
      have hgk:g<2 ^ n.toNat:=hI.key _ hgw
      have hg1:g<1024:=by omega
      have htk:Lv.take (i+1)=Lv.take i ++ [(g,w)]:=by rw [Y1a hlt1,hg]
      have hk1:i<(keyL Lv).length:=by rw [hkl];exact hlt1
      have hk2:(keyL Lv).getD i 0=(g:Int):=by
       rw [Y0,Yd,Y2 hlt1,hg];rfl
      have hp1:i<ps.length:=by omega
      have hp2:(ps.getD i (0,[])).2=w:=by
       have this:(ps.map (·.2)).getD i []=(wrdL Lv).getD i []:=by rw [hI.ps]
       rw [Y0,Y0,Yd,Yd,Y2 hlt1,Y2 hp1,hg] at this
       rw [Y0,Y2 hp1];exact this
      have hpg:=yz24 hp1
      rw [hp2] at hpg
      generalize (ps.getD i (0,[])).1=u at hpg
      have hbb:∀ s∈bitsTo g 10,0≤s∧s<n:=fun s hs=>by
       obtain ⟨q1,q2,q3⟩:=mem_bitsTo.1 hs
       by_cases e:s.toNat<n.toNat
       ·omega
       ·have:=Nat.testBit_lt_two_pow (Y1i hgk (Y1k (n:=2) (by omega) (show n.toNat≤s.toNat by omega)))
        rw [q3] at this;cases this
      have wi:IntKind.i64.wrap ((i:Int)+1)=((i+1:Nat):Int):=by rw [w64 (by omega)];simp
      have hbl:=yzec (hv:=hvB n next set) (L:=Lv.take i) (p:=(g,w))
      rw [← htk] at hbl
      simp only [hkl,decide_eq_true hlt,Bzu,Bz2i,Bzd1,yz3 hk1,hk2,yz2,yz1,go_sem,yz0,J9,J8,J6,J7,J5,J0,J1,J2,reduceIte,J3,J4,reduceCtorEq]
      intro vs12 U12 hN12 hM12 vs13 U13 hN13
      refine ⟨⟨by omega,hlt1⟩,hlt1,?_⟩
      refine yzm (k_l02Set g hg1) qCS rfl ⟨_,rfl⟩ ?_
      rintro ys v53 rfl
      simp only [yz2,yz1,go_sem,yz0,J9,J8,J6,J7,J5,J0,J1,J2,reduceIte,J3,J4,reduceCtorEq]
      refine yz5 (yz7q (wghL n next) (bitsTo g 10) hw1 (fun s hs=>by have:=hbb s hs;rw [yz4h];omega) (Y1m yz31 (by omega))) qCS trivial ?_
      simp only [yz2,yz1,go_sem,yz0,J9,J8,J6,J7,J5,J0,J1,J2,reduceIte,J3,J4,reduceCtorEq]
      refine yz5 (yz7q (wghL n next) set hw1 (fun s hs=>by have:=hz.1 s hs;rw [yz4h];omega) hz.2) qCS trivial ?_
      have hh:decide (hvy (wghL n next) (bitsTo g 10) > hvy (wghL n next) set)=hvB n next set g:=rfl
      cases hv:hvB n next set g with
      | false =>
       have hh2:decide (hvy (wghL n next) set<hvy (wghL n next) (bitsTo g 10))=false:=hh.trans hv
       rw [if_neg (by rw [hv];simp)] at hbl
       simp only [hh2,Bzh,Bzi,wi,yz2,yz1,go_sem,yz0,J9,J8,J6,J7,J5,J0,J1,J2,reduceIte,J3,J4,reduceCtorEq]
       intros
       rw [← hR2]
       exact ⟨(i+1,b),by show Lv.length - (i+1)<Lv.length - i;omega,⟨by show i+1≤_;omega,by rw [hbl];exact hbs,hbn⟩,rfl⟩
      | true =>
       have hh2:decide (hvy (wghL n next) set<hvy (wghL n next) (bitsTo g 10))=true:=hh.trans hv
       rw [if_pos hv,← hbs] at hbl
       have hwn:w≠[]:=hI.hv _ hgw hv
       cases b with
       | none =>
        have e0:((((0:Nat):Int)) == 0)=true:=rfl
        simp only [hh2,besA,e0,hpg,Bzh,Bzi,wi,Y17,yz2,yz1,go_sem,yz0,J9,J8,J6,J7,J5,J0,J1,J2,reduceIte,J3,J4,reduceCtorEq]
        intro hM13 vs14 U14 hN14
        refine ⟨⟨by omega,by rw [yz7];omega⟩,by rw [yz7];omega,?_⟩
        intros
        rw [← hR2]
        exact ⟨(i+1,some (u,w)),by show Lv.length - (i+1)<Lv.length - i;omega,⟨by show i+1≤_;omega,by rw [hbl];rfl,fun u' w' e=>by cases e;exact hwn⟩,rfl⟩
       | some b =>
        obtain ⟨u2,w2⟩:=b
        have hw2:w2≠[]:=hbn u2 w2 rfl
        have hw3:0<w2.length:=List.length_pos_iff.2 hw2
        have e0:(((w2.length:Nat):Int) == 0)=false:=by rw [beq_eq_false_iff_ne];omega
        simp only [hh2,besA,e0,hpg,Bzh,Bzi,wi,Y17,yz2,yz1,go_sem,yz0,J9,J8,J6,J7,J5,J0,J1,J2,reduceIte,J3,J4,reduceCtorEq]
        intro hM13
        refine ⟨⟨by omega,by rw [yz7];omega⟩,by rw [yz7];omega,?_⟩
        refine yz5 (yz5z w w2) qCS trivial ?_
        by_cases hc:cmpL w w2<0
        ·have hst:stepW (some w2) w=some w:=by simp only [stepW];rw [if_pos hc]
         simp only [decide_eq_true hc,hpg,Bzh,Bzi,wi,yz2,yz1,go_sem,yz0,J9,J8,J6,J7,J5,J0,J1,J2,reduceIte,J3,J4,reduceCtorEq]
         intro vs14 U14 hN14
         refine ⟨⟨by omega,by rw [yz7];omega⟩,by rw [yz7];omega,?_⟩
         intros
         rw [← hR2]
         exact ⟨(i+1,some (u,w)),by show Lv.length - (i+1)<Lv.length - i;omega,⟨by show i+1≤_;omega,by rw [hbl];exact hst.symm,fun u' w' e=>by cases e;exact hwn⟩,rfl⟩
        ·have hst:stepW (some w2) w=some w2:=by simp only [stepW];rw [if_neg hc]
         simp only [decide_eq_false hc,hpg,Bzh,Bzi,wi,yz2,yz1,go_sem,yz0,J9,J8,J6,J7,J5,J0,J1,J2,reduceIte,J3,J4,reduceCtorEq]
         intros
         rw [← hR2]
         exact ⟨(i+1,some (u2,w2)),by show Lv.length - (i+1)<Lv.length - i;omega,⟨by show i+1≤_;omega,by rw [hbl];exact hst.symm,hbn⟩,rfl⟩
     ·obtain rfl:i=Lv.length:=by omega
      rw [Y11] at hbs
      cases b with
      | none =>
       have hbs:none=bestL (hvB n next set) Lv:=hbs
       have e0:decide ((0:Int)<((0:Nat):Int))=false:=by decide
       simp only [hkl,decide_eq_false hlt,← hR2,besA,e0,Bzu,Bz2i,Bz6r,Bz6p,Bz6q,Y17,yz2,yz1,yzr,go_sem,yz0,J9,J8,J6,J7,J5,J0,J1,J2,reduceIte,J3,J4,reduceCtorEq]
       intro vs15 U15 hN15 hM15 vs16 U16 hN16 hM16 hD
       refine ⟨[],?_⟩
       simp only [yzh,yz2,yz1,yzr,go_sem,yz0,J9,J8,J6,J7,J5,J0,J1,J2,reduceIte,J3,J4,reduceCtorEq]
       intro vs17 U17 hN17
       refine call_deep (r:=32) A (fun p hp=>by have:=hI.key p hp;omega) hLl (fun p hp=>by have:=hI.len p hp;omega) rfl (by rw [← hI.ps];simp only [yz76,csA,rowIs,boxIs,J3,ne_eq,reduceCtorEq,exists_eq_left,exists_eq_right,Y8,Yi,exists_eq_left',exists_and_left,exists_eq,Y1,Yb,AObj.ver,J5]) rfl rfl ?_
       intro v' w' ps' hps'
       obtain ⟨hI2,hlt2⟩:=hI.next hne hbs.symm hps'
       simp only [← hR,yz2,yz1,go_sem,yz0,J9,J8,J6,J7,J5,J0,J1,J2,reduceIte,J3,J4,reduceCtorEq]
       refine ⟨f - 1,hlt2,fun u u'=>⟨(u,u',f - 1,_,_,ps'),rfl,hI2,?_⟩⟩
       simp only [yz9z,mvL_bls,yz2,yz1,go_sem,yz0,J9,J8,J6,J7,J5,J0,J1,J2,reduceIte,J3,J4,reduceCtorEq]
       rfl
      | some b =>
       obtain ⟨u2,w2⟩:=b
       have hbs:some w2=bestL (hvB n next set) Lv:=hbs
       have hw2:w2≠[]:=hbn u2 w2 rfl
       have hw3:0<w2.length:=List.length_pos_iff.2 hw2
       have e0:decide ((0:Int)<((w2.length:Nat):Int))=true:=decide_eq_true (by omega)
       simp only [hkl,decide_eq_false hlt,← hR2,besA,e0,Bzu,Bz2i,Bz6r,Bz6p,Bz6q,Y17,yz2,yz1,yzr,go_sem,yz0,J9,J8,J6,J7,J5,J0,J1,J2,reduceIte,J3,J4,reduceCtorEq]
       intro vs15 U15 hN15 hM15 vs16 U16 hN16 hM16 hD
       refine ⟨[.tw 10 901],gwp_tw (n:=u2) rfl (by simpa using hw2) rfl fun m1=>?_⟩
       have hex:extR (bkA n next) next.length (hvB n next set) f seen Lv=some w2:=by
        have h1:=hI.free hne
        obtain ⟨f',rfl⟩:∃ f',f=f'+1:=⟨f - 1,by omega⟩
        cases Lv with
        | nil=>exact absurd rfl hne
        | cons p Lv=>simp only [extR,← hbs]
       have hcx:codeX n next set=0:=by unfold codeX;rw [if_pos h4,← hI.val,hex];rfl
       have hwx:wordX n next set=w2:=by unfold wordX;rw [if_pos h4,← hI.val,hex];rfl
       simp only [← hR,woT,woO,yz1y,yz3q,yz3p,yz3o,yz7i,wo_o,yz27,wo_st,yz3l,yz3n,yz2b,yz7w,yzh,yz2,yz1,yzr,go_sem,yz0,J9,J8,J6,J7,J5,J0,J1,J2,reduceIte,J3,J4,reduceCtorEq]
       intro vs17 U17 hN17
       simp only [← hQ,Az8,hcx,hwx,yz2,yz1,yzr,go_sem,yz0,J9,J8,J6,J7,J5,J0,J1,J2,reduceIte,J3,J4,reduceCtorEq]
       refine ⟨[901],by simp,by simp,by simp,?_⟩
       simp only [range1,Y7,rsA,AVal.fresh,freshL,AObj.fresh,id,Y1v,go_sem,yz0,J9,J8,J6,J7,J5,J0,J1,J2,reduceIte,J3,J4,reduceCtorEq]
       exact ⟨_,rfl,rfl⟩
structure IxI (n:Int) (next:List (List Int)) (set:List Int) (f:Nat) (seen:Nat→Bool) (L Lv W pw:List (Nat×List Int)):Prop where
 ex:ExI n next set f seen L (L.map fun p=>(0,p.2))
 no:bestL (hvB n next set) L=none
 perm:Lv.Perm L
 len:∃ d,∀ p∈Lv,p.2.length=d
 pw:pw.map (·.2)=wrdL W
 nd:(W.map (·.1)).Nodup
 see:∀ k,k∈W.map (·.1)↔seen k=true
 key:∀ p∈W,p.1<2 ^ n.toNat
 sub:∀ p∈Lv,p∈W
theorem IxI.begin {n:Int} {next:List (List Int)} {set:List Int} (v:Nat) (n2:n≤10) (hw:setB n set=true):IxI n next set 1026 (fun k=>k == maskN set) [(maskN set,[])] [(maskN set,[])] [(maskN set,[])] [(v,[])]:=by
 have hb:=yz2w n2 hw
 have hE:=ExI.begin (n:=n) (next:=next) (set:=set) 0 n2 hw
 refine ⟨hE,?_,.refl _,⟨0,fun p hp=>by obtain rfl:=Y9.1 hp;rfl⟩,rfl,by simp,fun k=>by simp,hE.key,fun p hp=>hp⟩
 have:hvB n next set (maskN set)=false:=by
  cases h:hvB n next set (maskN set) with
  | false=>rfl
  | true=>exact absurd rfl (hE.hv (maskN set,[]) (Y9.2 rfl) h)
 unfold bestL
 rw [show [(maskN set,([]:List Int))].filter (fun p=>hvB n next set p.1)=[] by simp [this]]
 rfl
theorem yz7f {bk:Nat→Nat→Nat} {K:Nat} {L L':List (Nat×List Int)} (h:L.Perm L') (q:Nat×List Int):q∈candL bk K L↔q∈candL bk K L':=by
 rw [candL_mem,candL_mem]
 constructor
 ·rintro ⟨p,hp,h2⟩;exact ⟨p,h.mem_iff.1 hp,h2⟩
 ·rintro ⟨p,hp,h2⟩;exact ⟨p,h.mem_iff.2 hp,h2⟩
theorem IxI.next {n:Int} {next:List (List Int)} {set:List Int} {f:Nat} {seen:Nat→Bool} {L Lv W pw A A' pA:List (Nat×List Int)} (h:IxI n next set f seen L Lv W pw) (hne:Lv≠[])
  (hm:MinA seen (candL (bkA n next) next.length Lv) A) (hb:bestL (hvB n next set) A=none) (hp:A'.Perm A) (hps:pA.map (·.2)=wrdL A') :
  IxI n next set (f - 1) (seeL seen (nextL (bkA n next) next.length seen L)) (nextL (bkA n next) next.length seen L) A' (W ++ A') (pw ++ pA)∧f - 1<f:=by
 have hneL:L≠[]:=fun e=>hne (by have:=h.perm;rw [e] at this;exact List.Perm.eq_nil this)
 have hM:=yz26 (bk:=bkA n next) (K:=next.length) (seen:=seen) (L:=L)
 have hpn:A.Perm (nextL (bkA n next) next.length seen L):=hm.perm hM (yz7f h.perm)
 obtain ⟨hE,hlt⟩:=h.ex.next hneL h.no (ps':=(nextL (bkA n next) next.length seen L).map fun p=>(0,p.2)) (by rw [Yj];rfl)
 have hA':A'.Perm (nextL (bkA n next) next.length seen L):=hp.trans hpn
 refine ⟨⟨hE,by rw [← yz7h hpn];exact hb,hA',?_,by rw [Yc,h.pw,hps,← Yc],?_,fun k=>?_,fun p hp2=>?_,fun p hp2=>List.mem_append_right _ hp2⟩,hlt⟩
 ·obtain ⟨d,hd⟩:=h.len
  refine ⟨d+1,fun p hp2=>?_⟩
  obtain ⟨h1,_,_⟩:=hm.sub p (hp.mem_iff.1 hp2)
  obtain ⟨q,hq,x,hx,rfl⟩:=candL_mem.1 h1
  show q.2.length+1=_
  rw [hd q hq]
 ·rw [Yc]
  refine Y19.2 ⟨h.nd,(hp.map (·.1)).nodup_iff.2 hm.nd,fun a ha b hb2 e=>?_⟩
  subst e
  obtain ⟨p,hp2,rfl⟩:=Y3.1 hb2
  have h1:=(h.see p.1).1 ha
  have h2:=(hm.sub p (hp.mem_iff.1 hp2)).2.1
  rw [h1] at h2;cases h2
 ·unfold seeL
  rw [Yc,Y4,h.see,Y22,Y1e,(hA'.map (·.1)).mem_iff]
 ·rcases Y4.1 hp2 with h1 | h1
  ·exact h.key p h1
  ·exact hE.key p (hA'.mem_iff.1 h1)
theorem IxI.found {n:Int} {next:List (List Int)} {set:List Int} {f:Nat} {seen:Nat→Bool} {L Lv W pw A:List (Nat×List Int)} {w:List Int} (h:IxI n next set f seen L Lv W pw) (hne:Lv≠[])
  (hm:MinA seen (candL (bkA n next) next.length Lv) A) (hb:bestL (hvB n next set) A=some w):extV n next set=some w:=by
 have hneL:L≠[]:=fun e=>hne (by have:=h.perm;rw [e] at this;exact List.Perm.eq_nil this)
 have hM:=yz26 (bk:=bkA n next) (K:=next.length) (seen:=seen) (L:=L)
 have hpn:A.Perm (nextL (bkA n next) next.length seen L):=hm.perm hM (yz7f h.perm)
 obtain ⟨hE,hlt⟩:=h.ex.next hneL h.no (ps':=(nextL (bkA n next) next.length seen L).map fun p=>(0,p.2)) (by rw [Yj];rfl)
 rw [yz7h hpn] at hb
 rw [← hE.val]
 have hn2:nextL (bkA n next) next.length seen L≠[]:=fun e=>by rw [e] at hb;cases hb
 have hf:=hE.free hn2
 obtain ⟨f',hf'⟩:∃ f',f - 1=f'+1:=⟨f - 2,by omega⟩
 rw [hf']
 generalize nextL (bkA n next) next.length seen L=N at hb hn2
 cases N with
 | nil=>exact absurd rfl hn2
 | cons p N=>simp only [extR,hb]
theorem IxI.done {n:Int} {next:List (List Int)} {set:List Int} {f:Nat} {seen:Nat→Bool} {L W pw:List (Nat×List Int)} (h:IxI n next set f seen L [] W pw):extV n next set=none:=by
 have hL:L=[]:=List.Perm.nil_eq h.perm |>.symm
 rw [← h.ex.val,hL]
 cases f <;> rfl
theorem wpD_lm1 {P:Program} {Q:AEx→St→Prop} {σ:St} {a:AC} {α:Type} {ts hs:List Nat} {p q:Nat} (m:α→Nat) (inv:α→Prop) (S:α→St) (x0:α) (h0:inv x0) (hS:∀ u,(σ.mv p q u).keep ts hs=S x0)
  (h:∀ x,inv x→wpD P a (loopQ (fun σ'=>∃ k,k<m x∧∀ u,∃ y,m y=k∧inv y∧(σ'.mv p q u).keep ts hs=S y) Q) (S x)):wpD P (.loop (.mv p q (.kp ts hs a))) Q σ:=by
 refine ⟨fun n σ=>∀ u,∃ x,m x=n∧inv x∧(σ.mv p q u).keep ts hs=S x,⟨m x0,fun u=>⟨x0,rfl,h0,hS u⟩⟩,?_⟩
 intro n σ' hI u
 obtain ⟨x,rfl,hx,hS⟩:=hI u
 show wpD P a _ ((σ'.mv p q u).keep ts hs)
 rw [hS]
 refine yzl _ _ _ _ (fun e σ'' he=>?_) (h x hx)
 cases e with
 | normal =>
  obtain ⟨k,h1,h2⟩:=he
  exact ⟨k,h1,h2⟩
 | exit i=>exact he
 | ret=>exact he
def keysR (R:List (Nat×Nat×List Int)):List Value:=R.map fun t=>.int .u64 (t.1:Int)
def tW (R:List (Nat×Nat×List Int)):List (Nat×List Int):=R.map fun t=>(t.1,t.2.2)
def tP (R:List (Nat×Nat×List Int)):List (Nat×List Int):=R.map (·.2)
theorem itT_R1 {cur:Option (Nat×Nat×List Int)} {rem:List (Nat×Nat×List Int)}:itT cur.isSome (keysR (cur.toList ++ rem))=keysR rem:=by cases cur <;> rfl
theorem itT_R2 {cur:Option (Nat×Nat×List Int)} {rem:List (Nat×Nat×List Int)}:itT cur.isSome (rwp (tP (cur.toList ++ rem)))=rwp (tP rem):=by cases cur <;> rfl
theorem yz35 {α β:Type} {f:α→β}:∀ {l:List α} {j:Nat},(l.map f).eraseIdx j=(l.eraseIdx j).map f
 | [],j=>by simp
 | a :: l,0=>by simp
 | a :: l,j+1=>by simp only [Y1,List.eraseIdx_cons_succ,yz35 (l:=l)]
theorem yz5k {α:Type} {a:α}:∀ {l:List α} {j:Nat},l[j]?=some a→(a :: l.eraseIdx j).Perm l
 | [],j,h=>by simp at h
 | b :: l,0,h=>by
  simp only [List.getElem?_cons_zero,Option.some.injEq] at h
  subst h
  exact .refl _
 | b :: l,j+1,h=>by
  rw [List.getElem?_cons_succ] at h
  rw [List.eraseIdx_cons_succ]
  exact (List.Perm.swap b a _).trans ((yz5k h).cons b)
theorem yzbn {R:List (Nat×Nat×List Int)} {j:Nat}:(keysR R).eraseIdx j=keysR (R.eraseIdx j):=by unfold keysR;rw [yz35]
theorem yzcq {R:List (Nat×Nat×List Int)} {j:Nat}:(rwp (tP R)).eraseIdx j=rwp (tP (R.eraseIdx j)):=by unfold rwp tP;rw [yz35,yz35]
theorem getR {R:List (Nat×Nat×List Int)} {j:Nat} {k:Value} {A:AVal} (h1:(keysR R)[j]?=some k) (h2:(rwp (tP R))[j]?=some A):∃ t,R[j]?=some t∧k=.int .u64 (t.1:Int)∧A=.ro (some (some (t.2.1+1))) 1 (ints t.2.2):=by
 unfold keysR at h1
 unfold rwp tP at h2
 rw [Yd] at h1
 rw [Yd,Yd] at h2
 cases h:R[j]? with
 | none=>rw [h] at h1;cases h1
 | some t =>
  rw [h] at h1 h2
  simp only [Y1z,Option.some.injEq] at h1 h2
  exact ⟨t,rfl,h1.symm,h2.symm⟩
theorem tW_zip {A pa:List (Nat×List Int)} (h:pa.map (·.2)=wrdL A):tW ((A.map (·.1)).zip pa)=A∧tP ((A.map (·.1)).zip pa)=pa∧keysR ((A.map (·.1)).zip pa)=keysF A:=by
 have hl:pa.length=A.length:=by have:=congrArg Yf h;simpa using this
 refine ⟨?_,?_,?_⟩
 ·refine Y18 (by simp [tW,hl]) fun i h1 h2=>?_
  have h3:(pa.map (·.2))[i]'(by rw [Y6,hl];exact h2)=(wrdL A)[i]'(by rw [Y6];exact h2):=by simp only [h]
  rw [Yq,Yq] at h3
  simp only [tW,Yq,List.getElem_zip,h3]
 ·refine Y18 (by simp [tP,hl]) fun i h1 h2=>?_
  simp only [tP,Yq,List.getElem_zip]
 ·refine Y18 (by simp [keysR,keysF,hl]) fun i h1 h2=>?_
  simp only [keysR,keysF,Yq,List.getElem_zip]
theorem keysR_nil {R:List (Nat×Nat×List Int)} (h:keysR R=[]):R=[]:=List.map_eq_nil_iff.1 h
theorem frNm_tX {n ver:Nat}:frNm true n ver=some (some (ver+1)):=rfl
theorem yz21 {n:Int} {next:List (List Int)} {set w:List Int}:setB n (preA next set w n.toNat)=true:=by
 rw [setB_iff]
 refine ⟨?_,fun x hx=>by have:=(preA_mem.1 hx).1;omega⟩
 unfold SI preA
 refine List.Pairwise.filter _ ?_
 rw [List.pairwise_map]
 exact List.pairwise_lt_range.imp fun h=>by omega
structure InI (n:Int) (next:List (List Int)) (set:List Int) (seen:Nat→Bool) (d:Nat) (cs A pa:List (Nat×List Int)) (b:Option (Nat×List Int)):Prop where
 mn:MinA seen cs A
 pa:pa.map (·.2)=wrdL A
 is:IsL (fun w=>∃ p∈cs,seen p.1=false∧hvB n next set p.1=true∧p.2=w) (b.map (·.2))
 ln:∀ p∈cs,p.2.length=d+1
theorem InI.begin {n:Int} {next:List (List Int)} {set:List Int} {seen:Nat→Bool} {d:Nat}:InI n next set seen d [] [] [] none:=⟨yz97,rfl,fun w ⟨p,hp,_⟩=>(by cases hp),fun p hp=>(by cases hp)⟩
theorem InI.skip {n:Int} {next:List (List Int)} {set:List Int} {seen:Nat→Bool} {d:Nat} {cs A pa:List (Nat×List Int)} {b:Option (Nat×List Int)} (h:InI n next set seen d cs A pa b) {c:Nat×List Int}
  (hs:seen c.1=true) (hl:c.2.length=d+1):InI n next set seen d (cs ++ [c]) A pa b:=by
 have hm:=h.mn.step c
 rw [yzax hs] at hm
 refine ⟨hm,h.pa,h.is.congr fun w=>⟨fun ⟨p,hp,h2⟩=>⟨p,List.mem_append_left _ hp,h2⟩,fun ⟨p,hp,h2,h3⟩=>?_⟩,fun p hp=>?_⟩
 ·rcases Y4.1 hp with hp | hp
  ·exact ⟨p,hp,h2,h3⟩
  ·obtain rfl:=Y9.1 hp
   rw [hs] at h2;cases h2
 ·rcases Y4.1 hp with hp | hp
  ·exact h.ln p hp
  ·obtain rfl:=Y9.1 hp;exact hl
theorem InI.ins {n:Int} {next:List (List Int)} {set:List Int} {seen:Nat→Bool} {d:Nat} {cs A pa pa':List (Nat×List Int)} {b b':Option (Nat×List Int)} (h:InI n next set seen d cs A pa b) {c:Nat×List Int}
  (hs:seen c.1=false) (hl:c.2.length=d+1) (hp:pa'.map (·.2)=wrdL (insA seen A c)) (hb:b'.map (·.2)=if hvB n next set c.1=true then stepW (b.map (·.2)) c.2 else b.map (·.2)):InI n next set seen d (cs ++ [c]) (insA seen A c) pa' b':=by
 refine ⟨h.mn.step c,hp,?_,fun p hp=>?_⟩
 ·rw [hb]
  by_cases hv:hvB n next set c.1=true
  ·rw [if_pos hv]
   refine (h.is.step (w:=c.2)).congr fun w=>⟨?_,?_⟩
   ·rintro (⟨p,hp,h2⟩ | rfl)
    ·exact ⟨p,List.mem_append_left _ hp,h2⟩
    ·exact ⟨c,List.mem_append_right _ (Y9.2 rfl),hs,hv,rfl⟩
   ·rintro ⟨p,hp,h2,h3,h4⟩
    rcases Y4.1 hp with hp | hp
    ·exact .inl ⟨p,hp,h2,h3,h4⟩
    ·obtain rfl:=Y9.1 hp;exact .inr h4.symm
  ·rw [if_neg hv]
   refine h.is.congr fun w=>⟨fun ⟨p,hp,h2⟩=>⟨p,List.mem_append_left _ hp,h2⟩,fun ⟨p,hp,h2,h3,h4⟩=>?_⟩
   rcases Y4.1 hp with hp | hp
   ·exact ⟨p,hp,h2,h3,h4⟩
   ·obtain rfl:=Y9.1 hp
    exact absurd h3 hv
 ·rcases Y4.1 hp with hp | hp
  ·exact h.ln p hp
  ·obtain rfl:=Y9.1 hp;exact hl
theorem hasT_see {W:List (Nat×List Int)} {seen:Nat→Bool} (h:∀ k,k∈W.map (·.1)↔seen k=true) (k:Nat):hasT W k=seen k:=by
 rw [Bool.eq_iff_iff,← h k]
 unfold hasT
 rw [List.any_eq_true,Y3]
 constructor
 ·rintro ⟨p,hp,h2⟩;exact ⟨p,hp,Nat.eq_of_beq_eq_true h2⟩
 ·rintro ⟨p,hp,h2⟩;exact ⟨p,hp,by rw [h2];exact Nat.beq_refl k⟩
def besB:Option (Nat×List Int)→AVal
 | none=>nilS
 | some (u,w)=>.ro (some (some (u+1))) 1 (ints w)
theorem yz9e (n:Int) (next:List (List Int)) (set:List Int):RowT Tryz.prog nz53 [autA n next,.ro none 1 (ints set)] (decide (codeX n next set=0)) (wordX n next set) (codeX n next set):=by
 refine yz90 mixed czrk rfl (by simp) ?_
 generalize hQ:finQ _=Q
 simp only [Azv,Bze5,yz2,yz1,go_sem,yz0,J9,J8,J6,J7,J5,J0,J1,J2,reduceIte,J3,J4,reduceCtorEq]
 intro vs0 U0 hN0 vs1 U1 hN1
 refine yz5 (yz44 n next set) qCS trivial ?_
 by_cases h0:codeW n next set=0
 ·obtain ⟨hv,hw,hb⟩:=codeW_ok.1 h0
  have A:=autB_iff.1 hv
  have n1:=A.n1
  have n2:=A.n2
  have l2:=A.l2
  have hML:=yzc
  have hw1:=yzep A hb
  have hz:=set_le n2 hw
  have Z:=setB_iff.1 hw
  have hm10:∀ s∈set,0≤s∧s<10:=fun s hs=>by have:=Z.2 s hs;omega
  have e00:((0:Int) != 0)=false:=rfl
  simp only [h0,e00,Bz6t,Bz6s,Bze4,yz2,yz1,go_sem,yz0,J9,J8,J6,J7,J5,J0,J1,J2,reduceIte,J3,J4,reduceCtorEq]
  intro vs2 U2 hN2 vs3 U3 hN3
  refine yzm (yz9r n next A hb) qCS rfl ⟨_,rfl⟩ ?_
  rintro ys v rfl
  simp only [Bze3,yz2,yz1,go_sem,yz0,J9,J8,J6,J7,J5,J0,J1,J2,reduceIte,J3,J4,reduceCtorEq]
  intro vs4 U4 hN4
  refine yz5 (yzdh (wghL n next) set hw1 (fun s hs=>by have:=hz.1 s hs;rw [yz4h];omega) hz.2) qCS trivial ?_
  simp only [Bze2,yz2,yz1,go_sem,yz0,J9,J8,J6,J7,J5,J0,J1,J2,reduceIte,J3,J4,reduceCtorEq]
  intro vs5 U5 hN5
  refine yz5 (yz40 set hm10) qCS trivial ?_
  have f0:∀ k:Value,findKeyAt k [] 0=some none:=fun _=>rfl
  simp only [f0,yz2,yz1,go_sem,yz0,J9,J8,J6,J7,J5,J0,J1,J2,reduceIte,J3,J4,reduceCtorEq]
  refine ⟨fun r v' e=>by cases e;exact ⟨_,_,_,rfl⟩,?_⟩
  simp only [Bze1,yz2,yz1,go_sem,yz0,J9,J8,J6,J7,J5,J0,J1,J2,reduceIte,J3,J4,reduceCtorEq]
  intro vs6 U6 hN6
  refine yz5 (yz40 set hm10) qCS trivial ?_
  simp only [Bze0,yz2,yz1,go_sem,yz0,J9,J8,J6,J7,J5,J0,J1,J2,reduceIte,J3,J4,reduceCtorEq]
  refine ⟨⟨_,rfl,rfl⟩,?_⟩
  refine wpD_lm1 (fun (_,f,_,_,_,_,_)=>f) (fun (_,f,seen,Ls,Lv,W,pw)=>IxI n next set f seen Ls Lv W pw)
   (fun ((v43,f,seen,Ls,Lv,W,pw):Nat×Nat×(Nat→Bool)×List (Nat×List Int)×List (Nat×List Int)×List (Nat×List Int)×List (Nat×List Int))=>⟨L .any [(2,.ptr 2 (vs0 0 0) 0),(7,.own 32 v),(8,iv (hvy (wghL n next) set)),(9,.mp 36 (vs5 0 0)),(10,.own 43 v43)],
    L .gone [(2,.box (vs0 0 0) [iv n,.ro none 1 (rwn next)]),(32,.row v 1 true (ints (wghL n next))),(36,.map (vs5 0 0) (keysF W) (rwp pw)),(39,.gone),(43,.row v43 1 true (intsK .u64 (setsI Lv))),(133,.gone),(5000,.gone),(5001,.gone),(901,.gone)]⟩)
   (_,1026,_,[(maskN set,[])],[(maskN set,[])],[(maskN set,[])],[(vs5 3 0,[])]) (IxI.begin (vs5 3 0) n2 hw) (fun u=>by simp only [Bz2n,keysF,Y1,Yb,rwp,yz9z,yz2,yz1,go_sem,yz0,J9,J8,J6,J7,J5,J0,J1,J2,reduceIte,J3,J4,reduceCtorEq];rfl) ?_
  rintro ⟨v43,f,seen,Ls,Lv,W,pw⟩ hI
  have hI:IxI n next set f seen Ls Lv W pw:=hI
  generalize hR:loopQ _ _=R
  have hsl:(setsI Lv).length=Lv.length:=by simp
  by_cases hne:Lv=[]
  ·subst hne
   have hex:=hI.done
   have hcx:codeX n next set=6:=by unfold codeX;rw [if_pos h0,hex];rfl
   have hwx:wordX n next set=[]:=by unfold wordX;rw [if_pos h0,hex];rfl
   have hd0:decide ((0:Int)<((0:Nat):Int))=false:=by decide
   simp only [← hR,hd0,Bz2n,Bz6u,Yb,Y17,yz2,yz1,go_sem,yz0,J9,J8,J6,J7,J5,J0,J1,J2,reduceIte,J3,J4,reduceCtorEq]
   intro vs9 U9 hN9 hM9
   simp only [← hQ,hcx,hwx,Azv,Bzdz,yz2,yz1,go_sem,yz0,J9,J8,J6,J7,J5,J0,J1,J2,reduceIte,J3,J4,reduceCtorEq]
   intro vs10 U10 hN10
   refine ⟨[],by simp,by simp,by simp,?_⟩
   simp only [range1,Y7,rsA,AVal.fresh,freshL,AObj.fresh,id,Y1v,go_sem,yz0,J9,J8,J6,J7,J5,J0,J1,J2,reduceIte,J3,J4,reduceCtorEq]
   simp
  ·have hl0:0<Lv.length:=List.length_pos_iff.2 hne
   have hgt:decide ((0:Int)<(Lv.length:Int))=true:=decide_eq_true (by omega)
   obtain ⟨d,hd⟩:=hI.len
   simp only [hsl,hgt,Bz2n,Bz6u,Bzdy,yz2,yz1,go_sem,yz0,J9,J8,J6,J7,J5,J0,J1,J2,reduceIte,J3,J4,reduceCtorEq]
   intro vs9 U9 hN9 hM9 vs10 U10 hN10
   simp only [Bzdx,yz2,yz1,go_sem,yz0,J9,J8,J6,J7,J5,J0,J1,J2,reduceIte,J3,J4,reduceCtorEq]
   intro vs11 U11 hN11
   simp only [hsl,Bzdw,Bzdo,yz2,yz1,go_sem,yz0,J9,J8,J6,J7,J5,J0,J1,J2,reduceIte,J3,J4,reduceCtorEq]
   intro vs12 U12 hN12 hM12
   refine yz16 (fun (i,_,_,_)=>Lv.length - i) (fun (i,A,pa,b)=>i≤Lv.length∧InI n next set seen d (candL (bkA n next) next.length (Lv.take i)) A pa b)
    (fun ((i,A,pa,b):Nat×List (Nat×List Int)×List (Nat×List Int)×Option (Nat×List Int))=>⟨L .any [(2,.ptr 2 (vs0 0 0) 0),(7,.own 32 v),(8,iv (hvy (wghL n next) set)),(9,.mp 36 (vs5 0 0)),(10,.own 43 v43),(11,.mp 47 (vs10 0 0)),(12,besB b),(48,.own 43 v43),(49,iv Lv.length),(50,iv i)],
     L .gone [(2,.box (vs0 0 0) [iv n,.ro none 1 (rwn next)]),(32,.row v 1 true (ints (wghL n next))),(36,.map (vs5 0 0) (keysF W) (rwp pw)),(39,.gone),(43,.row v43 1 true (intsK .u64 (setsI Lv))),(47,.map (vs10 0 0) (keysF A) (rwp pa)),(68,.gone),(72,.gone),(133,.gone),(5000,.gone),(5001,.gone),(901,.gone)]⟩)
    (0,[],[],none) ⟨Y1j _,by simpa [candL] using InI.begin⟩ (by simp only [Bz2m,besB,keysF,Yb,yz64,yz2,yz1,go_sem,yz0,J9,J8,J6,J7,J5,J0,J1,J2,reduceIte,J3,J4,reduceCtorEq];try rfl) ?_
   rintro ⟨i,As,pa,b⟩ ⟨hi,hJ⟩
   have hi:i≤Lv.length:=hi
   have hJ:InI n next set seen d (candL (bkA n next) next.length (Lv.take i)) As pa b:=hJ
   generalize hR2:loopQ _ _=R2
   by_cases hlt:(i:Int)<Lv.length
   ·have hlt1:i<Lv.length:=by omega
    obtain ⟨g,w,hg⟩:∃ g w,Lv[i]=(g,w):=⟨_,_,rfl⟩
    have hgw:(g,w)∈Lv:=hg ▸ Yy hlt1
    have hgk:g<2 ^ n.toNat:=hI.key _ (hI.sub _ hgw)
    have hN:2 ^ n.toNat≤1024:=Y1k (n:=2) (by omega) (show n.toNat≤10 by omega)
    have htk:Lv.take (i+1)=Lv.take i ++ [(g,w)]:=by rw [Y1a hlt1,hg]
    have hk1:i<(setsI Lv).length:=by rw [hsl];exact hlt1
    have hk2:(setsI Lv).getD i 0=(g:Int):=by
     rw [Y0,Yd,Y2 hlt1,hg];rfl
    have wi:IntKind.i64.wrap ((i:Int)+1)=((i+1:Nat):Int):=by rw [w64 (by omega)];simp
    simp only [hsl,decide_eq_true hlt,Bz2m,Bz70,Bzdn,yz3 hk1,hk2,yz2,yz1,go_sem,yz0,J9,J8,J6,J7,J5,J0,J1,J2,reduceIte,J3,J4,reduceCtorEq]
    intro vs13 U13 hN13 vs14 U14 hN14
    refine ⟨⟨by omega,hlt1⟩,hlt1,?_⟩
    simp only [Bzdl,yz2,yz1,go_sem,yz0,J9,J8,J6,J7,J5,J0,J1,J2,reduceIte,J3,J4,reduceCtorEq]
    intro vs15 U15 hN15
    refine yz5 (yz3v n next) qCS trivial ?_
    simp only [Bzdk,yz2,yz1,go_sem,yz0,J9,J8,J6,J7,J5,J0,J1,J2,reduceIte,J3,J4,reduceCtorEq]
    have hcs:∀ x:Nat,candL (bkA n next) next.length (Lv.take i) ++ (Ya (x+1)).map (fun (x:Nat)=>(bkA n next x g,(x:Int) :: w))=(candL (bkA n next) next.length (Lv.take i) ++ (Ya x).map (fun (x:Nat)=>(bkA n next x g,(x:Int) :: w))) ++ [(bkA n next x g,(x:Int) :: w)]:=fun x=>by
     rw [List.range_succ,Yc,Y13];rfl
    have hcK:candL (bkA n next) next.length (Lv.take (i+1))=candL (bkA n next) next.length (Lv.take i) ++ (Ya next.length).map (fun (x:Nat)=>(bkA n next x g,(x:Int) :: w)):=by
     rw [htk];simp [candL,List.flatMap_append]
    generalize candL (bkA n next) next.length (Lv.take i)=C0 at hJ hcs hcK
    refine yz16 (fun (x,_,_,_)=>next.length - x) (fun (x,A,pa,b)=>x≤next.length∧InI n next set seen d (C0 ++ (Ya x).map (fun (x:Nat)=>(bkA n next x g,(x:Int) :: w))) A pa b)
     (fun ((x,A,pa,b):Nat×List (Nat×List Int)×List (Nat×List Int)×Option (Nat×List Int))=>⟨L .any [(2,.ptr 2 (vs0 0 0) 0),(7,.own 32 v),(8,iv (hvy (wghL n next) set)),(9,.mp 36 (vs5 0 0)),(10,.own 43 v43),(11,.mp 47 (vs10 0 0)),(12,besB b),(14,fv g),(48,.own 43 v43),(49,iv Lv.length),(50,iv i),(55,iv next.length),(56,iv x)],
      L .gone [(2,.box (vs0 0 0) [iv n,.ro none 1 (rwn next)]),(32,.row v 1 true (ints (wghL n next))),(36,.map (vs5 0 0) (keysF W) (rwp pw)),(39,.gone),(43,.row v43 1 true (intsK .u64 (setsI Lv))),(47,.map (vs10 0 0) (keysF A) (rwp pa)),(68,.gone),(72,.gone),(133,.gone),(5000,.gone),(5001,.gone),(901,.gone)]⟩)
     (0,As,pa,b) ⟨Y1j _,by simpa using hJ⟩ (by simp only [Bz2l,yz2,yz1,go_sem,yz0,J9,J8,J6,J7,J5,J0,J1,J2,reduceIte,J3,J4,reduceCtorEq];try rfl) ?_
    clear hJ
    rintro ⟨x,As,pa,b⟩ ⟨hx,hJ⟩
    have hx:x≤next.length:=hx
    have hJ:InI n next set seen d (C0 ++ (Ya x).map (fun (x:Nat)=>(bkA n next x g,(x:Int) :: w))) As pa b:=hJ
    generalize hR3:loopQ _ _=R3
    by_cases hxl:(x:Int)<next.length
    ·have hx1:x<next.length:=by omega
     have wx:IntKind.i64.wrap ((x:Int)+1)=((x+1:Nat):Int):=by rw [w64 (by omega)];simp
     have hwx:IsW next.length [(x:Int)]:=fun y hy=>by obtain rfl:=Y9.1 hy;omega
     simp only [decide_eq_true hxl,Bz2l,Bz6z,Bzdj,Bzdi,yz2,yz1,go_sem,yz0,J9,J8,J6,J7,J5,J0,J1,J2,reduceIte,J3,J4,reduceCtorEq]
     intro vs16 U16 hN16 vs17 U17 hN17 vs18 U18 hN18
     refine yzm (yz5m g (by omega)) qCS rfl ⟨_,rfl⟩ ?_
     rintro ys v61 rfl
     simp only [yz2,yz1,go_sem,yz0,J9,J8,J6,J7,J5,J0,J1,J2,reduceIte,J3,J4,reduceCtorEq]
     refine ⟨⟨_,rfl,rfl⟩,?_⟩
     have hxc:[AVal.val (Value.int .i64 (x:Int))]=ints [(x:Int)]:=rfl
     rw [hxc]
     refine yzm (yz7u n next (bitsTo g 10) [(x:Int)] A hwx) qCS rfl ⟨_,rfl⟩ ?_
     rintro ys v64 rfl
     simp only [Bzdh,yz2,yz1,go_sem,yz0,J9,J8,J6,J7,J5,J0,J1,J2,reduceIte,J3,J4,reduceCtorEq]
     intro vs19 U19 hN19
     have hpin:∀ s∈preA next (bitsTo g 10) [(x:Int)] n.toNat,0≤s∧s<10:=preA_in (by omega)
     refine yz5 (yz40 _ hpin) qCS trivial ?_
     have hto:maskN (preA next (bitsTo g 10) [(x:Int)] n.toNat)=bkA n next x g:=rfl
     obtain ⟨j,hj,hjg⟩:=Y1b (hI.sub _ hgw)
     have hWj:W.getD j (0,[])=(g,w):=by rw [Y0,Y2 hj];exact hjg
     have hfk:=yzfc (L:=W) j 0 hI.nd hj
     rw [hWj,Y1o] at hfk
     have hpwl:pw.length=W.length:=by have:=congrArg Yf hI.pw;simpa using this
     have hpj:(pw.getD j (0,[])).2=w:=by
      have this:(pw.map (·.2)).getD j []=(wrdL W).getD j []:=by rw [hI.pw]
      rw [Y0,Y0,Yd,Yd,Y2 hj,Y2 (by omega:j<pw.length),hjg] at this
      rw [Y0,Y2 (by omega:j<pw.length)];exact this
     have hpg:=yz24 (ps:=pw) (i:=j) (by omega)
     rw [hpj] at hpg
     rw [hto]
     simp only [hfk,hpg,yz2,yz1,go_sem,yz0,J9,J8,J6,J7,J5,J0,J1,J2,reduceIte,J3,J4,reduceCtorEq]
     have hwl:w.length≤1024:=by have:=hI.ex.len _ (hI.perm.mem_iff.1 hgw);dsimp only at this;omega
     refine ⟨⟨_,rfl,rfl⟩,by omega,?_⟩
     have hwc:AVal.val (Value.int .i64 (x:Int)) :: ints w=ints ((x:Int) :: w):=rfl
     obtain ⟨w',hw'⟩:∃ w':List Int,w'=(x:Int) :: w:=⟨_,rfl⟩
     rw [hwc,← hw']
     generalize vs19 7 0=u
     simp only [Bzdg,yz2,yz1,yzr,go_sem,yz0,J9,J8,J6,J7,J5,J0,J1,J2,reduceIte,J3,J4,reduceCtorEq]
     intro _
     refine ⟨[.tf 18 68],gwp_tf (k:=1) rfl rfl ?_⟩
     rw [frNm_tX]
     have hbl:bkA n next x g<2 ^ n.toNat:=yz3j
     have hcx:=hcs x
     rw [← hw'] at hcx
     have hwl':w'.length=d+1:=by rw [hw',Ye,hd _ hgw]
     have hsb:bitsTo (bkA n next x g) 10=preA next (bitsTo g 10) [(x:Int)] n.toNat:=by
      rw [← hto]
      exact (yz2w n2 yz21).2
     rw [← hsb]
     generalize bkA n next x g=to at hbl hcx hfk hsb ⊢
     have hto':∀ s∈bitsTo to 10,0≤s∧s<n:=fun s hs=>by
      rw [hsb] at hs
      have:=(preA_mem.1 hs).1;omega
     clear hsb
     generalize C0 ++ (Ya x).map (fun (x:Nat)=>(bkA n next x g,(x:Int) :: w))=Cx at hJ hcx
     simp only [yzh,yz2,yz1,yzr,go_sem,yz0,J9,J8,J6,J7,J5,J0,J1,J2,reduceIte,J3,J4,reduceCtorEq]
     intro vs20 U20 hN20
     have hhs:=hasT_see hI.see to
     cases hsn:seen to with
     | true =>
      rw [hsn] at hhs
      obtain ⟨j2,hj1,hj2⟩:=yzdl 0 hhs
      have hJ2:=hJ.skip (c:=(to,w')) hsn hwl'
      rw [← hcx] at hJ2
      simp only [hj1,Bz2k,Bz2j,Bz6,wx,yz2,yz1,go_sem,yz0,J9,J8,J6,J7,J5,J0,J1,J2,reduceIte,J3,J4,reduceCtorEq]
      intros
      rw [← hR3]
      exact ⟨(x+1,As,pa,b),by show next.length - (x+1)<next.length - x;omega,⟨by show x+1≤_;omega,hJ2⟩,rfl⟩
     | false =>
      rw [hsn] at hhs
      have hj1:=yz7e 0 hhs
      have tail:∀ As' pa':List (Nat×List Int),insA seen As (to,w')=As'→pa'.map (·.2)=wrdL As'→∀ σ:St,σ.keep [2,7,8,9,10,11,12,14,16,18,48,49,50,55,56] [2,32,36,39,43,47,61,63,64,68,72,133,5000,5001,901] =
        ⟨L .any [(2,.ptr 2 (vs0 0 0) 0),(7,.own 32 v),(8,iv (hvy (wghL n next) set)),(9,.mp 36 (vs5 0 0)),(10,.own 43 v43),(11,.mp 47 (vs10 0 0)),(12,besB b),(14,fv g),(16,.own 64 v64),(18,.ro (some (some (u+1))) 1 (ints w')),(48,.own 43 v43),(49,iv Lv.length),(50,iv i),(55,iv next.length),(56,iv x)],
         L .gone [(2,.box (vs0 0 0) [iv n,.ro none 1 (rwn next)]),(32,.row v 1 true (ints (wghL n next))),(36,.map (vs5 0 0) (keysF W) (rwp pw)),(39,.gone),(43,.row v43 1 true (intsK .u64 (setsI Lv))),(47,.map (vs10 0 0) (keysF As') (rwp pa')),(61,.row v61 1 true (ints (bitsTo g 10))),(63,.row (vs18 4 0) 1 true (ints [(x:Int)])),(64,.row v64 1 true (ints (bitsTo to 10))),(68,.gone),(72,.gone),(133,.gone),(5000,.gone),(5001,.gone),(901,.gone)]⟩ →
        wpD Tryz.prog Bz6x (blockQ 5 (seqQ (wpD Tryz.prog Bz6) R3)) σ:=by
       intro As' pa' hAs hpa σ hσ
       unfold Bz6x
       rw [yz2,hσ]
       simp only [yz2,yz1,yzr,go_sem,yz0,J9,J8,J6,J7,J5,J0,J1,J2,reduceIte,J3,J4,reduceCtorEq]
       intro vs21 U21 hN21
       refine yz5 (yzdh (wghL n next) (bitsTo to 10) hw1 (fun s hs=>by have:=hto' s hs;rw [yz4h];omega) (Y1m yz31 (by omega))) qCS trivial ?_
       have hh:decide (hvy (wghL n next) (bitsTo to 10) > hvy (wghL n next) set)=hvB n next set to:=rfl
       cases hv:hvB n next set to with
       | false =>
        have hh2:decide (hvy (wghL n next) set<hvy (wghL n next) (bitsTo to 10))=false:=hh.trans hv
        simp only [hh2,Bzj,Bz6,wx,yz2,yz1,go_sem,yz0,J9,J8,J6,J7,J5,J0,J1,J2,reduceIte,J3,J4,reduceCtorEq]
        intros
        rw [← hR3]
        have hJ2:=hJ.ins (c:=(to,w')) (pa':=pa') (b':=b) hsn hwl' (by rw [hAs];exact hpa) (by rw [if_neg (by rw [hv];simp)])
        rw [hAs,← hcx] at hJ2
        exact ⟨(x+1,As',pa',b),by show next.length - (x+1)<next.length - x;omega,⟨by show x+1≤_;omega,hJ2⟩,rfl⟩
       | true =>
        have hh2:decide (hvy (wghL n next) set<hvy (wghL n next) (bitsTo to 10))=true:=hh.trans hv
        cases b with
        | none =>
         simp only [hh2,besB,Bzj,Bz6,wx,yz2,yz1,go_sem,yz0,J9,J8,J6,J7,J5,J0,J1,J2,reduceIte,J3,J4,reduceCtorEq]
         intros
         rw [← hR3]
         have hJ2:=hJ.ins (c:=(to,w')) (pa':=pa') (b':=some (u,w')) hsn hwl' (by rw [hAs];exact hpa) (by rw [if_pos hv];rfl)
         rw [hAs,← hcx] at hJ2
         exact ⟨(x+1,As',pa',some (u,w')),by show next.length - (x+1)<next.length - x;omega,⟨by show x+1≤_;omega,hJ2⟩,rfl⟩
        | some b =>
         obtain ⟨u2,w2⟩:=b
         have hw2:w2.length=d+1:=by
          obtain ⟨p,hp,_,_,e⟩:=hJ.is.1
          have h9:=hJ.ln p hp
          rw [e] at h9;exact h9
         have hcw:cmpW w' w2=cmpL w' w2:=cmpW_eq (by omega)
         simp only [hh2,besB,Bzj,Bz6,wx,yz2,yz1,go_sem,yz0,J9,J8,J6,J7,J5,J0,J1,J2,reduceIte,J3,J4,reduceCtorEq]
         refine ⟨.inl trivial,?_⟩
         refine yz5 (yz2u w' w2) qCS trivial ?_
         by_cases hc:cmpL w' w2<0
         ·simp only [hcw,decide_eq_true hc,Bzj,Bz6,wx,yz2,yz1,go_sem,yz0,J9,J8,J6,J7,J5,J0,J1,J2,reduceIte,J3,J4,reduceCtorEq]
          intros
          rw [← hR3]
          have hJ2:=hJ.ins (c:=(to,w')) (pa':=pa') (b':=some (u,w')) hsn hwl' (by rw [hAs];exact hpa) (by rw [if_pos hv];simp only [Y1z,stepW];rw [if_pos hc])
          rw [hAs,← hcx] at hJ2
          exact ⟨(x+1,As',pa',some (u,w')),by show next.length - (x+1)<next.length - x;omega,⟨by show x+1≤_;omega,hJ2⟩,rfl⟩
         ·simp only [hcw,decide_eq_false hc,Bzj,Bz6,wx,yz2,yz1,go_sem,yz0,J9,J8,J6,J7,J5,J0,J1,J2,reduceIte,J3,J4,reduceCtorEq]
          intros
          rw [← hR3]
          have hJ2:=hJ.ins (c:=(to,w')) (pa':=pa') (b':=some (u2,w2)) hsn hwl' (by rw [hAs];exact hpa) (by rw [if_pos hv];simp only [Y1z,stepW];rw [if_neg hc])
          rw [hAs,← hcx] at hJ2
          exact ⟨(x+1,As',pa',some (u2,w2)),by show next.length - (x+1)<next.length - x;omega,⟨by show x+1≤_;omega,hJ2⟩,rfl⟩
      cases hha:hasT As to with
      | false =>
       have hj2:=yz7e 0 hha
       simp only [hj1,hj2,Bz2k,Bz2j,Bz6y,Bz6w,Bz6v,yz2,yz1,go_sem,yz0,J9,J8,J6,J7,J5,J0,J1,J2,reduceIte,J3,J4,reduceCtorEq]
       intro vs21 U21 hN21 vs22 U22 hN22 vs23 U23 hN23 vs24 U24 hN24
       have hnm:to ∉ As.map (·.1):=fun hm=>by
        obtain ⟨p,hp,e⟩:=Y3.1 hm
        have:hasT As to=true:=List.any_eq_true.2 ⟨p,hp,by rw [e];exact Nat.beq_refl to⟩
        rw [hha] at this;cases this
       rw [show keysF As ++ [Value.int .u64 (to:Int)]=keysF (As ++ [(to,w')]) by simp [keysF],show rwp pa ++ [AVal.ro (some (some (u+1))) 1 (ints w')]=rwp (pa ++ [(u,w')]) from yz36]
       exact tail (As ++ [(to,w')]) (pa ++ [(u,w')]) (yzd1 (c:=(to,w')) hsn hnm) (by rw [Yc,hJ.pa];simp) _ rfl
      | true =>
       obtain ⟨p2,hp2,hpe⟩:=List.any_eq_true.1 hha
       obtain ⟨j2,hj2,rfl⟩:=Y1b hp2
       have hpe:As[j2].1=to:=Nat.eq_of_beq_eq_true hpe
       have hAg:As.getD j2 (0,[])=As[j2]:=by rw [Y0,Y2 hj2];rfl
       have hk4:=yzfc (L:=As) j2 0 hJ.mn.nd hj2
       rw [hAg,hpe,Y1o] at hk4
       have hpal:pa.length=As.length:=by have:=congrArg Yf hJ.pa;simpa using this
       have hpaj:(pa.getD j2 (0,[])).2=As[j2].2:=by
        have this:(pa.map (·.2)).getD j2 []=(wrdL As).getD j2 []:=by rw [hJ.pa]
        rw [Y0,Y0,Yd,Yd,Y2 hj2,Y2 (by omega:j2<pa.length)] at this
        rw [Y0,Y2 (by omega:j2<pa.length)];exact this
       have hpag:=yz24 (ps:=pa) (i:=j2) (by omega)
       rw [hpaj] at hpag
       have hio:=yzey (c:=(to,w')) (i:=j2) hJ.mn.nd hsn hj2 (by rw [hAg];exact hpe)
       rw [hAg] at hio
       have hold:As[j2].2.length=d+1:=hJ.ln _ (hJ.mn.sub _ hp2).1
       have hcw:cmpW w' As[j2].2=cmpL w' As[j2].2:=cmpW_eq (by omega)
       simp only [hj1,hk4,hpag,Bz2k,Bz2j,Bz6y,Bz6w,Bz6v,yz2,yz1,go_sem,yz0,J9,J8,J6,J7,J5,J0,J1,J2,reduceIte,J3,J4,reduceCtorEq]
       intro vs21 U21 hN21 vs22 U22 hN22 vs23 U23 hN23
       refine yz5 (yz2u w' As[j2].2) qCS trivial ?_
       by_cases hc:cmpL w' As[j2].2<0
       ·simp only [hcw,decide_eq_true hc,hk4,yz2,yz1,go_sem,yz0,J9,J8,J6,J7,J5,J0,J1,J2,reduceIte,J3,J4,reduceCtorEq]
        rw [if_pos hc] at hio
        intro vs24 U24 hN24
        have hk6:keysF (As.set j2 (to,w'))=keysF As:=by
         unfold keysF
         rw [List.map_set]
         refine Y18 (by simp) fun l h1 h2'=>?_
         rw [List.getElem_set]
         split
         ·rename_i e;subst e
          rw [Yq,hpe]
         ·rfl
        have hw6:wrdL (As.set j2 (to,w'))=(wrdL As).set j2 w':=List.map_set
        rw [show (rwp pa).set j2 (AVal.ro (some (some (u+1))) 1 (ints w'))=rwp (pa.set j2 (u,w')) by simp [rwp,List.map_set],← hk6]
        exact tail (As.set j2 (to,w')) (pa.set j2 (u,w')) hio (by rw [List.map_set,hJ.pa,hw6]) _ rfl
       ·simp only [hcw,decide_eq_false hc,hk4,yz2,yz1,go_sem,yz0,J9,J8,J6,J7,J5,J0,J1,J2,reduceIte,J3,J4,reduceCtorEq]
        rw [if_neg hc] at hio
        exact tail As pa hio hJ.pa _ rfl
    ·obtain rfl:x=next.length:=by omega
     rw [← hcK] at hJ
     simp only [← hR3,decide_eq_false hxl,wi,Bz2l,Bz6z,Bzdm,yz2,yz1,go_sem,yz0,J9,J8,J6,J7,J5,J0,J1,J2,reduceIte,J3,J4,reduceCtorEq]
     intros
     rw [← hR2]
     exact ⟨(i+1,As,pa,b),by show Lv.length - (i+1)<Lv.length - i;omega,⟨by show i+1≤_;omega,hJ⟩,rfl⟩
   ·obtain rfl:i=Lv.length:=by omega
    rw [Y11] at hJ
    have hbest:b.map (·.2)=bestL (hvB n next set) As:=best_next hJ.mn hJ.is
    simp only [← hR2,decide_eq_false hlt,Bz2m,Bz70,Bzdv,yz2,yz1,go_sem,yz0,J9,J8,J6,J7,J5,J0,J1,J2,reduceIte,J3,J4,reduceCtorEq]
    intro vs13 U13 hN13
    cases b with
    | some b =>
     obtain ⟨u2,w2⟩:=b
     have hex:=hI.found hne hJ.mn hbest.symm
     have hcx:codeX n next set=0:=by unfold codeX;rw [if_pos h0,hex];rfl
     have hwx:wordX n next set=w2:=by unfold wordX;rw [if_pos h0,hex];rfl
     have hw2:w2≠[]:=fun e=>by
      obtain ⟨p,hp,_,_,e2⟩:=hJ.is.1
      have h9:=hJ.ln p hp
      rw [e2] at h9
      dsimp only at h9
      rw [e] at h9;simp at h9
     simp only [besB,Bz71,yz2,yz1,yzr,go_sem,yz0,J9,J8,J6,J7,J5,J0,J1,J2,reduceIte,J3,J4,reduceCtorEq]
     intro vs14 U14 hN14
     refine ⟨.inl trivial,?_⟩
     intro hD
     refine ⟨[.tw 12 901],gwp_tw (n:=u2) rfl (by simpa using hw2) rfl fun m1=>?_⟩
     simp only [← hR,woT,woO,yz1y,yz3q,yz3p,yz3o,yz7i,wo_o,yz27,wo_st,yz3l,yz3n,yz2b,yz7w,yzh,yz2,yz1,yzr,go_sem,yz0,J9,J8,J6,J7,J5,J0,J1,J2,reduceIte,J3,J4,reduceCtorEq]
     intro vs15 U15 hN15
     simp only [← hQ,Azv,hcx,hwx,yz2,yz1,yzr,go_sem,yz0,J9,J8,J6,J7,J5,J0,J1,J2,reduceIte,J3,J4,reduceCtorEq]
     refine ⟨[901],by simp,by simp,by simp,?_⟩
     simp only [range1,Y7,rsA,AVal.fresh,freshL,AObj.fresh,id,Y1v,go_sem,yz0,J9,J8,J6,J7,J5,J0,J1,J2,reduceIte,J3,J4,reduceCtorEq]
     exact ⟨_,rfl,rfl⟩
    | none =>
     simp only [besB,Bz71,yz2,yz1,yzr,go_sem,yz0,J9,J8,J6,J7,J5,J0,J1,J2,reduceIte,J3,J4,reduceCtorEq]
     intro vs14 U14 hN14 hD
     refine ⟨[],?_⟩
     have h00:Int.toNat 0=0:=rfl
     simp only [yzh,Bzdu,St.bound,Y1u,h00,List.take_zero,List.drop_zero,Nat.zero_mul,Y1j,yz2,yz1,yzr,go_sem,yz0,J9,J8,J6,J7,J5,J0,J1,J2,reduceIte,J3,J4,reduceCtorEq]
     intro vs15 U15 hN15
     obtain ⟨z1,z2,z3⟩:=tW_zip hJ.pa
     have hAl:As.length≤1024:=by
      have hN:2 ^ n.toNat≤1024:=Y1k (n:=2) (by omega) (show n.toNat≤10 by omega)
      have h2:=yzfm hJ.mn.nd (Ya (2 ^ n.toNat)) fun x hx=>by
       obtain ⟨p,hp,rfl⟩:=Y3.1 hx
       obtain ⟨q,hq,x,hx,rfl⟩:=candL_mem.1 (hJ.mn.sub p hp).1
       exact Ym.2 yz3j
      rw [Y6,List.length_range] at h2
      omega
     have hRl:((As.map (·.1)).zip pa).length=As.length:=by
      have:=congrArg Yf z1
      simpa [tW] using this
     generalize hR0:(As.map (·.1)).zip pa=R0 at z1 z2 z3 hRl
     have hRk:R0.map (·.1)=As.map (·.1):=by rw [← z1];simp [tW]
     rw [← z3,← z2]
     have hRn:(R0.map (·.1)).Nodup:=by rw [hRk];exact hJ.mn.nd
     simp only [Bzdt,yz2,yz1,yzr,go_sem,yz0,J9,J8,J6,J7,J5,J0,J1,J2,reduceIte,J3,J4,reduceCtorEq]
     intro vs16 U16 hN16
     simp only [Bzds,yz2,yz1,yzr,go_sem,yz0,J9,J8,J6,J7,J5,J0,J1,J2,reduceIte,J3,J4,reduceCtorEq]
     refine wpD_lm1 (fun (_,_,_,rem,_)=>rem.length) (fun (_,_,_,rem,dn)=>(dn ++ rem).Perm R0)
      (fun ((v43,vi,cur,rem,dn):Nat×Nat×Option (Nat×Nat×List Int)×List (Nat×Nat×List Int)×List (Nat×Nat×List Int))=>⟨L .any [(2,.ptr 2 (vs0 0 0) 0),(7,.own 32 v),(8,iv (hvy (wghL n next) set)),(9,.mp 36 (vs5 0 0)),(10,.own 43 v43),(121,.own 121 vi)],
       L .gone [(2,.box (vs0 0 0) [iv n,.ro none 1 (rwn next)]),(32,.row v 1 true (ints (wghL n next))),(36,.map (vs5 0 0) (keysF (W ++ tW dn)) (rwp (pw ++ tP dn))),(39,.gone),(43,.row v43 1 true (intsK .u64 (setsI (tW dn)))),(121,.it vi (some (cur.isSome,keysR (cur.toList ++ rem),rwp (tP (cur.toList ++ rem))))),(133,.gone),(5000,.gone),(5001,.gone),(901,.gone)]⟩)
      (_,_,none,R0,[]) (.refl _) (fun u=>by
       have q1:tW []=[]:=rfl
       have q2:tP []=[]:=rfl
       simp only [Bz73,q1,q2,List.append_nil,yz9z,yz2,yz1,go_sem,yz0,J9,J8,J6,J7,J5,J0,J1,J2,reduceIte,J3,J4,reduceCtorEq];rfl) ?_
     rintro ⟨v43,vi,cur,rem,dn⟩ hP
     have hP:(dn ++ rem).Perm R0:=hP
     generalize hR4:loopQ _ _=R4
     simp only [Bz73,itT_R1,itT_R2,yz2,yz1,go_sem,yz0,J9,J8,J6,J7,J5,J0,J1,J2,reduceIte,J3,J4,reduceCtorEq]
     intro vs17 U17 hN17
     refine ⟨fun h9=>?_,fun j key AA h1 h2=>?_⟩
     ·have h9:=keysR_nil h9
      subst h9
      rw [List.append_nil] at hP
      simp only [← hR4,← hR,Bz72,yz2,yz1,go_sem,yz0,J9,J8,J6,J7,J5,J0,J1,J2,reduceIte,J3,J4,reduceCtorEq]
      intros
      have hAp:(tW dn).Perm As:=by rw [← z1];exact hP.map _
      obtain ⟨hI2,hlt2⟩:=hI.next hne hJ.mn hbest.symm hAp (pA:=tP dn) (by simp [tP,tW])
      exact ⟨f - 1,hlt2,(v43,f - 1,_,_,tW dn,W ++ tW dn,pw ++ tP dn),rfl,hI2,rfl⟩
     ·obtain ⟨⟨k3,u3,w3⟩,hj,rfl,rfl⟩:=getR h1 h2
      have hjl:=(Yn.1 hj).1
      have hjg:=(Yn.1 hj).2
      have hle:(rem.eraseIdx j).length<rem.length:=by
       rw [List.length_eraseIdx_of_lt hjl];omega
      have hper:(dn ++ [(k3,u3,w3)] ++ rem.eraseIdx j).Perm R0:=by
       refine List.Perm.trans ?_ hP
       rw [Y13]
       refine List.Perm.append_left dn ?_
       exact yz5k hj
      have hnd2:((dn ++ [(k3,u3,w3)] ++ rem.eraseIdx j).map (·.1)).Nodup:=(hper.map (·.1)).nodup_iff.2 hRn
      have hdl:dn.length<As.length:=by
       have:=hper.length_eq
       rw [Y5,Y5,Y7] at this
       omega
      have hmem:(k3,w3)∈As:=by
       rw [← z1]
       exact Y3.2 ⟨(k3,u3,w3),hper.mem_iff.1 (by simp),rfl⟩
      have hsn3:seen k3=false:=(hJ.mn.sub _ hmem).2.1
      have hha:hasT (W ++ tW dn) k3=false:=by
       rw [Bool.eq_false_iff]
       intro hc
       obtain ⟨p,hp,e⟩:=List.any_eq_true.1 hc
       have e:p.1=k3:=Nat.eq_of_beq_eq_true e
       rcases Y4.1 hp with hp | hp
       ·have:=(hI.see p.1).1 (Y3.2 ⟨p,hp,rfl⟩)
        rw [e,hsn3] at this;cases this
       ·obtain ⟨t,ht,rfl⟩:=Y3.1 hp
        rw [Y13,Yc] at hnd2
        exact (Y19.1 hnd2).2.2 t.1 (Y3.2 ⟨t,ht,rfl⟩) k3 (by simp) e
      have hj3:=yz7e 0 hha
      rw [yzbn,yzcq]
      generalize rem.eraseIdx j=rem' at hle hper
      have hdl2:(tW dn).length=dn.length:=by simp [tW]
      simp only [hj3,Bz72,Bzdr,Bzdq,Bzdp,yz2,yz1,go_sem,yz0,J9,J8,J6,J7,J5,J0,J1,J2,reduceIte,J3,J4,reduceCtorEq]
      intro vs18 U18 hN18 vs19 U19 hN19 vs20 U20 hN20
      refine ⟨⟨_,rfl,rfl⟩,by omega,?_⟩
      have g1:keysF (W ++ tW dn) ++ [Value.int .u64 (k3:Int)]=keysF (W ++ tW (dn ++ [(k3,u3,w3)])):=by simp [keysF,tW]
      have g2:rwp (pw ++ tP dn) ++ [AVal.ro (some (some (u3+1))) 1 (ints w3)]=rwp (pw ++ tP (dn ++ [(k3,u3,w3)])):=by simp [rwp,tP]
      have g3:setsI (tW dn) ++ [(k3:Int)]=setsI (tW (dn ++ [(k3,u3,w3)])):=by simp [tW]
      rw [g1,g2,g3,← hR4]
      exact ⟨rem'.length,hle,fun u=>⟨(vs20 3 0,vi,some (k3,u3,w3),rem',dn ++ [(k3,u3,w3)]),rfl,hper,rfl⟩⟩
 ·have hcx:codeX n next set=codeW n next set:=by unfold codeX;rw [if_neg h0]
  have hwx:wordX n next set=[]:=by unfold wordX;rw [if_neg h0]
  have e00:(codeW n next set != 0)=true:=by simpa using h0
  simp only [e00,Bz6t,Bz6s,yz2,yz1,go_sem,yz0,J9,J8,J6,J7,J5,J0,J1,J2,reduceIte,J3,J4,reduceCtorEq]
  intro vs2 U2 hN2 vs3 U3 hN3
  simp only [← hQ,hcx,hwx,Azv,yz2,yz1,go_sem,yz0,J9,J8,J6,J7,J5,J0,J1,J2,reduceIte,J3,J4,reduceCtorEq]
  refine ⟨[],by simp,by simp,by simp,?_⟩
  simp only [range1,Y7,rsA,AVal.fresh,freshL,AObj.fresh,id,Y1v,go_sem,yz0,J9,J8,J6,J7,J5,J0,J1,J2,reduceIte,J3,J4,reduceCtorEq]
  rw [if_neg (by simpa using h0)]
  trivial
end Go.Ab
