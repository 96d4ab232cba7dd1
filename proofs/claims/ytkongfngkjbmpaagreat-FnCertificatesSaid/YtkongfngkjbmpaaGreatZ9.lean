/- Contracts and what they lean on, part 9. Conditions: none. -/
import Derived.Test.YtkongfngkjbmpaaGreatZ8
set_option maxRecDepth 100000
set_option maxHeartbeats 4000000
set_option linter.all false
open Nat renaming reduceLeDiff → xx0, reduceMul → xx1, reduceSub → xx2, reduceEqDiff → xx3, reduceAdd → xx4, reduceLT → xx5
open Int renaming reduceToNat → xx6, reduceNeg → xx7, reduceLE → xx8, reduceLT → xx9
namespace Go.Ab
open Go.Proofs
theorem rf_L {l:List (Nat×AVal)} {h:List (Nat×AObj)} {r i q v k k' ver:Nat} {nn nn':Bool} {cs cs':List AVal} (hr:L .gone h r=.row v k nn cs) (hqr:q≠r) :
    St.rf ⟨L .any l,L .gone h⟩ r i q ver k' nn' cs'=⟨L .any l,L .gone ((r,.row v k nn (cs.set i (.ro (frNm nn' cs'.length ver) k' cs'))) :: (q,.gone) :: h)⟩:=by
  unfold St.rf
  congr 1
  funext x
  simp only [L]
  split
  · rw [hr]
  · split <;> rfl
theorem gwp_rf {gs:List GStep} {K:St→Prop} {l:List (Nat×AVal)} {h:List (Nat×AObj)} {r i q v k k' ver:Nat} {nn nn':Bool} {cs cs':List AVal} (hr:L .gone h r=.row v k nn cs)
    (hi:cs[i]?=some (.own q ver)) (hqr:q≠r) (hq:L .gone h q=.row ver k' nn' cs')
    (hk:(∀ n k'' cs'',AVal.ro (some (some (n+1))) k'' cs''∈cs→cs''≠[]→n≠ver)→gwp gs K ⟨L .any l,L .gone ((r,.row v k nn (cs.set i (.ro (frNm nn' cs'.length ver) k' cs'))) :: (q,.gone) :: h)⟩):gwp (.rf r i q :: gs) K ⟨L .any l,L .gone h⟩ :=
  ⟨v,k,nn,cs,ver,k',nn',cs',hr,hi,hqr,hq,fun hd=>by rw [rf_L hr hqr];exact hk hd⟩
theorem woL_set {A C:List (Nat×List Int)} {b:Nat×List Int} {X:AVal} (h:∀ p∈A ++ C,p.2=[]∨p.1≠b.1):(woL b.1 (rwp (A ++ b :: C))).set A.length X=rwp A ++ X :: rwp C:=by
  have e:rwp (A ++ b :: C)=rwp A ++ (.ro (some (some (b.1+1))) 1 (ints b.2)) :: rwp C:=by simp [rwp]
  have hl:(rwp A).length=A.length:=rwp_len
  have hA:=woL_rwp (n:=b.1) (ps:=A) fun p hp=>h p (List.mem_append.2 (.inl hp))
  have hC:=woL_rwp (n:=b.1) (ps:=C) fun p hp=>h p (List.mem_append.2 (.inr hp))
  have happ:∀ l l':List AVal,woL b.1 (l ++ l')=woL b.1 l ++ woL b.1 l':=by
    intro l l'
    simp only [woL_eq,List.map_append]
  rw [e,happ,hA,woL_cons,hC,List.set_append_right _ _ (by omega),hl,Nat.sub_self]
  rfl
theorem own_at {A C:List (Nat×List Int)} {X:AVal} {i:Nat} (h:i=A.length):(rwp A ++ X :: rwp C).getD i .any=X:=by
  subst h
  rw [List.getD_eq_getElem?_getD,List.getElem?_append_right (by rw [rwp_len];exact Nat.le_refl _),rwp_len];simp
theorem DJ_out {X Y:List (Nat×List Int)} {b:Nat×List Int} (h:DJ (X ++ b :: Y)) (hb:b.2≠[]):∀ p∈X ++ Y,p.2=[]∨p.1≠b.1:=by
  intro p hp
  rcases (List.pairwise_cons.1 (DJ_perm List.perm_middle h)).1 p hp with e | e | e
  · exact absurd e hb
  · exact .inl e
  · exact .inr (Ne.symm e)
theorem DJ_in {X Y:List (Nat×List Int)} {b:Nat×List Int} {u:Nat} {r:List Int} (h:DJ (X ++ b :: Y)) (hu:∀ p∈X ++ Y,p.2=[]∨p.1≠u):DJ (X ++ (u,r) :: Y) :=
  DJ_perm List.perm_middle.symm (List.pairwise_cons.2 ⟨fun p hp=>by
    rcases hu p hp with e | e
    · exact .inr (.inl e)
    · exact .inr (.inr (Ne.symm e)),(List.pairwise_cons.1 (DJ_perm List.perm_middle h)).2⟩)
theorem rwp_get {A C:List (Nat×List Int)} {b:Nat×List Int} {i:Nat} (h:i=A.length):(rwp (A ++ b :: C))[i]?=some (.ro (some (some (b.1+1))) 1 (ints b.2)):=by
  subst h
  rw [rwp,List.map_append,List.getElem?_append_right (by simp)]
  simp
theorem own_get {A C:List (Nat×List Int)} {X:AVal} {i:Nat} (h:i=A.length):(rwp A ++ X :: rwp C)[i]?=some X:=by
  subst h
  rw [List.getElem?_append_right (by rw [rwp_len];exact Nat.le_refl _),rwp_len];simp
theorem rwp_cat {A C:List (Nat×List Int)} {u:Nat} {xs:List Int}:rwp A ++ (.ro (some (some (u+1))) 1 (ints xs)) :: rwp C=rwp (A ++ (u,xs) :: C):=by simp [rwp]
theorem rwp_split {ps:List (Nat×List Int)} {k:Nat} (h:k<ps.length):∃ A b C,ps=A ++ b :: C∧A.length=k :=
  ⟨ps.take k,ps[k],ps.drop (k+1),by rw [← List.drop_eq_getElem_cons h,List.take_append_drop],by rw [List.length_take];omega⟩
theorem callHp_mrr {hp:Nat→AObj} {r d:Nat} {s:Nat→Nat} {o o1 o2:AObj} (hne:d≠r) (hne2:d+1000≠r) :
    callHp hp [r] d s [o] [o1,o2]=upd (upd (upd hp r (o.ren (rid [r] d 2) (sv hp [r] s))) d (o1.ren (rid [r] d 2) (sv hp [r] s))) (d+1000) (o2.ren (rid [r] d 2) (sv hp [r] s)):=by
  have hnew:∀ i,i<[o1,o2].length→newId d i ∉ [r]:=by
    intro i hi
    have:i=0∨i=1:=by simp at hi;omega
    rcases this with rfl | rfl
    · simpa [newId] using hne
    · simpa [newId] using hne2
  funext n
  by_cases h:n=d+1000
  · have h1:rid [r] d [o1,o2].length 6001=some n:=by rw [h];exact rid1
    rw [callHp_at (by simp) hnew h1]
    simp [upd,h,outHp]
  · by_cases h2:n=d
    · have h1:rid [r] d [o1,o2].length 6000=some n:=by rw [h2];exact rid0
      rw [callHp_at (by simp) hnew h1]
      have hne3:d≠d+1000:=by omega
      simp [upd,h2,outHp,hne3]
    · by_cases h':n=r
      · have h1:rid [r] d [o1,o2].length 5000=some n:=by rw [h'];exact rid_m (j:=0) (by omega) rfl
        rw [callHp_at (by simp) hnew h1]
        simp [upd,h',outHp,Ne.symm hne,Ne.symm hne2]
      · rw [callHp_not]
        · simp [upd,h,h2,h']
        · rintro ⟨q,hq⟩
          rcases rid_cases hq with ⟨j,rfl,_,h1⟩ | ⟨i,rfl,h1,h3⟩
          · cases j with
            | zero=>simp at h1;exact h' h1.symm
            | succ j=>simp at h1
          · have:i=0∨i=1:=by simp at h1;omega
            rcases this with rfl | rfl
            · exact h2 (by simpa [newId] using h3)
            · exact h (by simpa [newId] using h3)
theorem sv_inj {hp:Nat→AObj} {r v:Nat} {s:Nat→Nat} {cs:List AVal} (hr:hp r=.box v cs) (hs:∀ x y,s x=s y→x=y) (hv:∀ y,s y≠v):∀ x y,sv hp [r] s x=sv hp [r] s y→x=y:=by
  intro x y e
  rcases Nat.eq_zero_or_pos x with rfl | hx <;> rcases Nat.eq_zero_or_pos y with rfl | hy
  · rfl
  · rw [sv_m hr,sv_new hy] at e;exact absurd e.symm (hv y)
  · rw [sv_new hx,sv_m hr] at e;exact absurd e (hv x)
  · rw [sv_new hx,sv_new hy] at e;exact hs _ _ e
structure TwI (n m:Int) (A B:List (Nat×List Int)) (top:Int) (low:Int):Prop where
  a:∀ p∈A,(p.2.length:Int)=m∧∀ x∈p.2,0≤x∧x<top
  b:∀ p∈B,(p.2.length:Int)=n∧∀ x∈p.2,0≤x∧x<low
end Go.Ab
namespace Go.Ab
open Go.Proofs
abbrev LoR (code:List Int) (at_ k:Int) (outs rows:List AObj) (res:AVal):Prop :=
  ∃ n ps v a' s',(ps.length≤3→DJ ps)∧ps.length≤10∧-1≤n∧n≤11∧(∀ p∈ps,p.2.length≤10)∧at_≤a'∧a'≤at_+k∧outs=[.box 0 (srcC code a' s')]∧rows=[.row v 1 true (rwp ps)]∧res=.st [iv n,.own 6000 v]
theorem call_boxrowN {P:Program} {nos:List Nat} {σ:St} {g:FuncId} {As args:List AVal} {d:Nat} {s:Nat→Nat} {K:St→Prop} {r q v u:Nat} {cs cs0:List AVal} {xs:List Int} {Q:List AVal→Value→Prop}
    (h:Con P g [.box 0 cs,.row 1 1 true (ints xs)] args true fun outs rows res=>∃ cs' x,Q cs' x∧flatL cs'∧outs=[.box 0 cs',.row 1 1 true (ints xs)]∧rows=[]∧res=.val x)
    (hr:σ.hp r=.box v cs0) (hq:σ.hp q=.row u 1 true (ints xs)) (hm:r∈nos∧q∈nos) (hne:[r,q].Nodup) (hcs:CoeL σ.hp [r,q] false cs cs0) (ha:CoeL σ.hp [r,q] false args As) (hex:∃ cs' x,Q cs' x∧flatL cs')
    (hk:∀ cs' x,Q cs' x→K (St.put ⟨σ.tm,upd (upd σ.hp r (.box v cs')) q (.row u 1 true (ints xs))⟩ (some d) (.val x))):wpCallN P nos σ g As (some d) s K:=by
  refine ⟨[r,q],_,_,true,_,h,⟨by simp,rfl,hne,?_,?_⟩,ha,⟨by simp [hm.1,hm.2],?_⟩,?_⟩
  · intro x hx
    simp only [List.mem_cons,List.not_mem_nil,or_false] at hx
    rcases hx with rfl | rfl
    · simp [hr]
    · simp [hq]
  · intro j B r' hB hr'
    match j,hB,hr' with
    | 0,hB,hr' =>
      simp at hB hr';subst hB;subst hr'
      rw [hr]
      exact ⟨rfl,v,cs0,rfl,hcs⟩
    | 1,hB,hr' =>
      simp at hB hr';subst hB;subst hr'
      simp only [ObjCoe,hq]
      exact ⟨trivial,u,_,rfl,coeL_ints⟩
    | j+2,hB,hr'=>simp at hB
  · obtain ⟨cs',x,hq,hf⟩:=hex
    exact ⟨_,_,_,cs',x,hq,hf,rfl,rfl,rfl⟩
  · rintro outs rows res ⟨cs',x,hQ,hf,rfl,rfl,rfl⟩
    refine ⟨rfl,rfl,?_⟩
    have s0:sv σ.hp [r,q] s 0=v:=by simp [sv,hr,AObj.ver]
    have s1:sv σ.hp [r,q] s 1=u:=by simp [sv,hq,AObj.ver]
    rw [Option.getD_some,callHp_h2 hne]
    simp only [yzp,yzs,renL_flat cs' hf,yz4,yz15,s0,s1]
    exact hk cs' x hQ
theorem k_l01Bent (code:List Int) (at_ seed:Int) (hb:∀ x∈code,0≤x∧x≤255) (ha:0≤at_∧at_≤100000) :
    Con Tryz.prog nz63 [.box 0 (srcC code at_ seed)] [.ptr 5000 0 0] true (LoR code at_ 3000):=by
  refine con_shE mixed czr4 rfl (by simp) ?_
  generalize hQ:finQ _=Q
  have h12:∀ (σ:St) (v2 v3:Nat) (r v:Nat) (o6 o10 o61 o73 o77:AObj) (a s n:Int) (ps:List (Nat×List Int)),
      (ps.length≤3→DJ ps)→ps.length≤10→-1≤n∧n≤11→(∀ p∈ps,p.2.length≤10)→at_≤a∧a≤at_+3000 →
      (r=6∧o6=.row v 1 true (rwp ps)∨r=10∧o10=.row v 1 true (rwp ps)∨r=77∧o77=.row v 1 true (rwp ps)) →
      σ.keep [2,3] [2,3,6,10,61,73,77,5000,901]=⟨L .any [(2,.ptr 2 v2 0),(3,.ptr 3 v3 0)],
        L .gone [(2,.box v2 [iv 0,.val (.slice none 0 0)]),(3,.box v3 [iv n,.own r v]),(6,o6),(10,o10),(61,o61),(73,o73),(77,o77),(5000,.box 0 (srcC code a s)),(901,.gone)]⟩ →
      wpD Tryz.prog Bz1u Q σ:=by
    intro σ v2 v3 r v o6 o10 o61 o73 o77 a s n ps hd hl hn hr ha' hrv hS
    unfold Bz1u
    rw [yzw,hS]
    simp only [wpD_gh]
    intro _
    refine ⟨[],?_⟩
    rcases hrv with ⟨rfl,rfl⟩ | ⟨rfl,rfl⟩ | ⟨rfl,rfl⟩
    · simp only [gwp_nil,yzw,yz2,go_sem,yz0,xx9,xx8,xx6,xx7,xx5,xx0,xx1,xx2,reduceIte,xx3,xx4,reduceCtorEq]
      intro vs U hN
      simp only [← hQ,Azu,go_sem,yz0,xx9,xx8,xx6,xx7,xx5,xx0,xx1,xx2,reduceIte,xx3,xx4,reduceCtorEq]
      refine ⟨[6],by simp,by simp,by simp,?_⟩
      simp only [range1,List.length_singleton,renL_rwp,Nat.not_lt_zero,range1,yz15,yz1a,yz1l,yz1k,yz19,yz1n,yz1m,yz1j,yz17,yzv,yzf,yz4,yzy,yz11,yzs,yzp,yzz,yz8,yzd,yz9,yzb,yzi,yzh,yz3,yz7,yze,yzc,yzj,yzk,List.range_zero,yz6,yz5,yza,yz10,yzl,yzu,AVal.fresh,freshL,yz1,yzg,AObj.fresh,id,Option.isSome_some,or_true,true_or,go_sem,yz0,xx9,xx8,xx6,xx7,xx5,xx0,xx1,xx2,reduceIte,xx3,xx4,reduceCtorEq]
      exact ⟨n,ps,v,a,s,hd,hl,hn.1,hn.2,hr,ha'.1,ha'.2,rfl,by simp,rfl⟩
    · simp only [gwp_nil,yzw,yz2,go_sem,yz0,xx9,xx8,xx6,xx7,xx5,xx0,xx1,xx2,reduceIte,xx3,xx4,reduceCtorEq]
      intro vs U hN
      simp only [← hQ,Azu,go_sem,yz0,xx9,xx8,xx6,xx7,xx5,xx0,xx1,xx2,reduceIte,xx3,xx4,reduceCtorEq]
      refine ⟨[10],by simp,by simp,by simp,?_⟩
      simp only [range1,List.length_singleton,renL_rwp,Nat.not_lt_zero,range1,yz15,yz1a,yz1l,yz1k,yz19,yz1n,yz1m,yz1j,yz17,yzv,yzf,yz4,yzy,yz11,yzs,yzp,yzz,yz8,yzd,yz9,yzb,yzi,yzh,yz3,yz7,yze,yzc,yzj,yzk,List.range_zero,yz6,yz5,yza,yz10,yzl,yzu,AVal.fresh,freshL,yz1,yzg,AObj.fresh,id,Option.isSome_some,or_true,true_or,go_sem,yz0,xx9,xx8,xx6,xx7,xx5,xx0,xx1,xx2,reduceIte,xx3,xx4,reduceCtorEq]
      exact ⟨n,ps,v,a,s,hd,hl,hn.1,hn.2,hr,ha'.1,ha'.2,rfl,by simp,rfl⟩
    · simp only [gwp_nil,yzw,yz2,go_sem,yz0,xx9,xx8,xx6,xx7,xx5,xx0,xx1,xx2,reduceIte,xx3,xx4,reduceCtorEq]
      intro vs U hN
      simp only [← hQ,Azu,go_sem,yz0,xx9,xx8,xx6,xx7,xx5,xx0,xx1,xx2,reduceIte,xx3,xx4,reduceCtorEq]
      refine ⟨[77],by simp,by simp,by simp,?_⟩
      simp only [range1,List.length_singleton,renL_rwp,Nat.not_lt_zero,range1,yz15,yz1a,yz1l,yz1k,yz19,yz1n,yz1m,yz1j,yz17,yzv,yzf,yz4,yzy,yz11,yzs,yzp,yzz,yz8,yzd,yz9,yzb,yzi,yzh,yz3,yz7,yze,yzc,yzj,yzk,List.range_zero,yz6,yz5,yza,yz10,yzl,yzu,AVal.fresh,freshL,yz1,yzg,AObj.fresh,id,Option.isSome_some,or_true,true_or,go_sem,yz0,xx9,xx8,xx6,xx7,xx5,xx0,xx1,xx2,reduceIte,xx3,xx4,reduceCtorEq]
      exact ⟨n,ps,v,a,s,hd,hl,hn.1,hn.2,hr,ha'.1,ha'.2,rfl,by simp,rfl⟩
  have h12b:∀ (σ:St) (v2 v3 r v m:Nat) (o6 o10:AObj) (a s n:Int) (A2 C2:List (Nat×List Int)) (b:Nat×List Int) (cur:List Int),
      DJ (A2 ++ b :: C2)→(A2 ++ b :: C2).length≤10→-1≤n∧n≤11→(∀ p∈A2 ++ C2,p.2.length≤10)→cur.length≤10→at_≤a∧a≤at_+3000 →
      (r=6∧o6=.row v 1 true (rwp A2 ++ .own 901 m :: rwp C2)∨r=10∧o10=.row v 1 true (rwp A2 ++ .own 901 m :: rwp C2)) →
      σ.keep [2,3] [2,3,6,10,61,73,77,5000,901]=⟨L .any [(2,.ptr 2 v2 0),(3,.ptr 3 v3 0)],
        L .gone [(2,.box v2 [iv 0,.val (.slice none 0 0)]),(3,.box v3 [iv n,.own r v]),(6,o6),(10,o10),(61,.gone),(73,.gone),(77,.gone),(5000,.box 0 (srcC code a s)),(901,.row m 1 true (ints cur))]⟩ →
      wpD Tryz.prog Bz1u Q σ:=by
    intro σ v2 v3 r v m o6 o10 a s n A2 C2 b cur hd hl hn hr hc ha' hrv hS
    unfold Bz1u
    rw [yzw,hS]
    simp only [wpD_gh]
    intro hD
    have hset4:∀ X:AVal,(rwp A2 ++ AVal.own 901 m :: rwp C2).set A2.length X=rwp A2 ++ X :: rwp C2:=fun X=>by
      rw [List.set_append_right _ _ (by rw [rwp_len];exact Nat.le_refl _),rwp_len,Nat.sub_self];rfl
    rw [List.length_append,List.length_cons] at hl
    have key:(∀ n k'' cs'',AVal.ro (some (some (n+1))) k'' cs''∈rwp A2 ++ AVal.own 901 m :: rwp C2→cs''≠[]→n≠m)→DJ (A2 ++ (m,cur) :: C2):=fun hf=>DJ_in hd fun p hp=>by
      by_cases e:p.2=[]
      · exact .inl e
      · refine .inr (hf p.1 1 (ints p.2) ?_ (by simpa using e))
        rcases List.mem_append.1 hp with h | h
        · exact List.mem_append.2 (.inl (List.mem_map.2 ⟨p,h,rfl⟩))
        · exact List.mem_append.2 (.inr (List.mem_cons.2 (.inr (List.mem_map.2 ⟨p,h,rfl⟩))))
    have hr2:∀ p∈A2 ++ (m,cur) :: C2,p.2.length≤10:=fun p hp=>by
      simp only [List.mem_append,List.mem_cons] at hp
      rcases hp with h | rfl | h
      · exact hr p (by simp [h])
      · exact hc
      · exact hr p (by simp [h])
    rcases hrv with ⟨rfl,rfl⟩ | ⟨rfl,rfl⟩
    · refine ⟨[.rf 6 A2.length 901],gwp_rf (k:=1) (nn:=true) rfl (own_get rfl) (by decide) rfl fun hf=>?_⟩
      have D1:=key hf
      simp only [hset4,frNm_t,rwp_cat,gwp_nil,yzw,yz2,go_sem,yz0,xx9,xx8,xx6,xx7,xx5,xx0,xx1,xx2,reduceIte,xx3,xx4,reduceCtorEq]
      intro vs U hN
      simp only [← hQ,Azu,go_sem,yz0,xx9,xx8,xx6,xx7,xx5,xx0,xx1,xx2,reduceIte,xx3,xx4,reduceCtorEq]
      refine ⟨[6],by simp,by simp,by simp,?_⟩
      simp only [range1,List.length_singleton,renL_rwp,Nat.not_lt_zero,range1,yz15,yz1a,yz1l,yz1k,yz19,yz1n,yz1m,yz1j,yz17,yzv,yzf,yz4,yzy,yz11,yzs,yzp,yzz,yz8,yzd,yz9,yzb,yzi,yzh,yz3,yz7,yze,yzc,yzj,yzk,List.range_zero,yz6,yz5,yza,yz10,yzl,yzu,AVal.fresh,freshL,yz1,yzg,AObj.fresh,id,Option.isSome_some,or_true,true_or,go_sem,yz0,xx9,xx8,xx6,xx7,xx5,xx0,xx1,xx2,reduceIte,xx3,xx4,reduceCtorEq]
      exact ⟨n,A2 ++ (m,cur) :: C2,v,a,s,fun _=>D1,by simp;omega,hn.1,hn.2,hr2,ha'.1,ha'.2,rfl,by simp,rfl⟩
    · refine ⟨[.rf 10 A2.length 901],gwp_rf (k:=1) (nn:=true) rfl (own_get rfl) (by decide) rfl fun hf=>?_⟩
      have D1:=key hf
      simp only [hset4,frNm_t,rwp_cat,gwp_nil,yzw,yz2,go_sem,yz0,xx9,xx8,xx6,xx7,xx5,xx0,xx1,xx2,reduceIte,xx3,xx4,reduceCtorEq]
      intro vs U hN
      simp only [← hQ,Azu,go_sem,yz0,xx9,xx8,xx6,xx7,xx5,xx0,xx1,xx2,reduceIte,xx3,xx4,reduceCtorEq]
      refine ⟨[10],by simp,by simp,by simp,?_⟩
      simp only [range1,List.length_singleton,renL_rwp,Nat.not_lt_zero,range1,yz15,yz1a,yz1l,yz1k,yz19,yz1n,yz1m,yz1j,yz17,yzv,yzf,yz4,yzy,yz11,yzs,yzp,yzz,yz8,yzd,yz9,yzb,yzi,yzh,yz3,yz7,yze,yzc,yzj,yzk,List.range_zero,yz6,yz5,yza,yz10,yzl,yzu,AVal.fresh,freshL,yz1,yzg,AObj.fresh,id,Option.isSome_some,or_true,true_or,go_sem,yz0,xx9,xx8,xx6,xx7,xx5,xx0,xx1,xx2,reduceIte,xx3,xx4,reduceCtorEq]
      exact ⟨n,A2 ++ (m,cur) :: C2,v,a,s,fun _=>D1,by simp;omega,hn.1,hn.2,hr2,ha'.1,ha'.2,rfl,by simp,rfl⟩
  have h4:∀ (σ:St) (v2 v3:Nat) (r v:Nat) (o6 o10:AObj) (a s n:Int) (ps:List (Nat×List Int)),
      Aut n (ps.map (·.2))→DJ ps→at_≤a∧a≤at_+2500→(r=6∧o6=.row v 1 true (rwp ps)∨r=10∧o10=.row v 1 true (rwp ps)) →
      σ.keep [0,2,3] [2,3,6,10,61,73,77,5000,901]=⟨L .any [(0,.ptr 5000 0 0),(2,.ptr 2 v2 0),(3,.ptr 3 v3 0)],
        L .gone [(2,.box v2 [iv 0,.val (.slice none 0 0)]),(3,.box v3 [iv n,.own r v]),(6,o6),(10,o10),(61,.gone),(73,.gone),(77,.gone),(5000,.box 0 (srcC code a s)),(901,.gone)]⟩ →
      wpD Tryz.prog Bzao Q σ:=by
    intro σ v2 v3 r v o6 o10 a s n ps A hd ha' hrv hS
    unfold Bzao
    rw [yzw,hS]
    have l1:=A.l1
    have l2:=A.l2
    have n1:=A.n1
    have n2:=A.n2
    rw [List.length_map] at l1 l2
    rcases hrv with ⟨rfl,rfl⟩ | ⟨rfl,rfl⟩
    · simp only [rwp_len,yzw,yz2,go_sem,yz0,xx9,xx8,xx6,xx7,xx5,xx0,xx1,xx2,reduceIte,xx3,xx4,reduceCtorEq]
      intro vs U hN hM
      refine call_funB (k_pick code a s ps.length hb (by omega)) rfl qCS qCS ?_
      rintro cs' x ⟨a1,s1,at1,rfl,e1,e2,rfl,e3,e4⟩
      have hat:at1.toNat<ps.length:=by omega
      simp only [Bzan,yzw,yz2,go_sem,yz0,xx9,xx8,xx6,xx7,xx5,xx0,xx1,xx2,reduceIte,xx3,xx4,reduceCtorEq]
      intro vs1 U1 hN1
      refine call_funB (k_pick code a1 s1 24 hb (by omega)) rfl qCS qCS ?_
      rintro cs' x ⟨a2,s2,kd,rfl,f1,f2,rfl,f3,f4⟩
      have hps:∀ p∈ps,p.2.length≤10:=fun p hp=>by have:=(A.row p.2 (List.mem_map.2 ⟨p,hp,rfl⟩)).1;omega
      by_cases k0:kd=0
      · subst k0
        have w1:IntKind.i64.wrap (n+1)=n+1:=w64 (by omega)
        simp only [Bz2,Bz1,w1,beq_self_eq_true,yzw,yz2,go_sem,yz0,xx9,xx8,xx6,xx7,xx5,xx0,xx1,xx2,reduceIte,xx3,xx4,reduceCtorEq]
        intro vs2 U2 hN2 vs3 U3 hN3
        refine ⟨⟨⟨_,rfl,rfl⟩,⟨_,rfl,rfl⟩,⟨_,rfl,rfl⟩,_,rfl,rfl⟩,?_⟩
        refine call_boxrow (r:=5000) (q:=24) (k_among code a2 s2 [0,-1,n+1,11] hb (by omega) (by simp)) rfl rfl (by decide) qCS (by simp only [yzm,yz14,and_true,Coe];exact ⟨⟨0,_,_,rfl,rfl,rfl,rfl,rfl⟩,1,_,_,rfl,rfl,rfl,rfl,rfl⟩) ?_
        rintro cs' x ⟨a3,s3,b3,rfl,g3,g4,rfl,g5⟩
        have hb3:-1≤b3∧b3≤11:=by simp at g5;omega
        simp only [go_sem,yz0,xx9,xx8,xx6,xx7,xx5,xx0,xx1,xx2,reduceIte,xx3,xx4,reduceCtorEq]
        exact h12 _ v2 v3 6 v _ o10 .gone .gone .gone a3 s3 b3 ps (fun _=>hd) (by omega) hb3 hps (by omega) (.inl ⟨rfl,rfl⟩) (by simp only [go_sem,yz0,xx9,xx8,xx6,xx7,xx5,xx0,xx1,xx2,reduceIte,xx3,xx4,reduceCtorEq];try rfl)
      by_cases k1:kd=1
      · subst k1
        simp only [beq_false_of_ne (show (1:Int)≠0 by omega),Bz2,Bz1,Bz8,rwp_getD hat,St.bound,List.take_length,beq_self_eq_true,yzw,yz2,go_sem,yz0,xx9,xx8,xx6,xx7,xx5,xx0,xx1,xx2,reduceIte,xx3,xx4,reduceCtorEq]
        intro _ _ _ _ _ _ vs4 U4 hN4
        have hlw:(rwp ps).length=ps.length:=rwp_len
        have hrl:=(A.row _ (List.mem_map.2 ⟨_,yz1f hat (0,[]),rfl⟩)).1
        refine ⟨⟨e3,by omega⟩,by omega,⟨by omega,Nat.le_refl _⟩,⟨e3,by omega⟩,by omega,?_⟩
        have ed:List.drop 1 (ints (ps.getD at1.toNat (0,[])).2)=ints ((ps.getD at1.toNat (0,[])).2.drop 1):=by simp only [List.map_drop]
        rw [ed,rwp_putN (p:=((ps.getD at1.toNat (0,[])).1,(ps.getD at1.toNat (0,[])).2.drop 1))]
        have hlp:(ps.take at1.toNat ++ [((ps.getD at1.toNat (0,[])).1,(ps.getD at1.toNat (0,[])).2.drop 1)] ++ ps.drop (at1.toNat+1)).length=ps.length:=by
          simp only [List.length_append,List.length_take,List.length_drop,List.length_singleton];omega
        exact h12 _ v2 v3 6 v _ o10 .gone .gone .gone a2 s2 n _ (fun _=>DJ_set (xs:=(ps.getD at1.toNat (0,[])).2.drop 1) hat hd fun e=>by rw [e];rfl) (by rw [hlp];omega) (by omega) (fun p hp=>by
          simp only [List.mem_append,List.mem_singleton] at hp
          rcases hp with (hp | rfl) | hp
          · exact hps p (List.mem_of_mem_take hp)
          · have:=hps _ (yz1f hat (0,[]));simp only [List.length_drop];omega
          · exact hps p (List.mem_of_mem_drop hp)) (by omega) (.inl ⟨rfl,rfl⟩) (by simp only [go_sem,yz0,xx9,xx8,xx6,xx7,xx5,xx0,xx1,xx2,reduceIte,xx3,xx4,reduceCtorEq];try rfl)
      by_cases k2:kd=2
      · subst k2
        obtain ⟨A2,b,C2,rfl,hAk⟩:=rwp_split hat
        have hbr:=A.row b.2 (by simp)
        have hbn:b.2≠[]:=fun e=>by rw [e] at hbr;simp at hbr;omega
        have hbl:0<b.2.length:=by omega
        have F0:=DJ_out hd hbn
        have F0a:∀ p∈A2 ++ C2,p.2=[]∨p.1≠b.1:=F0
        simp only [beq_false_of_ne (show (2:Int)≠0 by omega),beq_false_of_ne (show (2:Int)≠1 by omega),Bz2,Bz1,Bz8,yzw,yz2,go_sem,yz0,xx9,xx8,xx6,xx7,xx5,xx0,xx1,xx2,reduceIte,xx3,xx4,reduceCtorEq]
        intro _ _ _ _ _ _ _ _ _
        simp only [beq_self_eq_true,Bza,yzw,wpD_gh,go_sem,yz0,xx9,xx8,xx6,xx7,xx5,xx0,xx1,xx2,reduceIte,xx3,xx4,reduceCtorEq]
        intro _
        refine ⟨[.thaw 6 at1.toNat 901],gwp_thaw (n:=b.1) rfl (rwp_get hAk.symm) (by simpa using hbn) rfl fun m1=>?_⟩
        have hset:(woL b.1 (rwp (A2 ++ b :: C2))).set at1.toNat (AVal.own 901 m1)=rwp A2 ++ AVal.own 901 m1 :: rwp C2:=by rw [← hAk];exact woL_set F0a
        have ho1:(rwp A2 ++ AVal.own 901 m1 :: rwp C2).getD at1.toNat .any=.own 901 m1:=own_at hAk.symm
        have hol:(rwp A2 ++ AVal.own 901 m1 :: rwp C2).length=A2.length+(C2.length+1):=by rw [List.length_append,List.length_cons,rwp_len,rwp_len]
        have hkl:at1.toNat<(rwp A2 ++ AVal.own 901 m1 :: rwp C2).length:=by omega
        simp only [hset,woT,woO,woL_cons,woL_nil,woV_val,woV_own,wo_ptr,wo_o,woL_ints,wo_st,woO_row,woO_box,woO_gone,wo_any,gwp_nil,yzw,yz2,go_sem,yz0,xx9,xx8,xx6,xx7,xx5,xx0,xx1,xx2,reduceIte,xx3,xx4,reduceCtorEq]
        intro vs4 U4 hN4
        simp only [ho1,go_sem,yz0,xx9,xx8,xx6,xx7,xx5,xx0,xx1,xx2,reduceIte,xx3,xx4,reduceCtorEq]
        refine ⟨⟨e3,hkl⟩,hkl,⟨⟨_,rfl,rfl⟩,_,rfl,rfl⟩,?_⟩
        refine call_boxrowN (r:=5000) (q:=49) (cs0:=srcC code a2 s2) (k_among code a2 s2 [-1,n] hb (by omega) (by simp)) rfl rfl (by simp) (by decide) qCS (by simp only [yzm,yz14,and_true,Coe];exact ⟨⟨0,_,_,rfl,rfl,rfl,rfl,rfl⟩,1,_,_,rfl,rfl,rfl,rfl,rfl⟩) ⟨srcC code a2 0,.int .i64 n,⟨a2,0,n,rfl,by omega,by omega,rfl,by simp⟩,flat_srcC⟩ ?_
        rintro cs' x ⟨a3,s3,b3,rfl,g3,g4,rfl,g5⟩
        simp only [yzw,yz2,go_sem,yz0,xx9,xx8,xx6,xx7,xx5,xx0,xx1,xx2,reduceIte,xx3,xx4,reduceCtorEq]
        refine ⟨hbl,hbl,?_⟩
        have ed:AVal.val (.int .i64 b3) :: List.drop 1 (ints b.2)=ints (b3 :: b.2.drop 1):=by simp [List.map_drop]
        rw [ed]
        exact h12b _ v2 v3 6 v m1 _ (AObj.wo b.1 o10) a3 s3 n A2 C2 b (b3 :: b.2.drop 1) hd (by omega) (by omega) (fun p hp=>hps p (by simp only [List.mem_append,List.mem_cons] at hp ⊢;rcases hp with h | h <;> simp [h])) (by simp only [List.length_cons,List.length_drop];omega) (by omega) (.inl ⟨rfl,rfl⟩) (by simp only [go_sem,yz0,xx9,xx8,xx6,xx7,xx5,xx0,xx1,xx2,reduceIte,xx3,xx4,reduceCtorEq];try rfl)
      by_cases k3:kd=3
      · subst k3
        have h00:0<ps.length:=by omega
        simp only [beq_false_of_ne (show (3:Int)≠0 by omega),beq_false_of_ne (show (3:Int)≠1 by omega),Bz2,Bz1,Bz8,yzw,yz2,go_sem,yz0,xx9,xx8,xx6,xx7,xx5,xx0,xx1,xx2,reduceIte,xx3,xx4,reduceCtorEq]
        intro _ _ _ _ _ _ _ _ _
        simp only [beq_false_of_ne (show (3:Int)≠2 by omega),Bza,yzw,wpD_gh,go_sem,yz0,xx9,xx8,xx6,xx7,xx5,xx0,xx1,xx2,reduceIte,xx3,xx4,reduceCtorEq]
        intro _
        refine ⟨[],?_⟩
        simp only [beq_self_eq_true,Bzt,rwp_getD h00,gwp_nil,yzw,yz2,go_sem,yz0,xx9,xx8,xx6,xx7,xx5,xx0,xx1,xx2,reduceIte,xx3,xx4,reduceCtorEq]
        intro _ _ _ vs9 U9 hN9
        have hlw:(rwp ps).length=ps.length:=rwp_len
        refine ⟨by omega,by omega,by omega,by omega,by omega,by omega,by omega,by rw [List.length_append,List.length_singleton];omega,?_⟩
        generalize hp0:ps.getD 0 (0,[])=p0
        have hp0m:p0∈ps:=hp0 ▸ yz1f h00 (0,[])
        have e5:rwp ps ++ [AVal.ro (some (some (p0.1+1))) 1 (ints p0.2)] ++ [AVal.ro (some (some (p0.1+1))) 1 (ints p0.2),AVal.ro (some (some (p0.1+1))) 1 (ints p0.2)]=rwp (ps ++ [p0] ++ [p0,p0]):=by simp only [rwp,List.map_append,List.map_cons,List.map_nil]
        rw [e5]
        have hl6:(ps ++ [p0] ++ [p0,p0]).length=ps.length+3:=by simp
        exact h12 _ v2 v3 6 (vs9 19 0) _ o10 .gone .gone .gone a2 s2 n (ps ++ [p0] ++ [p0,p0]) (fun h=>absurd h (by omega)) (by omega) (by omega) (fun p hp=>by
          simp only [List.mem_append,List.mem_cons,List.not_mem_nil,or_false] at hp
          rcases hp with (hp | rfl) | rfl | rfl
          · exact hps p hp
          · exact hps _ hp0m
          · exact hps _ hp0m
          · exact hps _ hp0m) (by omega) (.inl ⟨rfl,rfl⟩) (by simp only [go_sem,yz0,xx9,xx8,xx6,xx7,xx5,xx0,xx1,xx2,reduceIte,xx3,xx4,reduceCtorEq];try rfl)
      by_cases k4:kd=4
      · subst k4
        simp only [beq_false_of_ne (show (4:Int)≠0 by omega),beq_false_of_ne (show (4:Int)≠1 by omega),Bz2,Bz1,Bz8,yzw,yz2,go_sem,yz0,xx9,xx8,xx6,xx7,xx5,xx0,xx1,xx2,reduceIte,xx3,xx4,reduceCtorEq]
        intro _ _ _ _ _ _ _ _ _
        simp only [beq_false_of_ne (show (4:Int)≠2 by omega),Bza,yzw,wpD_gh,go_sem,yz0,xx9,xx8,xx6,xx7,xx5,xx0,xx1,xx2,reduceIte,xx3,xx4,reduceCtorEq]
        intro _
        refine ⟨[],?_⟩
        simp only [beq_false_of_ne (show (4:Int)≠3 by omega),Bzt,Bz1t,beq_self_eq_true,gwp_nil,yzw,yz2,go_sem,yz0,xx9,xx8,xx6,xx7,xx5,xx0,xx1,xx2,reduceIte,xx3,xx4,reduceCtorEq]
        intro _ _ _ _ _ _ vs9 U9 hN9
        exact h12 _ v2 v3 77 (vs9 0 0) _ o10 .gone .gone _ a2 s2 n [] (fun _=>by simp [DJ]) (by simp) (by omega) (by simp) (by omega) (.inr (.inr ⟨rfl,rfl⟩)) (by simp only [rwp_nil,go_sem,yz0,xx9,xx8,xx6,xx7,xx5,xx0,xx1,xx2,reduceIte,xx3,xx4,reduceCtorEq];try rfl)
      simp only [beq_false_of_ne k0,beq_false_of_ne k1,Bz2,Bz1,Bz8,yzw,yz2,go_sem,yz0,xx9,xx8,xx6,xx7,xx5,xx0,xx1,xx2,reduceIte,xx3,xx4,reduceCtorEq]
      intro _ _ _ _ _ _ _ _ _
      simp only [beq_false_of_ne k2,Bza,yzw,wpD_gh,go_sem,yz0,xx9,xx8,xx6,xx7,xx5,xx0,xx1,xx2,reduceIte,xx3,xx4,reduceCtorEq]
      intro _
      refine ⟨[],?_⟩
      simp only [beq_false_of_ne k3,beq_false_of_ne k4,Bzt,Bz1t,gwp_nil,yzw,yz2,go_sem,yz0,xx9,xx8,xx6,xx7,xx5,xx0,xx1,xx2,reduceIte,xx3,xx4,reduceCtorEq]
      intro _ _ _ _ _ _
      exact h12 _ v2 v3 6 v _ o10 .gone .gone .gone a2 s2 n ps (fun _=>hd) (by omega) (by omega) hps (by omega) (.inl ⟨rfl,rfl⟩) (by simp only [go_sem,yz0,xx9,xx8,xx6,xx7,xx5,xx0,xx1,xx2,reduceIte,xx3,xx4,reduceCtorEq];try rfl)
    · simp only [rwp_len,yzw,yz2,go_sem,yz0,xx9,xx8,xx6,xx7,xx5,xx0,xx1,xx2,reduceIte,xx3,xx4,reduceCtorEq]
      intro vs U hN hM
      refine call_funB (k_pick code a s ps.length hb (by omega)) rfl qCS qCS ?_
      rintro cs' x ⟨a1,s1,at1,rfl,e1,e2,rfl,e3,e4⟩
      have hat:at1.toNat<ps.length:=by omega
      simp only [Bzan,yzw,yz2,go_sem,yz0,xx9,xx8,xx6,xx7,xx5,xx0,xx1,xx2,reduceIte,xx3,xx4,reduceCtorEq]
      intro vs1 U1 hN1
      refine call_funB (k_pick code a1 s1 24 hb (by omega)) rfl qCS qCS ?_
      rintro cs' x ⟨a2,s2,kd,rfl,f1,f2,rfl,f3,f4⟩
      have hps:∀ p∈ps,p.2.length≤10:=fun p hp=>by have:=(A.row p.2 (List.mem_map.2 ⟨p,hp,rfl⟩)).1;omega
      by_cases k0:kd=0
      · subst k0
        have w1:IntKind.i64.wrap (n+1)=n+1:=w64 (by omega)
        simp only [Bz2,Bz1,w1,beq_self_eq_true,yzw,yz2,go_sem,yz0,xx9,xx8,xx6,xx7,xx5,xx0,xx1,xx2,reduceIte,xx3,xx4,reduceCtorEq]
        intro vs2 U2 hN2 vs3 U3 hN3
        refine ⟨⟨⟨_,rfl,rfl⟩,⟨_,rfl,rfl⟩,⟨_,rfl,rfl⟩,_,rfl,rfl⟩,?_⟩
        refine call_boxrow (r:=5000) (q:=24) (k_among code a2 s2 [0,-1,n+1,11] hb (by omega) (by simp)) rfl rfl (by decide) qCS (by simp only [yzm,yz14,and_true,Coe];exact ⟨⟨0,_,_,rfl,rfl,rfl,rfl,rfl⟩,1,_,_,rfl,rfl,rfl,rfl,rfl⟩) ?_
        rintro cs' x ⟨a3,s3,b3,rfl,g3,g4,rfl,g5⟩
        have hb3:-1≤b3∧b3≤11:=by simp at g5;omega
        simp only [go_sem,yz0,xx9,xx8,xx6,xx7,xx5,xx0,xx1,xx2,reduceIte,xx3,xx4,reduceCtorEq]
        exact h12 _ v2 v3 10 v o6 _ .gone .gone .gone a3 s3 b3 ps (fun _=>hd) (by omega) hb3 hps (by omega) (.inr (.inl ⟨rfl,rfl⟩)) (by simp only [go_sem,yz0,xx9,xx8,xx6,xx7,xx5,xx0,xx1,xx2,reduceIte,xx3,xx4,reduceCtorEq];try rfl)
      by_cases k1:kd=1
      · subst k1
        simp only [beq_false_of_ne (show (1:Int)≠0 by omega),Bz2,Bz1,Bz8,rwp_getD hat,St.bound,List.take_length,beq_self_eq_true,yzw,yz2,go_sem,yz0,xx9,xx8,xx6,xx7,xx5,xx0,xx1,xx2,reduceIte,xx3,xx4,reduceCtorEq]
        intro _ _ _ _ _ _ vs4 U4 hN4
        have hlw:(rwp ps).length=ps.length:=rwp_len
        have hrl:=(A.row _ (List.mem_map.2 ⟨_,yz1f hat (0,[]),rfl⟩)).1
        refine ⟨⟨e3,by omega⟩,by omega,⟨by omega,Nat.le_refl _⟩,⟨e3,by omega⟩,by omega,?_⟩
        have ed:List.drop 1 (ints (ps.getD at1.toNat (0,[])).2)=ints ((ps.getD at1.toNat (0,[])).2.drop 1):=by simp only [List.map_drop]
        rw [ed,rwp_putN (p:=((ps.getD at1.toNat (0,[])).1,(ps.getD at1.toNat (0,[])).2.drop 1))]
        have hlp:(ps.take at1.toNat ++ [((ps.getD at1.toNat (0,[])).1,(ps.getD at1.toNat (0,[])).2.drop 1)] ++ ps.drop (at1.toNat+1)).length=ps.length:=by
          simp only [List.length_append,List.length_take,List.length_drop,List.length_singleton];omega
        exact h12 _ v2 v3 10 v o6 _ .gone .gone .gone a2 s2 n _ (fun _=>DJ_set (xs:=(ps.getD at1.toNat (0,[])).2.drop 1) hat hd fun e=>by rw [e];rfl) (by rw [hlp];omega) (by omega) (fun p hp=>by
          simp only [List.mem_append,List.mem_singleton] at hp
          rcases hp with (hp | rfl) | hp
          · exact hps p (List.mem_of_mem_take hp)
          · have:=hps _ (yz1f hat (0,[]));simp only [List.length_drop];omega
          · exact hps p (List.mem_of_mem_drop hp)) (by omega) (.inr (.inl ⟨rfl,rfl⟩)) (by simp only [go_sem,yz0,xx9,xx8,xx6,xx7,xx5,xx0,xx1,xx2,reduceIte,xx3,xx4,reduceCtorEq];try rfl)
      by_cases k2:kd=2
      · subst k2
        obtain ⟨A2,b,C2,rfl,hAk⟩:=rwp_split hat
        have hbr:=A.row b.2 (by simp)
        have hbn:b.2≠[]:=fun e=>by rw [e] at hbr;simp at hbr;omega
        have hbl:0<b.2.length:=by omega
        have F0:=DJ_out hd hbn
        have F0a:∀ p∈A2 ++ C2,p.2=[]∨p.1≠b.1:=F0
        simp only [beq_false_of_ne (show (2:Int)≠0 by omega),beq_false_of_ne (show (2:Int)≠1 by omega),Bz2,Bz1,Bz8,yzw,yz2,go_sem,yz0,xx9,xx8,xx6,xx7,xx5,xx0,xx1,xx2,reduceIte,xx3,xx4,reduceCtorEq]
        intro _ _ _ _ _ _ _ _ _
        simp only [beq_self_eq_true,Bza,yzw,wpD_gh,go_sem,yz0,xx9,xx8,xx6,xx7,xx5,xx0,xx1,xx2,reduceIte,xx3,xx4,reduceCtorEq]
        intro _
        refine ⟨[.thaw 10 at1.toNat 901],gwp_thaw (n:=b.1) rfl (rwp_get hAk.symm) (by simpa using hbn) rfl fun m1=>?_⟩
        have hset:(woL b.1 (rwp (A2 ++ b :: C2))).set at1.toNat (AVal.own 901 m1)=rwp A2 ++ AVal.own 901 m1 :: rwp C2:=by rw [← hAk];exact woL_set F0a
        have ho1:(rwp A2 ++ AVal.own 901 m1 :: rwp C2).getD at1.toNat .any=.own 901 m1:=own_at hAk.symm
        have hol:(rwp A2 ++ AVal.own 901 m1 :: rwp C2).length=A2.length+(C2.length+1):=by rw [List.length_append,List.length_cons,rwp_len,rwp_len]
        have hkl:at1.toNat<(rwp A2 ++ AVal.own 901 m1 :: rwp C2).length:=by omega
        simp only [hset,woT,woO,woL_cons,woL_nil,woV_val,woV_own,wo_ptr,wo_o,woL_ints,wo_st,woO_row,woO_box,woO_gone,wo_any,gwp_nil,yzw,yz2,go_sem,yz0,xx9,xx8,xx6,xx7,xx5,xx0,xx1,xx2,reduceIte,xx3,xx4,reduceCtorEq]
        intro vs4 U4 hN4
        simp only [ho1,go_sem,yz0,xx9,xx8,xx6,xx7,xx5,xx0,xx1,xx2,reduceIte,xx3,xx4,reduceCtorEq]
        refine ⟨⟨e3,hkl⟩,hkl,⟨⟨_,rfl,rfl⟩,_,rfl,rfl⟩,?_⟩
        refine call_boxrowN (r:=5000) (q:=49) (cs0:=srcC code a2 s2) (k_among code a2 s2 [-1,n] hb (by omega) (by simp)) rfl rfl (by simp) (by decide) qCS (by simp only [yzm,yz14,and_true,Coe];exact ⟨⟨0,_,_,rfl,rfl,rfl,rfl,rfl⟩,1,_,_,rfl,rfl,rfl,rfl,rfl⟩) ⟨srcC code a2 0,.int .i64 n,⟨a2,0,n,rfl,by omega,by omega,rfl,by simp⟩,flat_srcC⟩ ?_
        rintro cs' x ⟨a3,s3,b3,rfl,g3,g4,rfl,g5⟩
        simp only [yzw,yz2,go_sem,yz0,xx9,xx8,xx6,xx7,xx5,xx0,xx1,xx2,reduceIte,xx3,xx4,reduceCtorEq]
        refine ⟨hbl,hbl,?_⟩
        have ed:AVal.val (.int .i64 b3) :: List.drop 1 (ints b.2)=ints (b3 :: b.2.drop 1):=by simp [List.map_drop]
        rw [ed]
        exact h12b _ v2 v3 10 v m1 (AObj.wo b.1 o6) _ a3 s3 n A2 C2 b (b3 :: b.2.drop 1) hd (by omega) (by omega) (fun p hp=>hps p (by simp only [List.mem_append,List.mem_cons] at hp ⊢;rcases hp with h | h <;> simp [h])) (by simp only [List.length_cons,List.length_drop];omega) (by omega) (.inr ⟨rfl,rfl⟩) (by simp only [go_sem,yz0,xx9,xx8,xx6,xx7,xx5,xx0,xx1,xx2,reduceIte,xx3,xx4,reduceCtorEq];try rfl)
      by_cases k3:kd=3
      · subst k3
        have h00:0<ps.length:=by omega
        simp only [beq_false_of_ne (show (3:Int)≠0 by omega),beq_false_of_ne (show (3:Int)≠1 by omega),Bz2,Bz1,Bz8,yzw,yz2,go_sem,yz0,xx9,xx8,xx6,xx7,xx5,xx0,xx1,xx2,reduceIte,xx3,xx4,reduceCtorEq]
        intro _ _ _ _ _ _ _ _ _
        simp only [beq_false_of_ne (show (3:Int)≠2 by omega),Bza,yzw,wpD_gh,go_sem,yz0,xx9,xx8,xx6,xx7,xx5,xx0,xx1,xx2,reduceIte,xx3,xx4,reduceCtorEq]
        intro _
        refine ⟨[],?_⟩
        simp only [beq_self_eq_true,Bzt,rwp_getD h00,gwp_nil,yzw,yz2,go_sem,yz0,xx9,xx8,xx6,xx7,xx5,xx0,xx1,xx2,reduceIte,xx3,xx4,reduceCtorEq]
        intro _ _ _ vs9 U9 hN9
        have hlw:(rwp ps).length=ps.length:=rwp_len
        refine ⟨by omega,by omega,by omega,by omega,by omega,by omega,by omega,by rw [List.length_append,List.length_singleton];omega,?_⟩
        generalize hp0:ps.getD 0 (0,[])=p0
        have hp0m:p0∈ps:=hp0 ▸ yz1f h00 (0,[])
        have e5:rwp ps ++ [AVal.ro (some (some (p0.1+1))) 1 (ints p0.2)] ++ [AVal.ro (some (some (p0.1+1))) 1 (ints p0.2),AVal.ro (some (some (p0.1+1))) 1 (ints p0.2)]=rwp (ps ++ [p0] ++ [p0,p0]):=by simp only [rwp,List.map_append,List.map_cons,List.map_nil]
        rw [e5]
        have hl6:(ps ++ [p0] ++ [p0,p0]).length=ps.length+3:=by simp
        exact h12 _ v2 v3 10 (vs9 19 0) o6 _ .gone .gone .gone a2 s2 n (ps ++ [p0] ++ [p0,p0]) (fun h=>absurd h (by omega)) (by omega) (by omega) (fun p hp=>by
          simp only [List.mem_append,List.mem_cons,List.not_mem_nil,or_false] at hp
          rcases hp with (hp | rfl) | rfl | rfl
          · exact hps p hp
          · exact hps _ hp0m
          · exact hps _ hp0m
          · exact hps _ hp0m) (by omega) (.inr (.inl ⟨rfl,rfl⟩)) (by simp only [go_sem,yz0,xx9,xx8,xx6,xx7,xx5,xx0,xx1,xx2,reduceIte,xx3,xx4,reduceCtorEq];try rfl)
      by_cases k4:kd=4
      · subst k4
        simp only [beq_false_of_ne (show (4:Int)≠0 by omega),beq_false_of_ne (show (4:Int)≠1 by omega),Bz2,Bz1,Bz8,yzw,yz2,go_sem,yz0,xx9,xx8,xx6,xx7,xx5,xx0,xx1,xx2,reduceIte,xx3,xx4,reduceCtorEq]
        intro _ _ _ _ _ _ _ _ _
        simp only [beq_false_of_ne (show (4:Int)≠2 by omega),Bza,yzw,wpD_gh,go_sem,yz0,xx9,xx8,xx6,xx7,xx5,xx0,xx1,xx2,reduceIte,xx3,xx4,reduceCtorEq]
        intro _
        refine ⟨[],?_⟩
        simp only [beq_false_of_ne (show (4:Int)≠3 by omega),Bzt,Bz1t,beq_self_eq_true,gwp_nil,yzw,yz2,go_sem,yz0,xx9,xx8,xx6,xx7,xx5,xx0,xx1,xx2,reduceIte,xx3,xx4,reduceCtorEq]
        intro _ _ _ _ _ _ vs9 U9 hN9
        exact h12 _ v2 v3 77 (vs9 0 0) o6 _ .gone .gone _ a2 s2 n [] (fun _=>by simp [DJ]) (by simp) (by omega) (by simp) (by omega) (.inr (.inr ⟨rfl,rfl⟩)) (by simp only [rwp_nil,go_sem,yz0,xx9,xx8,xx6,xx7,xx5,xx0,xx1,xx2,reduceIte,xx3,xx4,reduceCtorEq];try rfl)
      simp only [beq_false_of_ne k0,beq_false_of_ne k1,Bz2,Bz1,Bz8,yzw,yz2,go_sem,yz0,xx9,xx8,xx6,xx7,xx5,xx0,xx1,xx2,reduceIte,xx3,xx4,reduceCtorEq]
      intro _ _ _ _ _ _ _ _ _
      simp only [beq_false_of_ne k2,Bza,yzw,wpD_gh,go_sem,yz0,xx9,xx8,xx6,xx7,xx5,xx0,xx1,xx2,reduceIte,xx3,xx4,reduceCtorEq]
      intro _
      refine ⟨[],?_⟩
      simp only [beq_false_of_ne k3,beq_false_of_ne k4,Bzt,Bz1t,gwp_nil,yzw,yz2,go_sem,yz0,xx9,xx8,xx6,xx7,xx5,xx0,xx1,xx2,reduceIte,xx3,xx4,reduceCtorEq]
      intro _ _ _ _ _ _
      exact h12 _ v2 v3 10 v o6 _ .gone .gone .gone a2 s2 n ps (fun _=>hd) (by omega) (by omega) hps (by omega) (.inr (.inl ⟨rfl,rfl⟩)) (by simp only [go_sem,yz0,xx9,xx8,xx6,xx7,xx5,xx0,xx1,xx2,reduceIte,xx3,xx4,reduceCtorEq];try rfl)
  simp only [Azu,Bzlw,yzw,yz2,go_sem,yz0,xx9,xx8,xx6,xx7,xx5,xx0,xx1,xx2,reduceIte,xx3,xx4,reduceCtorEq]
  intro vs0 U0 hN0 vs1 U1 hN1
  refine call_con (r:=5000) (k_DrawnN code at_ seed 6 hb (by omega) (by omega)) rfl (by simp only [Bool.not_true,rowIs,boxIs,yz1c,yz13,yz1d,yz14,yzm,yz1i,yz1g,coe_ro,yzt,yzo,coe_st,yzq,coe_rp,yzr,yz1h,yz1e,yz16,yzn,yz1b,yz18,L_hit,L_miss,L_nil,xx3,ne_eq,reduceCtorEq,not_false_eq_true,true_and,and_true,and_self,exists_eq_left,exists_eq_right,List.mem_cons,List.not_mem_nil,or_false,AObj.row.injEq,AObj.box.injEq,exists_eq_left',exists_and_left,exists_eq,Nat.zero_lt_one,Nat.lt_add_one,List.map_cons,List.map_nil,AObj.ver,xx5,not_true_eq_false]) (by simp only [Bool.not_true,rowIs,boxIs,yz1c,yz13,yz1d,yz14,yzm,yz1i,yz1g,coe_ro,yzt,yzo,coe_st,yzq,coe_rp,yzr,yz1h,yz1e,yz16,yzn,yz1b,yz18,L_hit,L_miss,L_nil,xx3,ne_eq,reduceCtorEq,not_false_eq_true,true_and,and_true,and_self,exists_eq_left,exists_eq_right,List.mem_cons,List.not_mem_nil,or_false,AObj.row.injEq,AObj.box.injEq,exists_eq_left',exists_and_left,exists_eq,Nat.zero_lt_one,Nat.lt_add_one,List.map_cons,List.map_nil,AObj.ver,xx5,not_true_eq_false]) ?_
  rintro outs rows res ⟨q,qs,vq,a1,s1,A,hd,hq3,h1,h2,rfl,rfl,rfl⟩
  refine ⟨rfl,by simp,by rw [Option.getD_some,yzl];simp only [go_sem,yz0,xx9,xx8,xx6,xx7,xx5,xx0,xx1,xx2,reduceIte,xx3,xx4,reduceCtorEq],?_⟩
  rw [Option.getD_some,callHp_mr (by omega)]
  have hv0:∀ y,vs1 1 y≠0:=fun y e=>by
    have h:=hN1.hp 5000
    simp only [AObj.uses,go_sem,yz0,xx9,xx8,xx6,xx7,xx5,xx0,xx1,xx2,reduceIte,xx3,xx4,reduceCtorEq] at h
    exact hN1.new 1 y (by rw [e];exact h.1)
  simp only [renL_rwp,Bzlv,yzw,yz2,Nat.not_lt_zero,range1,yz15,yz1a,yz1l,yz1k,yz19,yz1n,yz1m,yz1j,yz17,yzv,yzf,yz4,yzy,yz11,yzs,yzp,yzz,yz8,yzd,yz9,yzb,yzi,yzh,yz3,yz7,yze,yzc,yzj,yzk,List.range_zero,yz6,yz5,yza,yz10,yzl,yzu,AVal.fresh,freshL,yz1,yzg,AObj.fresh,id,Option.isSome_some,or_true,true_or,go_sem,yz0,xx9,xx8,xx6,xx7,xx5,xx0,xx1,xx2,reduceIte,xx3,xx4,reduceCtorEq]
  intro vs2 U2 hN2
  clear hN2
  have hsi:=fun l (h:L .gone l 5000=.box 0 (srcC code at_ seed))=>sv_inj (hp:=L .gone l) (r:=5000) h (fun x y e=>(hN1.inj _ _ _ _ e).2) hv0
  have hs0:=fun l (h:L .gone l 5000=.box 0 (srcC code at_ seed))=>(sv_m (s:=vs1 1) h:sv (L .gone l) [5000] (vs1 1) 0=0)
  generalize hl0:[(2,AObj.box (vs0 0 0) [iv 0,AVal.val (Value.slice none 0 0)]),(3,AObj.gone),(6,AObj.gone),(10,AObj.gone),(61,AObj.gone),(73,AObj.gone),(77,AObj.gone),(5000,AObj.box 0 (srcC code at_ seed)),(901,AObj.gone)]=l0
  have hi:=hsi l0 (by rw [← hl0];rfl)
  have h0:=hs0 l0 (by rw [← hl0];rfl)
  generalize sv (L .gone l0) [5000] (vs1 1)=f at hi h0 ⊢
  rw [h0]
  have A0:Aut q ((qs.map fun p=>(f p.1,p.2)).map (·.2)):=by rw [List.map_map];exact A
  have hd0:=hd.ren hi
  generalize (qs.map fun p=>(f p.1,p.2))=ps0 at A0 hd0 ⊢
  refine call_funB (k_one code a1 s1 8 hb (by omega)) rfl qCS qCS ?_
  rintro cs' x ⟨a2,s2,b2,rfl,g1,g2,rfl⟩
  simp only [Bzlu,yzw,yz2,go_sem,yz0,xx9,xx8,xx6,xx7,xx5,xx0,xx1,xx2,reduceIte,xx3,xx4,reduceCtorEq]
  refine ⟨fun _ vs3 U3 hN3=>?_,fun _=>?_⟩
  · refine call_con (r:=5000) (k_DrawnN code a2 s2 10 hb (by omega) (by omega)) rfl (by simp only [Bool.not_true,rowIs,boxIs,yz1c,yz13,yz1d,yz14,yzm,yz1i,yz1g,coe_ro,yzt,yzo,coe_st,yzq,coe_rp,yzr,yz1h,yz1e,yz16,yzn,yz1b,yz18,L_hit,L_miss,L_nil,xx3,ne_eq,reduceCtorEq,not_false_eq_true,true_and,and_true,and_self,exists_eq_left,exists_eq_right,List.mem_cons,List.not_mem_nil,or_false,AObj.row.injEq,AObj.box.injEq,exists_eq_left',exists_and_left,exists_eq,Nat.zero_lt_one,Nat.lt_add_one,List.map_cons,List.map_nil,AObj.ver,xx5,not_true_eq_false]) (by simp only [Bool.not_true,rowIs,boxIs,yz1c,yz13,yz1d,yz14,yzm,yz1i,yz1g,coe_ro,yzt,yzo,coe_st,yzq,coe_rp,yzr,yz1h,yz1e,yz16,yzn,yz1b,yz18,L_hit,L_miss,L_nil,xx3,ne_eq,reduceCtorEq,not_false_eq_true,true_and,and_true,and_self,exists_eq_left,exists_eq_right,List.mem_cons,List.not_mem_nil,or_false,AObj.row.injEq,AObj.box.injEq,exists_eq_left',exists_and_left,exists_eq,Nat.zero_lt_one,Nat.lt_add_one,List.map_cons,List.map_nil,AObj.ver,xx5,not_true_eq_false]) ?_
    rintro outs rows res ⟨q',qs',vq',a3,s3,A',hd',hq',g3,g4,rfl,rfl,rfl⟩
    refine ⟨rfl,by simp,by rw [Option.getD_some,yzl];simp only [go_sem,yz0,xx9,xx8,xx6,xx7,xx5,xx0,xx1,xx2,reduceIte,xx3,xx4,reduceCtorEq],?_⟩
    rw [Option.getD_some,callHp_mr (by omega)]
    have hv1:∀ y,vs3 1 y≠0:=fun y e=>by
      have h:=hN3.hp 5000
      simp only [AObj.uses,go_sem,yz0,xx9,xx8,xx6,xx7,xx5,xx0,xx1,xx2,reduceIte,xx3,xx4,reduceCtorEq] at h
      exact hN3.new 1 y (by rw [e];exact h.1)
    simp only [renL_rwp,yzw,yz2,Nat.not_lt_zero,range1,yz15,yz1a,yz1l,yz1k,yz19,yz1n,yz1m,yz1j,yz17,yzv,yzf,yz4,yzy,yz11,yzs,yzp,yzz,yz8,yzd,yz9,yzb,yzi,yzh,yz3,yz7,yze,yzc,yzj,yzk,List.range_zero,yz6,yz5,yza,yz10,yzl,yzu,AVal.fresh,freshL,yz1,yzg,AObj.fresh,id,Option.isSome_some,or_true,true_or,go_sem,yz0,xx9,xx8,xx6,xx7,xx5,xx0,xx1,xx2,reduceIte,xx3,xx4,reduceCtorEq]
    have hsi:=fun l (h:L .gone l 5000=.box 0 (srcC code a2 s2))=>sv_inj (hp:=L .gone l) (r:=5000) h (fun x y e=>(hN3.inj _ _ _ _ e).2) hv1
    have hs0:=fun l (h:L .gone l 5000=.box 0 (srcC code a2 s2))=>(sv_m (s:=vs3 1) h:sv (L .gone l) [5000] (vs3 1) 0=0)
    generalize hl1:[(2,AObj.box (vs0 0 0) [iv 0,AVal.val (Value.slice none 0 0)]),(3,AObj.box (vs1 2 0) [iv q,.own 6 (f vq)]),(6,AObj.row (f vq) 1 true (rwp ps0)),(10,AObj.gone),(61,AObj.gone),(73,AObj.gone),(77,AObj.gone),(5000,AObj.box 0 (srcC code a2 s2)),(901,AObj.gone)]=l1
    have hi1:=hsi l1 (by rw [← hl1];rfl)
    have h01:=hs0 l1 (by rw [← hl1];rfl)
    generalize sv (L .gone l1) [5000] (vs3 1)=f1 at hi1 h01 ⊢
    rw [h01]
    have A1:Aut q' ((qs'.map fun p=>(f1 p.1,p.2)).map (·.2)):=by rw [List.map_map];exact A'
    have hd1:=hd'.ren hi1
    generalize (qs'.map fun p=>(f1 p.1,p.2))=ps1 at A1 hd1 ⊢
    exact h4 _ (vs0 0 0) (vs1 2 0) 10 (f1 vq') _ _ a3 s3 q' ps1 A1 hd1 (by omega) (.inr ⟨rfl,rfl⟩) (by simp only [← hl1,go_sem,yz0,xx9,xx8,xx6,xx7,xx5,xx0,xx1,xx2,reduceIte,xx3,xx4,reduceCtorEq];try rfl)
  · exact h4 _ (vs0 0 0) (vs1 2 0) 6 (f vq) _ .gone a2 s2 q ps0 A0 hd0 (by omega) (.inl ⟨rfl,rfl⟩) (by simp only [go_sem,yz0,xx9,xx8,xx6,xx7,xx5,xx0,xx1,xx2,reduceIte,xx3,xx4,reduceCtorEq];try rfl)
end Go.Ab
namespace Go.Ab
open Go.Proofs
def FRen (F:Int→List (Nat×List Int)→Prop):Prop:=∀ n ps (f:Nat→Nat),(∀ x y,f x=f y→x=y)→F n ps→F n (ps.map fun p=>(f p.1,p.2))
theorem New.box {vs:Nat→Nat→Nat} {U:Nat→Prop} {σ:St} {r v:Nat} {cs:List AVal} (h:New vs U σ) (hr:σ.hp r=.box v cs) (i y:Nat):vs i y≠v:=fun e=>by
  have h1:=h.hp r
  rw [hr] at h1
  simp only [AObj.uses] at h1
  exact h.new i y (by rw [e];exact h1.1)
theorem call_lo {P:Program} {F:Int→List (Nat×List Int)→Prop} (hF:FRen F) {σ:St} {g:FuncId} {As args:List AVal} {d:Nat} {s:Nat→Nat} {K:St→Prop} {r v:Nat} {code:List Int} {a s0 k:Int}
    (h:Con P g [.box 0 (srcC code a s0)] (.ptr 5000 0 0 :: args) true fun outs rows res=>∃ n ps v a' s',F n ps∧a≤a'∧a'≤a+k∧outs=[.box 0 (srcC code a' s')]∧rows=[.row v 1 true (rwp ps)]∧res=.st [iv n,.own 6000 v])
    (hr:σ.hp r=.box v (srcC code a s0)) (hs:∀ x y,s x=s y→x=y) (hv:∀ y,s y≠v) (hco:CoeL σ.hp [r] false args As) (hd:σ.hp d=.gone)
    (hk:∀ n ps v' a' s',F n ps→a≤a'→a'≤a+k→K (St.put ⟨σ.tm,upd (upd σ.hp r (.box v (srcC code a' s'))) d (.row v' 1 true (rwp ps))⟩ (some d) (.st [iv n,.own d v']))):wpCall P false σ g (.ptr r v 0 :: As) (some d) s K:=by
  have hne:d≠r:=fun e=>by rw [e,hr] at hd;cases hd
  refine call_con (r:=r) h hr (by simp only [Bool.not_true,rowIs,boxIs,yz1c,yz13,yz1d,yz14,yzm,yz1i,yz1g,coe_ro,yzt,yzo,coe_st,yzq,coe_rp,yzr,yz1h,yz1e,yz16,yzn,yz1b,yz18,L_hit,L_miss,L_nil,xx3,ne_eq,reduceCtorEq,not_false_eq_true,true_and,and_true,and_self,exists_eq_left,exists_eq_right,List.mem_cons,List.not_mem_nil,or_false,AObj.row.injEq,AObj.box.injEq,exists_eq_left',exists_and_left,exists_eq,Nat.zero_lt_one,Nat.lt_add_one,List.map_cons,List.map_nil,AObj.ver,xx5,not_true_eq_false]) (by rw [Bool.not_true,yzm,yz16,hr];exact ⟨rfl,hco⟩) ?_
  rintro outs rows res ⟨n,ps,w,a',s',hf,h1,h2,rfl,rfl,rfl⟩
  refine ⟨rfl,by simp,by rw [Option.getD_some,yzl];exact hd,?_⟩
  rw [Option.getD_some,callHp_mr hne]
  have hi:=sv_inj (hp:=σ.hp) (r:=r) hr hs hv
  have h0:sv σ.hp [r] s 0=v:=sv_m hr
  simp only [yzs,yzp,renL_rwp,renL_flat _ flat_srcC,yz1j,yzf,yzv,yz15,List.length_singleton,yz3,h0]
  exact hk n _ _ a' s' (hF n ps _ hi hf) h1 h2
theorem call_lo0 {P:Program} {F:Int→List (Nat×List Int)→Prop} (hF:FRen F) {σ:St} {g:FuncId} {As args:List AVal} {d:Nat} {s:Nat→Nat} {K:St→Prop}
    (h:Con P g [] args true fun outs rows res=>outs=[]∧∃ n v ps,F n ps∧rows=[.row v 1 true (rwp ps)]∧res=.st [iv n,.own 6000 v])
    (hs:∀ x y,s x=s y→x=y) (hco:CoeL σ.hp [] false args As) (hd:σ.hp d=.gone)
    (hk:∀ n ps v',F n ps→K (St.put ⟨σ.tm,upd σ.hp d (.row v' 1 true (rwp ps))⟩ (some d) (.st [iv n,.own d v']))):wpCall P false σ g As (some d) s K:=by
  refine call_sh h hco (fun e=>by cases e) ?_
  rintro outs rows res ⟨rfl,n,w,ps,hf,rfl,rfl⟩
  refine ⟨rfl,by simp,by rw [Option.getD_some,yzl];exact hd,?_⟩
  rw [Option.getD_some,yz5]
  simp only [yzp,renL_rwp,yz1j,yzf,yzv,yz15,List.length_singleton,yz3]
  exact hk n _ _ (hF n ps _ hs hf)
theorem call_lo2 {P:Program} {F:Int→List (Nat×List Int)→Prop} (hF:FRen F) {σ:St} {g:FuncId} {As args:List AVal} {d:Nat} {s:Nat→Nat} {K:St→Prop} {r v:Nat} {code:List Int} {a s0 k:Int}
    (h:Con P g [.box 0 (srcC code a s0)] (.ptr 5000 0 0 :: args) true fun outs rows res=>∃ n ps v w xs a' s',F n ps∧a≤a'∧a'≤a+k∧outs=[.box 0 (srcC code a' s')]∧rows=[.row v 1 true (rwp ps),.row w 1 true (ints xs)]∧res=.tup [.st [iv n,.own 6000 v],.own 6001 w])
    (hr:σ.hp r=.box v (srcC code a s0)) (hs:∀ x y,s x=s y→x=y) (hv:∀ y,s y≠v) (hco:CoeL σ.hp [r] false args As) (hd:σ.hp d=.gone) (hd2:σ.hp (d+1000)=.gone)
    (hk:∀ n ps v' w' xs a' s',F n ps→a≤a'→a'≤a+k→K (St.put ⟨σ.tm,upd (upd (upd σ.hp r (.box v (srcC code a' s'))) d (.row v' 1 true (rwp ps))) (d+1000) (.row w' 1 true (ints xs))⟩ (some d) (.tup [.st [iv n,.own d v'],.own (d+1000) w']))):wpCall P false σ g (.ptr r v 0 :: As) (some d) s K:=by
  have hne:d≠r:=fun e=>by rw [e,hr] at hd;cases hd
  have hne2:d+1000≠r:=fun e=>by rw [e,hr] at hd2;cases hd2
  refine call_con (r:=r) h hr (by simp only [Bool.not_true,rowIs,boxIs,yz1c,yz13,yz1d,yz14,yzm,yz1i,yz1g,coe_ro,yzt,yzo,coe_st,yzq,coe_rp,yzr,yz1h,yz1e,yz16,yzn,yz1b,yz18,L_hit,L_miss,L_nil,xx3,ne_eq,reduceCtorEq,not_false_eq_true,true_and,and_true,and_self,exists_eq_left,exists_eq_right,List.mem_cons,List.not_mem_nil,or_false,AObj.row.injEq,AObj.box.injEq,exists_eq_left',exists_and_left,exists_eq,Nat.zero_lt_one,Nat.lt_add_one,List.map_cons,List.map_nil,AObj.ver,xx5,not_true_eq_false]) (by rw [Bool.not_true,yzm,yz16,hr];exact ⟨rfl,hco⟩) ?_
  rintro outs rows res ⟨n,ps,w,w2,xs,a',s',hf,h1,h2,rfl,rfl,rfl⟩
  refine ⟨rfl,by simp,by rw [Option.getD_some,yzu];exact ⟨hd,hd2⟩,?_⟩
  rw [Option.getD_some,callHp_mrr hne hne2]
  have hi:=sv_inj (hp:=σ.hp) (r:=r) hr hs hv
  have h0:sv σ.hp [r] s 0=v:=sv_m hr
  have e2:([AObj.row w 1 true (rwp ps),AObj.row w2 1 true (ints xs)]:List AObj).length=2:=rfl
  simp only [yzs,yzp,renL_rwp,renL_flat _ flat_srcC,yz1j,yz17,yzf,yzv,yz4,yz15,e2,yz3,yz7,h0]
  exact hk n _ _ _ xs a' s' (hF n ps _ hi hf) h1 h2
def FAut (m:Int) (n:Int) (ps:List (Nat×List Int)):Prop:=Aut n (ps.map (·.2))∧DJ ps∧n≤m
def FLo (n:Int) (ps:List (Nat×List Int)):Prop:=(ps.length≤3→DJ ps)∧ps.length≤10∧-1≤n∧n≤11∧∀ p∈ps,p.2.length≤10
theorem map_named {ps:List (Nat×List Int)} {f:Nat→Nat}:(ps.map fun p=>(f p.1,p.2)).map (·.2)=ps.map (·.2):=by rw [List.map_map];rfl
theorem FAut_ren (m:Int):FRen (FAut m):=by
  rintro n ps f hf ⟨h1,h2,h3⟩
  exact ⟨by rw [map_named];exact h1,h2.ren hf,h3⟩
theorem FLo_ren:FRen FLo:=by
  rintro n ps f hf ⟨h1,h2,h3,h4,h5⟩
  refine ⟨fun h=>(h1 (by simpa using h)).ren hf,by simpa using h2,h3,h4,fun p hp=>?_⟩
  obtain ⟨q,hq,rfl⟩:=List.mem_map.1 hp
  exact h5 q hq
theorem FAut.lo {m n:Int} {ps:List (Nat×List Int)} (h:FAut m n ps):FLo n ps:=by
  obtain ⟨A,hd,hm⟩:=h
  have n1:=A.n1
  have n2:=A.n2
  have l2:=A.l2
  rw [List.length_map] at l2
  exact ⟨fun _=>hd,by omega,by omega,by omega,fun p hp=>by have:=(A.row p.2 (List.mem_map.2 ⟨p,hp,rfl⟩)).1;omega⟩
theorem DJ_refrozen {A2 C2:List (Nat×List Int)} {b:Nat×List Int} {m:Nat} {cur:List Int} (hd:DJ (A2 ++ b :: C2))
    (hf:∀ n k'' cs'',AVal.ro (some (some (n+1))) k'' cs''∈rwp A2 ++ AVal.own 901 m :: rwp C2→cs''≠[]→n≠m):DJ (A2 ++ (m,cur) :: C2):=DJ_in hd fun p hp=>by
  by_cases e:p.2=[]
  · exact .inl e
  · refine .inr (hf p.1 1 (ints p.2) ?_ (by simpa using e))
    rcases List.mem_append.1 hp with h | h
    · exact List.mem_append.2 (.inl (List.mem_map.2 ⟨p,h,rfl⟩))
    · exact List.mem_append.2 (.inr (List.mem_cons.2 (.inr (List.mem_map.2 ⟨p,h,rfl⟩))))
theorem Aut_put {n:Int} {A2 C2:List (Nat×List Int)} {b:Nat×List Int} {u:Nat} {cur:List Int} (A:Aut n ((A2 ++ b :: C2).map (·.2))) (hl:cur.length=b.2.length) (hm:∀ x∈cur,0≤x∧x<n):Aut n ((A2 ++ (u,cur) :: C2).map (·.2)):=by
  have l1:=A.l1
  have l2:=A.l2
  have hbr:=A.row b.2 (by simp)
  refine ⟨A.n1,A.n2,by rw [List.length_map] at l1 ⊢;simpa using l1,by rw [List.length_map] at l2 ⊢;simpa using l2,fun row hr=>?_⟩
  rw [List.map_append,List.map_cons,List.mem_append,List.mem_cons] at hr
  rcases hr with h | h | h
  · exact A.row row (by rw [List.map_append];exact List.mem_append.2 (.inl h))
  · rw [h];exact ⟨by dsimp only;omega,hm⟩
  · exact A.row row (by rw [List.map_append,List.map_cons];exact List.mem_append.2 (.inr (List.mem_cons_of_mem _ h)))
theorem k_l02Drawn (code:List Int) (at_ seed:Int) (hb:∀ x∈code,0≤x∧x≤255) (ha:0≤at_∧at_≤10000) :
    Con Tryz.prog nz5o [.box 0 (srcC code at_ seed)] [.ptr 5000 0 0] true fun outs rows res=>∃ n ps v a' s',FLo n ps∧at_≤a'∧a'≤at_+5000∧outs=[.box 0 (srcC code a' s')]∧rows=[.row v 1 true (rwp ps)]∧res=.st [iv n,.own 6000 v]:=by
  refine con_sh mixed czqa rfl (by simp) ?_
  generalize hQ:finQ _=Q
  simp only [Azs,Bzhk,yzw,yz2,go_sem,yz0,xx9,xx8,xx6,xx7,xx5,xx0,xx1,xx2,reduceIte,xx3,xx4,reduceCtorEq]
  intro vs0 U0 hN0 vs1 U1 hN1
  refine call_funB (k_pick code at_ seed 6 hb (by omega)) rfl qCS qCS ?_
  rintro cs' x ⟨a1,s1,b1,rfl,g1,g2,rfl,g3,g4⟩
  by_cases k0:b1=0
  · subst k0
    simp only [Bz1n,Bz1m,beq_self_eq_true,yzw,yz2,go_sem,yz0,xx9,xx8,xx6,xx7,xx5,xx0,xx1,xx2,reduceIte,xx3,xx4,reduceCtorEq]
    intro vs2 U2 hN2 vs3 U3 hN3
    refine call_funB (k_pick code a1 s1 6 hb (by omega)) rfl qCS qCS ?_
    rintro cs' x ⟨a2,s2,b2,rfl,g5,g6,rfl,g7,g8⟩
    have w1:IntKind.i64.wrap (2+b2)=2+b2:=w64 (by omega)
    simp only [w1,yzw,yz2,go_sem,yz0,xx9,xx8,xx6,xx7,xx5,xx0,xx1,xx2,reduceIte,xx3,xx4,reduceCtorEq]
    refine call_lo0 (FAut_ren 10) (Con.mono (k_l02SlowN (2+b2) (by omega)) ?_) (fun x y e=>(hN3.inj _ _ _ _ e).2) qCS qGN ?_
    · rintro outs rows res ⟨h1,v,ps,h2,h3,h4,h5⟩
      exact ⟨h1,_,v,ps,⟨h2,h3,by omega⟩,h4,h5⟩
    intro n ps v' hf
    simp only [← hQ,Azs,yzw,yz2,go_sem,yz0,xx9,xx8,xx6,xx7,xx5,xx0,xx1,xx2,reduceIte,xx3,xx4,reduceCtorEq]
    refine ⟨[14],by simp,by simp,by simp,?_⟩
    simp only [range1,List.length_singleton,renL_rwp,Nat.not_lt_zero,range1,yz15,yz1a,yz1l,yz1k,yz19,yz1n,yz1m,yz1j,yz17,yzv,yzf,yz4,yzy,yz11,yzs,yzp,yzz,yz8,yzd,yz9,yzb,yzi,yzh,yz3,yz7,yze,yzc,yzj,yzk,List.range_zero,yz6,yz5,yza,yz10,yzl,yzu,AVal.fresh,freshL,yz1,yzg,AObj.fresh,id,Option.isSome_some,or_true,true_or,go_sem,yz0,xx9,xx8,xx6,xx7,xx5,xx0,xx1,xx2,reduceIte,xx3,xx4,reduceCtorEq]
    exact ⟨n,ps,v',a2,s2,hf.lo,by omega,by omega,rfl,by simp,rfl⟩
  by_cases k1:b1=1
  · subst k1
    simp only [beq_false_of_ne (show (1:Int)≠0 by omega),Bz1n,Bz1m,Bz3w,beq_self_eq_true,yzw,yz2,go_sem,yz0,xx9,xx8,xx6,xx7,xx5,xx0,xx1,xx2,reduceIte,xx3,xx4,reduceCtorEq]
    intro vs2 U2 hN2 vs3 U3 hN3 vs4 U4 hN4
    refine call_lo2 (k:=2000) (FAut_ren 10) (Con.mono (k_l01Alike code a1 s1 hb (by omega)) ?_) rfl (fun x y e=>(hN4.inj _ _ _ _ e).2) (hN4.box (r:=5000) rfl 1) qCS qGN qGN ?_
    · rintro outs rows res ⟨n,ps,v,w,xs,a',s',h1,h2,h3,h4,h5,h6⟩
      exact ⟨n,ps,v,w,xs,a',s',⟨h1,h2,by omega⟩,h4,h5,h6⟩
    intro n ps v' w' xs a2 s2 hf h1 h2
    simp only [yzw,yz2,go_sem,yz0,xx9,xx8,xx6,xx7,xx5,xx0,xx1,xx2,reduceIte,xx3,xx4,reduceCtorEq]
    simp only [Bzhg,← hQ,Azs,yzw,yz2,go_sem,yz0,xx9,xx8,xx6,xx7,xx5,xx0,xx1,xx2,reduceIte,xx3,xx4,reduceCtorEq]
    intro vs5 U5 hN5
    refine ⟨[19],by simp,by simp,by simp,?_⟩
    simp only [range1,List.length_singleton,renL_rwp,Nat.not_lt_zero,range1,yz15,yz1a,yz1l,yz1k,yz19,yz1n,yz1m,yz1j,yz17,yzv,yzf,yz4,yzy,yz11,yzs,yzp,yzz,yz8,yzd,yz9,yzb,yzi,yzh,yz3,yz7,yze,yzc,yzj,yzk,List.range_zero,yz6,yz5,yza,yz10,yzl,yzu,AVal.fresh,freshL,yz1,yzg,AObj.fresh,id,Option.isSome_some,or_true,true_or,go_sem,yz0,xx9,xx8,xx6,xx7,xx5,xx0,xx1,xx2,reduceIte,xx3,xx4,reduceCtorEq]
    exact ⟨n,ps,v',a2,s2,hf.lo,by omega,by omega,rfl,by simp,rfl⟩
  by_cases k2:b1=2
  · subst k2
    simp only [beq_false_of_ne (show (2:Int)≠0 by omega),beq_false_of_ne (show (2:Int)≠1 by omega),Bz1n,Bz1m,Bz3w,Bz8x,beq_self_eq_true,yzw,yz2,go_sem,yz0,xx9,xx8,xx6,xx7,xx5,xx0,xx1,xx2,reduceIte,xx3,xx4,reduceCtorEq]
    intro vs2 U2 hN2 vs3 U3 hN3 vs4 U4 hN4 vs5 U5 hN5
    refine call_lo (k:=3000) FLo_ren (Con.mono (k_l01Bent code a1 s1 hb (by omega)) ?_) rfl (fun x y e=>(hN5.inj _ _ _ _ e).2) (hN5.box (r:=5000) rfl 1) qCS qGN ?_
    · rintro outs rows res ⟨n,ps,v,a',s',h1,h2,h3,h4,h5,h6⟩
      exact ⟨n,ps,v,a',s',⟨h1,h2,h3,h4,h5⟩,h6⟩
    intro n ps v' a2 s2 hf h1 h2
    simp only [← hQ,Azs,yzw,yz2,go_sem,yz0,xx9,xx8,xx6,xx7,xx5,xx0,xx1,xx2,reduceIte,xx3,xx4,reduceCtorEq]
    refine ⟨[26],by simp,by simp,by simp,?_⟩
    simp only [range1,List.length_singleton,renL_rwp,Nat.not_lt_zero,range1,yz15,yz1a,yz1l,yz1k,yz19,yz1n,yz1m,yz1j,yz17,yzv,yzf,yz4,yzy,yz11,yzs,yzp,yzz,yz8,yzd,yz9,yzb,yzi,yzh,yz3,yz7,yze,yzc,yzj,yzk,List.range_zero,yz6,yz5,yza,yz10,yzl,yzu,AVal.fresh,freshL,yz1,yzg,AObj.fresh,id,Option.isSome_some,or_true,true_or,go_sem,yz0,xx9,xx8,xx6,xx7,xx5,xx0,xx1,xx2,reduceIte,xx3,xx4,reduceCtorEq]
    exact ⟨n,ps,v',a2,s2,hf,by omega,by omega,rfl,by simp,rfl⟩
  simp only [beq_false_of_ne k0,beq_false_of_ne k1,beq_false_of_ne k2,Bz1n,Bz1m,Bz3w,Bz8x,Bzhj,yzw,yz2,go_sem,yz0,xx9,xx8,xx6,xx7,xx5,xx0,xx1,xx2,reduceIte,xx3,xx4,reduceCtorEq]
  intro vs2 U2 hN2 vs3 U3 hN3 vs4 U4 hN4 vs5 U5 hN5
  refine call_lo (k:=1000) (FAut_ren 6) (Con.mono (k_DrawnN code a1 s1 6 hb (by omega) (by omega)) ?_) rfl (fun x y e=>(hN5.inj _ _ _ _ e).2) (hN5.box (r:=5000) rfl 1) qCS qGN ?_
  · rintro outs rows res ⟨n,ps,v,a',s',h1,h2,h3,h4,h5,h6⟩
    exact ⟨n,ps,v,a',s',⟨h1,h2,h3⟩,h4,h5,h6⟩
  intro n ps v' a2 s2 hf h1 h2
  simp only [Bzhi,yzw,yz2,go_sem,yz0,xx9,xx8,xx6,xx7,xx5,xx0,xx1,xx2,reduceIte,xx3,xx4,reduceCtorEq]
  intro vs6 U6 hN6
  refine call_funB (k_one code a2 s2 2 hb (by omega)) rfl qCS qCS ?_
  rintro cs' x ⟨a3,s3,b3,rfl,g5,g6,rfl⟩
  obtain ⟨A,hdj,hn6⟩:=hf
  have l1:=A.l1
  have l2:=A.l2
  have n1:=A.n1
  have n2:=A.n2
  rw [List.length_map] at l1 l2
  have hend:∀ (σ:St) (v2 v5:Nat) (ps:List (Nat×List Int)) (a s:Int),FLo n ps→at_≤a∧a≤at_+5000 →
      σ.keep [2,5] [2,3,5,14,19,26,28,1019,5000,901]=⟨L .any [(2,.ptr 2 v2 0),(5,.ptr 5 v5 0)],
        L .gone [(2,.box v2 [iv 0,.val (.slice none 0 0)]),(3,.gone),(5,.box v5 [iv n,.own 28 v']),(14,.gone),(19,.gone),(26,.gone),(28,.row v' 1 true (rwp ps)),(1019,.gone),(5000,.box 0 (srcC code a s)),(901,.gone)]⟩ →
      wpD Tryz.prog Bz3x Q σ:=by
    intro σ v2 v5 ps a s hf ha' hS
    unfold Bz3x
    rw [yzw,hS]
    simp only [wpD_gh]
    intro _
    refine ⟨[],?_⟩
    simp only [gwp_nil,yzw,yz2,go_sem,yz0,xx9,xx8,xx6,xx7,xx5,xx0,xx1,xx2,reduceIte,xx3,xx4,reduceCtorEq]
    intro vs U hN
    simp only [← hQ,Azs,go_sem,yz0,xx9,xx8,xx6,xx7,xx5,xx0,xx1,xx2,reduceIte,xx3,xx4,reduceCtorEq]
    refine ⟨[28],by simp,by simp,by simp,?_⟩
    simp only [range1,List.length_singleton,renL_rwp,Nat.not_lt_zero,range1,yz15,yz1a,yz1l,yz1k,yz19,yz1n,yz1m,yz1j,yz17,yzv,yzf,yz4,yzy,yz11,yzs,yzp,yzz,yz8,yzd,yz9,yzb,yzi,yzh,yz3,yz7,yze,yzc,yzj,yzk,List.range_zero,yz6,yz5,yza,yz10,yzl,yzu,AVal.fresh,freshL,yz1,yzg,AObj.fresh,id,Option.isSome_some,or_true,true_or,go_sem,yz0,xx9,xx8,xx6,xx7,xx5,xx0,xx1,xx2,reduceIte,xx3,xx4,reduceCtorEq]
    exact ⟨n,ps,v',a,s,hf,ha'.1,ha'.2,rfl,by simp,rfl⟩
  cases b3 with
  | false =>
    simp only [Bz8y,yzw,yz2,go_sem,yz0,xx9,xx8,xx6,xx7,xx5,xx0,xx1,xx2,reduceIte,xx3,xx4,reduceCtorEq]
    exact hend _ (vs0 0 0) (vs5 2 0) ps a3 s3 (FAut.lo ⟨A,hdj,hn6⟩) (by omega) (by simp only [go_sem,yz0,xx9,xx8,xx6,xx7,xx5,xx0,xx1,xx2,reduceIte,xx3,xx4,reduceCtorEq];try rfl)
  | true =>
    simp only [Bz8y,rwp_len,yzw,yz2,go_sem,yz0,xx9,xx8,xx6,xx7,xx5,xx0,xx1,xx2,reduceIte,xx3,xx4,reduceCtorEq]
    intro vs7 U7 hN7 hM7
    refine call_funB (k_pick code a3 s3 ps.length hb (by omega)) rfl qCS qCS ?_
    rintro cs' x ⟨a4,s4,x0,rfl,g7,g8,rfl,g9,g10⟩
    have hat:x0.toNat<ps.length:=by omega
    obtain ⟨A2,b,C2,rfl,hAk⟩:=rwp_split hat
    have hbr:=A.row b.2 (by simp)
    have hbn:b.2≠[]:=fun e=>by rw [e] at hbr;simp at hbr;omega
    have F0a:=DJ_out hdj hbn
    simp only [Bzhh,yzw,wpD_gh,go_sem,yz0,xx9,xx8,xx6,xx7,xx5,xx0,xx1,xx2,reduceIte,xx3,xx4,reduceCtorEq]
    intro _
    refine ⟨[.thaw 28 x0.toNat 901],gwp_thaw (n:=b.1) rfl (rwp_get hAk.symm) (by simpa using hbn) rfl fun m1=>?_⟩
    have hset:(woL b.1 (rwp (A2 ++ b :: C2))).set x0.toNat (AVal.own 901 m1)=rwp A2 ++ AVal.own 901 m1 :: rwp C2:=by rw [← hAk];exact woL_set F0a
    have ho1:(rwp A2 ++ AVal.own 901 m1 :: rwp C2).getD x0.toNat .any=.own 901 m1:=own_at hAk.symm
    have hol:(rwp A2 ++ AVal.own 901 m1 :: rwp C2).length=A2.length+(C2.length+1):=by rw [List.length_append,List.length_cons,rwp_len,rwp_len]
    have hkl:x0.toNat<(rwp A2 ++ AVal.own 901 m1 :: rwp C2).length:=by omega
    simp only [hset,woT,woO,woL_cons,woL_nil,woV_val,woV_own,wo_ptr,wo_o,woL_ints,wo_st,woO_row,woO_box,woO_gone,wo_any,gwp_nil,yzw,yz2,go_sem,yz0,xx9,xx8,xx6,xx7,xx5,xx0,xx1,xx2,reduceIte,xx3,xx4,reduceCtorEq]
    intro vs8 U8 hN8
    simp only [ho1,go_sem,yz0,xx9,xx8,xx6,xx7,xx5,xx0,xx1,xx2,reduceIte,xx3,xx4,reduceCtorEq]
    refine ⟨⟨g9,hkl⟩,hkl,?_⟩
    refine call_funBN (k_pick code a4 s4 n hb (by omega)) rfl (by simp) qCS qCS ⟨srcC code a4 0,.int .i64 0,⟨a4,0,0,rfl,by omega,by omega,rfl,by omega,.inr rfl⟩,flat_srcC⟩ ?_
    rintro cs' x ⟨a5,s5,y1,rfl,p1,p2,rfl,p3,p4⟩
    have hy1:y1.toNat<b.2.length:=by omega
    simp only [ho1,yzw,yz2,go_sem,yz0,xx9,xx8,xx6,xx7,xx5,xx0,xx1,xx2,reduceIte,xx3,xx4,reduceCtorEq]
    refine ⟨⟨g9,hkl⟩,hkl,?_⟩
    refine call_funBN (k_pick code a5 s5 n hb (by omega)) rfl (by simp) qCS qCS ⟨srcC code a5 0,.int .i64 0,⟨a5,0,0,rfl,by omega,by omega,rfl,by omega,.inr rfl⟩,flat_srcC⟩ ?_
    rintro cs' x ⟨a6,s6,y2,rfl,p5,p6,rfl,p7,p8⟩
    have hy2:y2.toNat<b.2.length:=by omega
    simp only [yzx hy2,yzw,yz2,go_sem,yz0,xx9,xx8,xx6,xx7,xx5,xx0,xx1,xx2,reduceIte,xx3,xx4,reduceCtorEq]
    refine ⟨⟨p7,hy2⟩,hy2,⟨p3,hy1⟩,hy1,?_⟩
    have hcl:=lput_len (xs:=b.2) (v:=b.2.getD y2.toNat 0) hy1
    have hcm:=lput_mem (xs:=b.2) (i:=y1.toNat) (v:=b.2.getD y2.toNat 0) (Q:=fun z=>0≤z∧z<n) hbr.2 (hbr.2 _ (yz1f hy2 0))
    simp only [ints_put]
    generalize hcu:b.2.take y1.toNat ++ [b.2.getD y2.toNat 0] ++ b.2.drop (y1.toNat+1)=cur at hcl hcm ⊢
    simp only [Bz3x,yzw,wpD_gh,go_sem,yz0,xx9,xx8,xx6,xx7,xx5,xx0,xx1,xx2,reduceIte,xx3,xx4,reduceCtorEq]
    intro hD
    refine ⟨[.rf 28 x0.toNat 901],gwp_rf (k:=1) (nn:=true) rfl (own_get hAk.symm) (by decide) rfl fun hf=>?_⟩
    have D1:=DJ_refrozen hdj hf (cur:=cur)
    have A1:=Aut_put A (u:=m1) hcl hcm
    have hset4:∀ X:AVal,(rwp A2 ++ AVal.own 901 m1 :: rwp C2).set x0.toNat X=rwp A2 ++ X :: rwp C2:=fun X=>by
      rw [← hAk,List.set_append_right _ _ (by rw [rwp_len];exact Nat.le_refl _),rwp_len,Nat.sub_self];rfl
    simp only [hset4,frNm_t,rwp_cat,gwp_nil,yzw,yz2,go_sem,yz0,xx9,xx8,xx6,xx7,xx5,xx0,xx1,xx2,reduceIte,xx3,xx4,reduceCtorEq]
    intro vs9 U9 hN9
    simp only [← hQ,Azs,go_sem,yz0,xx9,xx8,xx6,xx7,xx5,xx0,xx1,xx2,reduceIte,xx3,xx4,reduceCtorEq]
    refine ⟨[28],by simp,by simp,by simp,?_⟩
    simp only [range1,List.length_singleton,renL_rwp,Nat.not_lt_zero,range1,yz15,yz1a,yz1l,yz1k,yz19,yz1n,yz1m,yz1j,yz17,yzv,yzf,yz4,yzy,yz11,yzs,yzp,yzz,yz8,yzd,yz9,yzb,yzi,yzh,yz3,yz7,yze,yzc,yzj,yzk,List.range_zero,yz6,yz5,yza,yz10,yzl,yzu,AVal.fresh,freshL,yz1,yzg,AObj.fresh,id,Option.isSome_some,or_true,true_or,go_sem,yz0,xx9,xx8,xx6,xx7,xx5,xx0,xx1,xx2,reduceIte,xx3,xx4,reduceCtorEq]
    exact ⟨n,A2 ++ (m1,cur) :: C2,v',a6,s6,FAut.lo ⟨A1,D1,hn6⟩,by omega,by omega,rfl,by simp,rfl⟩
theorem k_l03Linked (code:List Int) (at_ seed:Int) (hb:∀ x∈code,0≤x∧x≤255) (ha:0≤at_∧at_≤1000) :
    Con Tryz.prog nz24 [.box 0 (srcC code at_ seed)] [.ptr 5000 0 0] true fun outs rows res=>∃ n ps v a' s',FLo n ps∧at_≤a'∧a'≤at_+6000∧outs=[.box 0 (srcC code a' s')]∧rows=[.row v 1 true (rwp ps)]∧res=.st [iv n,.own 6000 v]:=by
  refine con_sh mixed czpj rfl (by simp) ?_
  generalize hQ:finQ _=Q
  simp only [Az37,Bzdj,yzw,yz2,go_sem,yz0,xx9,xx8,xx6,xx7,xx5,xx0,xx1,xx2,reduceIte,xx3,xx4,reduceCtorEq]
  intro vs0 U0 hN0 vs1 U1 hN1
  refine call_lo (k:=5000) FLo_ren (k_l02Drawn code at_ seed hb (by omega)) rfl (fun x y e=>(hN1.inj _ _ _ _ e).2) (hN1.box (r:=5000) rfl 1) qCS qGN ?_
  intro n ps v' a1 s1 hf h1 h2
  have hend:∀ (σ:St) (v2 v3:Nat) (a s:Int),at_≤a∧a≤at_+6000 →
      σ.keep [2,3] [2,3,6,5000,901]=⟨L .any [(2,.ptr 2 v2 0),(3,.ptr 3 v3 0)],
        L .gone [(2,.box v2 [iv 0,.val (.slice none 0 0)]),(3,.box v3 [iv n,.own 6 v']),(6,.row v' 1 true (rwp ps)),(5000,.box 0 (srcC code a s)),(901,.gone)]⟩ →
      wpD Tryz.prog Bz36 Q σ:=by
    intro σ v2 v3 a s ha' hS
    unfold Bz36
    rw [yzw,hS]
    simp only [wpD_gh]
    intro _
    refine ⟨[],?_⟩
    simp only [gwp_nil,yzw,yz2,go_sem,yz0,xx9,xx8,xx6,xx7,xx5,xx0,xx1,xx2,reduceIte,xx3,xx4,reduceCtorEq]
    intro vs U hN
    simp only [← hQ,Az37,go_sem,yz0,xx9,xx8,xx6,xx7,xx5,xx0,xx1,xx2,reduceIte,xx3,xx4,reduceCtorEq]
    refine ⟨[6],by simp,by simp,by simp,?_⟩
    simp only [range1,List.length_singleton,renL_rwp,Nat.not_lt_zero,range1,yz15,yz1a,yz1l,yz1k,yz19,yz1n,yz1m,yz1j,yz17,yzv,yzf,yz4,yzy,yz11,yzs,yzp,yzz,yz8,yzd,yz9,yzb,yzi,yzh,yz3,yz7,yze,yzc,yzj,yzk,List.range_zero,yz6,yz5,yza,yz10,yzl,yzu,AVal.fresh,freshL,yz1,yzg,AObj.fresh,id,Option.isSome_some,or_true,true_or,go_sem,yz0,xx9,xx8,xx6,xx7,xx5,xx0,xx1,xx2,reduceIte,xx3,xx4,reduceCtorEq]
    exact ⟨n,ps,v',a,s,hf,ha'.1,ha'.2,rfl,by simp,rfl⟩
  simp only [Bzdi,yzw,yz2,go_sem,yz0,xx9,xx8,xx6,xx7,xx5,xx0,xx1,xx2,reduceIte,xx3,xx4,reduceCtorEq]
  intro vs2 U2 hN2
  refine yz12 (k_l01Ok n (ps.map (·.2))) (by simp only [coeL_rwp_t,rowIs,boxIs,yz1c,yz13,yz1d,yz14,yzm,yz1i,yz1g,coe_ro,yzt,yzo,coe_st,yzq,coe_rp,yzr,yz1h,yz1e,yz16,yzn,yz1b,yz18,L_hit,L_miss,L_nil,xx3,ne_eq,reduceCtorEq,not_false_eq_true,true_and,and_true,and_self,exists_eq_left,exists_eq_right,List.mem_cons,List.not_mem_nil,or_false,AObj.row.injEq,AObj.box.injEq,exists_eq_left',exists_and_left,exists_eq,Nat.zero_lt_one,Nat.lt_add_one,List.map_cons,List.map_nil,AObj.ver,xx5,not_true_eq_false]) trivial ?_
  cases hA:autB n (ps.map (·.2)) with
  | false =>
    simp only [Bz35,yzw,yz2,go_sem,yz0,xx9,xx8,xx6,xx7,xx5,xx0,xx1,xx2,reduceIte,xx3,xx4,reduceCtorEq]
    exact hend _ (vs0 0 0) (vs1 2 0) a1 s1 (by omega) (by simp only [go_sem,yz0,xx9,xx8,xx6,xx7,xx5,xx0,xx1,xx2,reduceIte,xx3,xx4,reduceCtorEq];try rfl)
  | true =>
    have A:=autB_iff.1 hA
    have n1:=A.n1
    have n2:=A.n2
    have l1:=A.l1
    have l2:=A.l2
    rw [List.length_map] at l1 l2
    have hdj:DJ ps:=hf.1 l2
    simp only [yzw,yz2,go_sem,yz0,xx9,xx8,xx6,xx7,xx5,xx0,xx1,xx2,reduceIte,xx3,xx4,reduceCtorEq]
    refine call_funB (k_one code a1 s1 4 hb (by omega)) rfl qCS qCS ?_
    rintro cs' x ⟨a2,s2,b2,rfl,g1,g2,rfl⟩
    cases b2 with
    | true =>
      simp only [Bz35,Bool.not_true,yzw,yz2,go_sem,yz0,xx9,xx8,xx6,xx7,xx5,xx0,xx1,xx2,reduceIte,xx3,xx4,reduceCtorEq]
      exact hend _ (vs0 0 0) (vs1 2 0) a2 s2 (by omega) (by simp only [go_sem,yz0,xx9,xx8,xx6,xx7,xx5,xx0,xx1,xx2,reduceIte,xx3,xx4,reduceCtorEq];try rfl)
    | false =>
      obtain ⟨A2,b,C2,rfl,hAk⟩:=rwp_split (show 0<ps.length by omega)
      have hbr:=A.row b.2 (by simp)
      have hbn:b.2≠[]:=fun e=>by rw [e] at hbr;simp at hbr;omega
      have F0a:=DJ_out hdj hbn
      simp only [Bz35,Bool.not_false,yzw,yz2,go_sem,yz0,xx9,xx8,xx6,xx7,xx5,xx0,xx1,xx2,reduceIte,xx3,xx4,reduceCtorEq]
      intro vs3 U3 hN3
      simp only [Bzdh,yzw,wpD_gh,go_sem,yz0,xx9,xx8,xx6,xx7,xx5,xx0,xx1,xx2,reduceIte,xx3,xx4,reduceCtorEq]
      intro _
      refine ⟨[.thaw 6 0 901],gwp_thaw (n:=b.1) rfl (rwp_get hAk.symm) (by simpa using hbn) rfl fun m1=>?_⟩
      have hset:(woL b.1 (rwp (A2 ++ b :: C2))).set 0 (AVal.own 901 m1)=rwp A2 ++ AVal.own 901 m1 :: rwp C2:=by rw [← hAk];exact woL_set F0a
      have ho1:(rwp A2 ++ AVal.own 901 m1 :: rwp C2).getD 0 .any=.own 901 m1:=own_at hAk.symm
      have hol:(rwp A2 ++ AVal.own 901 m1 :: rwp C2).length=A2.length+(C2.length+1):=by rw [List.length_append,List.length_cons,rwp_len,rwp_len]
      have hkl:0<(rwp A2 ++ AVal.own 901 m1 :: rwp C2).length:=by omega
      simp only [hset,woT,woO,woL_cons,woL_nil,woV_val,woV_own,wo_ptr,wo_o,woL_ints,wo_st,woO_row,woO_box,woO_gone,wo_any,gwp_nil,yzw,yz2,go_sem,yz0,xx9,xx8,xx6,xx7,xx5,xx0,xx1,xx2,reduceIte,xx3,xx4,reduceCtorEq]
      refine wpD_lp (fun (x:Nat×List Int)=>n.toNat - x.1) (fun x=>(x.1:Int)≤n∧x.2.length=b.2.length∧∀ z∈x.2,0≤z∧z<n)
        (fun (x:Nat×List Int)=>⟨L .any [(2,.ptr 2 (vs0 0 0) 0),(3,.ptr 3 (vs1 2 0) 0),(4,iv x.1)],
          L .gone [(2,.box (vs0 0 0) [iv 0,.val (.slice none 0 0)]),(3,.box (vs1 2 0) [iv n,.own 6 v']),(6,.row v' 1 true (rwp A2 ++ .own 901 m1 :: rwp C2)),(5000,.box 0 (srcC code a2 s2)),(901,.row m1 1 true (ints x.2))]⟩)
        (0,b.2) ⟨by simp;omega,rfl,hbr.2⟩ (by simp only [Bz34,go_sem,yz0,xx9,xx8,xx6,xx7,xx5,xx0,xx1,xx2,reduceIte,xx3,xx4,reduceCtorEq];try rfl) ?_
      rintro ⟨i,cur⟩ ⟨h3,h4,h5⟩
      have h3:(i:Int)≤n:=h3
      have h4:cur.length=b.2.length:=h4
      have h5:∀ z∈cur,0≤z∧z<n:=h5
      by_cases hlt:(i:Int)<n
      · have w1:IntKind.i64.wrap ((i:Int)+1)=((i+1:Nat):Int):=by rw [w64 (by omega)];simp
        have hn0:¬ n=0:=by omega
        have hil:i<cur.length:=by omega
        have t1:=tmod_in (a:=((i+1:Nat):Int)) (n:=n) (by omega) (by omega)
        simp only [Bz34,Bz7e,Bzdg,decide_eq_true hlt,yzw,yz2,go_sem,yz0,xx9,xx8,xx6,xx7,xx5,xx0,xx1,xx2,reduceIte,xx3,xx4,reduceCtorEq]
        intro vs4 U4 hN4 vs5 U5 hN5
        simp only [ho1,w1,hn0,go_sem,yz0,xx9,xx8,xx6,xx7,xx5,xx0,xx1,xx2,reduceIte,xx3,xx4,reduceCtorEq]
        refine ⟨hkl,hkl,⟨by omega,hil⟩,by omega,?_⟩
        have hcl:=lput_len (xs:=cur) (v:=((i+1:Nat):Int).tmod n) hil
        have hcm:=lput_mem (xs:=cur) (i:=i) (v:=((i+1:Nat):Int).tmod n) (Q:=fun z=>0≤z∧z<n) h5 t1
        simp only [ints_put]
        generalize hcu:cur.take i ++ [((i+1:Nat):Int).tmod n] ++ cur.drop (i+1)=cur2 at hcl hcm ⊢
        simp only [Bzdf,w1,yzw,yz2,go_sem,yz0,xx9,xx8,xx6,xx7,xx5,xx0,xx1,xx2,reduceIte,xx3,xx4,reduceCtorEq]
        intro vs6 U6 hN6
        exact ⟨(i+1,cur2),by dsimp only;omega,⟨by dsimp only;omega,by dsimp only;omega,hcm⟩,rfl⟩
      · simp only [Bz34,Bz7e,Bz36,decide_eq_false hlt,yzw,yz2,wpD_gh,go_sem,yz0,xx9,xx8,xx6,xx7,xx5,xx0,xx1,xx2,reduceIte,xx3,xx4,reduceCtorEq]
        intro vs4 U4 hN4 hD
        refine ⟨[.rf 6 0 901],gwp_rf (k:=1) (nn:=true) rfl (own_get hAk.symm) (by decide) rfl fun hf2=>?_⟩
        have D1:=DJ_refrozen hdj hf2 (cur:=cur)
        have A1:=Aut_put A (u:=m1) h4 h5
        have hset4:∀ X:AVal,(rwp A2 ++ AVal.own 901 m1 :: rwp C2).set 0 X=rwp A2 ++ X :: rwp C2:=fun X=>by
          rw [← hAk,List.set_append_right _ _ (by rw [rwp_len];exact Nat.le_refl _),rwp_len,Nat.sub_self];rfl
        simp only [hset4,frNm_t,rwp_cat,gwp_nil,yzw,yz2,go_sem,yz0,xx9,xx8,xx6,xx7,xx5,xx0,xx1,xx2,reduceIte,xx3,xx4,reduceCtorEq]
        intro vs9 U9 hN9
        simp only [← hQ,Az37,go_sem,yz0,xx9,xx8,xx6,xx7,xx5,xx0,xx1,xx2,reduceIte,xx3,xx4,reduceCtorEq]
        refine ⟨[6],by simp,by simp,by simp,?_⟩
        simp only [range1,List.length_singleton,renL_rwp,Nat.not_lt_zero,range1,yz15,yz1a,yz1l,yz1k,yz19,yz1n,yz1m,yz1j,yz17,yzv,yzf,yz4,yzy,yz11,yzs,yzp,yzz,yz8,yzd,yz9,yzb,yzi,yzh,yz3,yz7,yze,yzc,yzj,yzk,List.range_zero,yz6,yz5,yza,yz10,yzl,yzu,AVal.fresh,freshL,yz1,yzg,AObj.fresh,id,Option.isSome_some,or_true,true_or,go_sem,yz0,xx9,xx8,xx6,xx7,xx5,xx0,xx1,xx2,reduceIte,xx3,xx4,reduceCtorEq]
        exact ⟨n,A2 ++ (m1,cur) :: C2,v',a2,s2,FAut.lo (m:=10) ⟨A1,D1,by omega⟩,by omega,by omega,rfl,by simp,rfl⟩
theorem k_A2Automaton (code:List Int) (hb:∀ x∈code,0≤x∧x≤255) :
    Con Tryz.prog nz5b [] [.ro (some (some 0)) 1 (intsK .u8 code)] true fun outs rows res=>outs=[]∧∃ n next v,Aut n next∧n≤7∧rows=[.row v 1 true (rws next)]∧res=.st [iv n,.own 6000 v]:=by
  refine con_sh mixed czp9 rfl (by simp) ?_
  generalize hQ:finQ _=Q
  simp only [Az1e,Bzc5,go_sem,yz0,xx9,xx8,xx6,xx7,xx5,xx0,xx1,xx2,reduceIte,xx3,xx4,reduceCtorEq]
  intro vs0 vs1
  refine call_sh (k_from code) qCS (fun e=>by cases e) ?_
  rintro outs rows res ⟨rfl,v,rfl,rfl⟩
  refine ⟨rfl,by simp,by rw [Option.getD_some,yzl];rfl,?_⟩
  simp only [Bzc4,Nat.not_lt_zero,range1,yz15,yz1a,yz1l,yz1k,yz19,yz1n,yz1m,yz1j,yz17,yzv,yzf,yz4,yzy,yz11,yzs,yzp,yzz,yz8,yzd,yz9,yzb,yzi,yzh,yz3,yz7,yze,yzc,yzj,yzk,List.range_zero,yz6,yz5,yza,yz10,yzl,yzu,AVal.fresh,freshL,yz1,yzg,AObj.fresh,id,Option.isSome_some,or_true,true_or,go_sem,yz0,xx9,xx8,xx6,xx7,xx5,xx0,xx1,xx2,reduceIte,xx3,xx4,reduceCtorEq]
  intro vs2
  have h:Con Tryz.prog nz24 [.box 0 (srcC code 0 0)] [.ptr 5000 0 0] true fun outs rows res=>∃ n next v a' s',outs=[.box 0 (srcC code a' s')]∧rows=[.row v 1 true (rws next)]∧res=.st [iv n,.own 6000 v]:=by
    refine Con.dnr (k_l03Linked code 0 0 hb (by omega)) ?_
    rintro o r x ⟨n,ps,v,a',s',hf,h1,h2,rfl,rfl,rfl⟩
    refine ⟨n,ps.map (·.2),v,a',s',?_,?_,?_⟩
    · simp only [List.map_cons,List.map_nil,AObj.dn,dnL,AVal.dn,dnL_ints,dnNm]
    · simp only [List.map_cons,List.map_nil,AObj.dn,dnL_rwp]
    · simp only [AVal.dn,dnL]
  refine call_con (r:=6) h rfl (by simp only [Bool.not_true,rowIs,boxIs,yz1c,yz13,yz1d,yz14,yzm,yz1i,yz1g,coe_ro,yzt,yzo,coe_st,yzq,coe_rp,yzr,yz1h,yz1e,yz16,yzn,yz1b,yz18,L_hit,L_miss,L_nil,xx3,ne_eq,reduceCtorEq,not_false_eq_true,true_and,and_true,and_self,exists_eq_left,exists_eq_right,List.mem_cons,List.not_mem_nil,or_false,AObj.row.injEq,AObj.box.injEq,exists_eq_left',exists_and_left,exists_eq,Nat.zero_lt_one,Nat.lt_add_one,List.map_cons,List.map_nil,AObj.ver,xx5,not_true_eq_false]) (by simp only [Bool.not_true,rowIs,boxIs,yz1c,yz13,yz1d,yz14,yzm,yz1i,yz1g,coe_ro,yzt,yzo,coe_st,yzq,coe_rp,yzr,yz1h,yz1e,yz16,yzn,yz1b,yz18,L_hit,L_miss,L_nil,xx3,ne_eq,reduceCtorEq,not_false_eq_true,true_and,and_true,and_self,exists_eq_left,exists_eq_right,List.mem_cons,List.not_mem_nil,or_false,AObj.row.injEq,AObj.box.injEq,exists_eq_left',exists_and_left,exists_eq,Nat.zero_lt_one,Nat.lt_add_one,List.map_cons,List.map_nil,AObj.ver,xx5,not_true_eq_false]) ?_
  rintro outs rows res ⟨n,next,v',a',s',rfl,rfl,rfl⟩
  refine ⟨rfl,by simp,by rw [Option.getD_some,yzl];simp only [go_sem,yz0,xx9,xx8,xx6,xx7,xx5,xx0,xx1,xx2,reduceIte,xx3,xx4,reduceCtorEq],?_⟩
  rw [Option.getD_some,callHp_mr (by omega)]
  have hslow:Con Tryz.prog nz17 [] [iv 4] true fun outs rows res=>outs=[]∧∃ next v,Aut 4 next∧rows=[.row v 1 true (rws next)]∧res=.st [iv 4,.own 6000 v]:=by
    refine Con.dnr (k_l02SlowN 4 (by omega)) ?_
    rintro o r x ⟨rfl,v,ps,hA,hd,rfl,rfl⟩
    refine ⟨rfl,ps.map (·.2),v,hA,?_,?_⟩
    · simp only [List.map_cons,List.map_nil,AObj.dn,dnL_rwp]
    · simp only [AVal.dn,dnL]
  simp only [Bzc3,Nat.not_lt_zero,range1,yz15,yz1a,yz1l,yz1k,yz19,yz1n,yz1m,yz1j,yz17,yzv,yzf,yz4,yzy,yz11,yzs,yzp,yzz,yz8,yzd,yz9,yzb,yzi,yzh,yz3,yz7,yze,yzc,yzj,yzk,List.range_zero,yz6,yz5,yza,yz10,yzl,yzu,AVal.fresh,freshL,yz1,yzg,AObj.fresh,id,Option.isSome_some,or_true,true_or,go_sem,yz0,xx9,xx8,xx6,xx7,xx5,xx0,xx1,xx2,reduceIte,xx3,xx4,reduceCtorEq]
  intro vs3
  refine yz12 (k_l01Ok n next) qCS trivial ?_
  cases hA:autB n next with
  | false =>
    simp only [Bz2t,Bz6s,go_sem,yz0,xx9,xx8,xx6,xx7,xx5,xx0,xx1,xx2,reduceIte,xx3,xx4,reduceCtorEq]
    intro vs5
    refine call_sh hslow qCS (fun e=>by cases e) ?_
    rintro outs rows res ⟨rfl,next2,v2,A2,rfl,rfl⟩
    refine ⟨rfl,by simp,by rw [Option.getD_some,yzl];simp only [go_sem,yz0,xx9,xx8,xx6,xx7,xx5,xx0,xx1,xx2,reduceIte,xx3,xx4,reduceCtorEq],?_⟩
    simp only [← hQ,Az1e,dnL_rws,Nat.not_lt_zero,range1,yz15,yz1a,yz1l,yz1k,yz19,yz1n,yz1m,yz1j,yz17,yzv,yzf,yz4,yzy,yz11,yzs,yzp,yzz,yz8,yzd,yz9,yzb,yzi,yzh,yz3,yz7,yze,yzc,yzj,yzk,List.range_zero,yz6,yz5,yza,yz10,yzl,yzu,AVal.fresh,freshL,yz1,yzg,AObj.fresh,id,Option.isSome_some,or_true,true_or,go_sem,yz0,xx9,xx8,xx6,xx7,xx5,xx0,xx1,xx2,reduceIte,xx3,xx4,reduceCtorEq]
    refine ⟨[16],by simp,by simp,by simp,?_⟩
    simp only [Nat.not_lt_zero,range1,yz15,yz1a,yz1l,yz1k,yz19,yz1n,yz1m,yz1j,yz17,yzv,yzf,yz4,yzy,yz11,yzs,yzp,yzz,yz8,yzd,yz9,yzb,yzi,yzh,yz3,yz7,yze,yzc,yzj,yzk,List.range_zero,yz6,yz5,yza,yz10,yzl,yzu,AVal.fresh,freshL,yz1,yzg,AObj.fresh,id,Option.isSome_some,or_true,true_or,go_sem,yz0,xx9,xx8,xx6,xx7,xx5,xx0,xx1,xx2,reduceIte,xx3,xx4,reduceCtorEq]
    exact ⟨4,next2,_,A2,by omega,rfl,rfl⟩
  | true =>
    have A:=autB_iff.1 hA
    by_cases h7:n≤7
    · simp only [decide_eq_true h7,Bz2t,← hQ,Az1e,dnL_rws,go_sem,yz0,xx9,xx8,xx6,xx7,xx5,xx0,xx1,xx2,reduceIte,xx3,xx4,reduceCtorEq]
      refine ⟨[8],by simp,by simp,by simp,?_⟩
      simp only [Nat.not_lt_zero,range1,yz15,yz1a,yz1l,yz1k,yz19,yz1n,yz1m,yz1j,yz17,yzv,yzf,yz4,yzy,yz11,yzs,yzp,yzz,yz8,yzd,yz9,yzb,yzi,yzh,yz3,yz7,yze,yzc,yzj,yzk,List.range_zero,yz6,yz5,yza,yz10,yzl,yzu,AVal.fresh,freshL,yz1,yzg,AObj.fresh,id,Option.isSome_some,or_true,true_or,go_sem,yz0,xx9,xx8,xx6,xx7,xx5,xx0,xx1,xx2,reduceIte,xx3,xx4,reduceCtorEq]
      exact ⟨n,next,_,A,h7,rfl,rfl⟩
    · simp only [Bz2t,Bz6s,decide_eq_false h7,go_sem,yz0,xx9,xx8,xx6,xx7,xx5,xx0,xx1,xx2,reduceIte,xx3,xx4,reduceCtorEq]
      intro vs5
      refine call_sh hslow qCS (fun e=>by cases e) ?_
      rintro outs rows res ⟨rfl,next2,v2,A2,rfl,rfl⟩
      refine ⟨rfl,by simp,by rw [Option.getD_some,yzl];simp only [go_sem,yz0,xx9,xx8,xx6,xx7,xx5,xx0,xx1,xx2,reduceIte,xx3,xx4,reduceCtorEq],?_⟩
      simp only [← hQ,Az1e,dnL_rws,Nat.not_lt_zero,range1,yz15,yz1a,yz1l,yz1k,yz19,yz1n,yz1m,yz1j,yz17,yzv,yzf,yz4,yzy,yz11,yzs,yzp,yzz,yz8,yzd,yz9,yzb,yzi,yzh,yz3,yz7,yze,yzc,yzj,yzk,List.range_zero,yz6,yz5,yza,yz10,yzl,yzu,AVal.fresh,freshL,yz1,yzg,AObj.fresh,id,Option.isSome_some,or_true,true_or,go_sem,yz0,xx9,xx8,xx6,xx7,xx5,xx0,xx1,xx2,reduceIte,xx3,xx4,reduceCtorEq]
      refine ⟨[16],by simp,by simp,by simp,?_⟩
      simp only [Nat.not_lt_zero,range1,yz15,yz1a,yz1l,yz1k,yz19,yz1n,yz1m,yz1j,yz17,yzv,yzf,yz4,yzy,yz11,yzs,yzp,yzz,yz8,yzd,yz9,yzb,yzi,yzh,yz3,yz7,yze,yzc,yzj,yzk,List.range_zero,yz6,yz5,yza,yz10,yzl,yzu,AVal.fresh,freshL,yz1,yzg,AObj.fresh,id,Option.isSome_some,or_true,true_or,go_sem,yz0,xx9,xx8,xx6,xx7,xx5,xx0,xx1,xx2,reduceIte,xx3,xx4,reduceCtorEq]
      exact ⟨4,next2,_,A2,by omega,rfl,rfl⟩
end Go.Ab
namespace Go.Ab
open Go.Proofs
abbrev fv (f:Nat):AVal:=.val (.int .u64 (f:Int))
theorem u64w {n:Nat} (h:n<18446744073709551616):IntKind.u64.wrap (n:Int)=n:=IntWalk.u64_in _ (by omega)
theorem bv64 {x:Nat} (h:x<18446744073709551616):(BitVec.ofInt 64 (x:Int)).toNat=x:=by
  rw [BitVec.ofInt_natCast,BitVec.toNat_ofNat,Nat.mod_eq_of_lt h]
theorem u_or {x y:Nat} (hx:x<18446744073709551616) (hy:y<18446744073709551616) :
    IntKind.u64.wrap ((BitVec.ofInt 64 (x:Int) ||| BitVec.ofInt 64 (y:Int)).toNat)=((x ||| y:Nat):Int):=by
  have h:(BitVec.ofInt 64 (x:Int) ||| BitVec.ofInt 64 (y:Int)).toNat=x ||| y:=by rw [BitVec.toNat_or,bv64 hx,bv64 hy]
  show IntKind.u64.wrap ((BitVec.ofInt 64 (x:Int) ||| BitVec.ofInt 64 (y:Int)).toNat:Int)=_
  rw [h];exact u64w (Nat.or_lt_two_pow (n:=64) hx hy)
theorem u_and {x y:Nat} (hx:x<18446744073709551616) (hy:y<18446744073709551616) :
    IntKind.u64.wrap ((BitVec.ofInt 64 (x:Int) &&& BitVec.ofInt 64 (y:Int)).toNat)=((x &&& y:Nat):Int):=by
  have h:(BitVec.ofInt 64 (x:Int) &&& BitVec.ofInt 64 (y:Int)).toNat=x &&& y:=by rw [BitVec.toNat_and,bv64 hx,bv64 hy]
  show IntKind.u64.wrap ((BitVec.ofInt 64 (x:Int) &&& BitVec.ofInt 64 (y:Int)).toNat:Int)=_
  rw [h];exact u64w (Nat.lt_of_le_of_lt Nat.and_le_left hx)
theorem u_and1 {x:Nat} (hx:x<18446744073709551616) :
    IntKind.u64.wrap ((@HAnd.hAnd (BitVec 64) (BitVec 64) (BitVec 64) (@instHAndOfAndOp (BitVec IntKind.u64.bits) (@BitVec.instAndOp IntKind.u64.bits)) (BitVec.ofInt 64 (x:Int)) (BitVec.ofInt 64 1)).toNat)=((x &&& 1:Nat):Int):=u_and (y:=1) hx (by omega)
theorem u_andW {x y:Nat} (hx:x<18446744073709551616) (hy:y<18446744073709551616) :
    IntKind.u64.wrap ((@HAnd.hAnd (BitVec 64) (BitVec 64) (BitVec 64) (@instHAndOfAndOp (BitVec IntKind.u64.bits) (@BitVec.instAndOp IntKind.u64.bits)) (BitVec.ofInt 64 (x:Int)) (BitVec.ofInt 64 (y:Int))).toNat)=((x &&& y:Nat):Int):=u_and hx hy
theorem u_orW {x y:Nat} (hx:x<18446744073709551616) (hy:y<18446744073709551616) :
    IntKind.u64.wrap ((@HOr.hOr (BitVec 64) (BitVec 64) (BitVec 64) (@instHOrOfOrOp (BitVec IntKind.u64.bits) (@BitVec.instOrOp IntKind.u64.bits)) (BitVec.ofInt 64 (x:Int)) (BitVec.ofInt 64 (y:Int))).toNat)=((x ||| y:Nat):Int):=u_or hx hy
theorem u_shl {b:Nat} (h:b<64):IntKind.u64.wrap (1 * 2 ^ min b 64)=((2 ^ b:Nat):Int):=by
  have h1:min b 64=b:=by omega
  have h2:(2:Int) ^ b=((2 ^ b:Nat):Int):=by simp
  rw [h1,Int.one_mul,h2]
  exact u64w (Nat.pow_lt_pow_right (a:=2) (n:=64) (by omega) h)
theorem u_shr {f s:Nat} (h:s≤64):((f:Int)).fdiv (2 ^ min s 64)=((f >>> s:Nat):Int):=by
  have h1:min s 64=s:=by omega
  have h2:(2:Int) ^ s=((2 ^ s:Nat):Int):=by simp
  rw [h1,h2,Nat.shiftRight_eq_div_pow,Int.fdiv_eq_ediv_of_nonneg _ (Int.natCast_nonneg _)]
  rfl
def bitsTo (f s:Nat):List Int:=((List.range s).filter fun k=>f.testBit k).map fun (k:Nat)=>(k:Int)
theorem bitsTo_succ {f s:Nat}:bitsTo f (s+1)=if f.testBit s=true then bitsTo f s ++ [(s:Int)] else bitsTo f s:=by
  unfold bitsTo
  rw [List.range_succ,List.filter_append]
  cases h:f.testBit s with
  | true=>simp [h]
  | false=>simp [h]
theorem bitsTo_len {f s:Nat}:(bitsTo f s).length≤s:=by
  unfold bitsTo
  rw [List.length_map]
  have:=List.length_filter_le (fun k=>f.testBit k) (List.range s)
  rw [List.length_range] at this;exact this
theorem bitsTo_add {f s:Nat} (h:f<2 ^ s):∀ d,bitsTo f (s+d)=bitsTo f s
  | 0=>rfl
  | d+1=>by
    rw [show s+(d+1)=s+d+1 by omega,bitsTo_succ,Nat.testBit_lt_two_pow (Nat.lt_of_lt_of_le h (Nat.pow_le_pow_right (by omega) (by omega))),if_neg (by simp),bitsTo_add h d]
theorem dec_beqN {a k:Nat}:decide (a=k)=Nat.beq a k:=by
  rw [Bool.eq_iff_iff,decide_eq_true_iff,Nat.beq_eq]
theorem shr_zero {f s:Nat}:f >>> s=0↔f<2 ^ s:=by
  rw [Nat.shiftRight_eq_div_pow,Nat.div_eq_zero_iff]
  have:=Nat.two_pow_pos s
  omega
theorem k_flock_set (f:Nat) (h:f<1024):RowI Tryz.prog nz6j [fv f] (fun ys=>ys=bitsTo f 10):=by
  refine rowI_of mixed czrp rfl ?_
  simp only [Azov,Bzou,Bzot,Bzor,go_sem,yz0,xx9,xx8,xx6,xx7,xx5,xx0,xx1,xx2,reduceIte,xx3,xx4,reduceCtorEq]
  intro vs
  refine wpD_lo (fun (_,s)=>10 - s) (fun (_,s)=>s≤10) (fun ((v,s):Nat×Nat)=>⟨L .any [(0,fv f),(3,.own 5 v),(4,iv s)],L .gone [(5,.row v 1 true (ints (bitsTo f s)))]⟩)
    (_,0) (by simp) (by simp only [Bz1y,go_sem,yz0,xx9,xx8,xx6,xx7,xx5,xx0,xx1,xx2,reduceIte,xx3,xx4,reduceCtorEq];try rfl) ?_
  rintro ⟨v,s⟩ hs
  have hs:s≤10:=hs
  have hs0:¬ ((s:Nat):Int)<0:=by omega
  have hsh:=u_shr (f:=f) (s:=s) (by omega)
  have hlt:f >>> s<18446744073709551616:=by rw [Nat.shiftRight_eq_div_pow];exact Nat.lt_of_le_of_lt (Nat.div_le_self _ _) (by omega)
  by_cases hz:(0:Int)<((f >>> s:Nat):Int)
  · have hs10:s<10:=by
      by_cases e:s<10
      · exact e
      · have:f >>> s=0:=shr_zero.2 (Nat.lt_of_lt_of_le (show f<2 ^ 10 from h) (Nat.pow_le_pow_right (by omega) (by omega)))
        omega
    have hand:=u_and1 hlt
    have hbit:((((f >>> s &&& 1:Nat):Int)) == 1)=f.testBit s:=by
      rw [Nat.testBit_eq_decide_div_mod_eq,Nat.and_one_is_mod,Nat.shiftRight_eq_div_pow,Bool.eq_iff_iff,beq_iff_eq,decide_eq_true_iff]
      generalize f / 2 ^ s % 2=q
      omega
    have w1:IntKind.i64.wrap ((s:Int)+1)=((s+1:Nat):Int):=by rw [w64 (by omega)];simp
    cases hb:f.testBit s with
    | true =>
      rw [hb] at hbit
      have hr:bitsTo f s ++ [(s:Int)]=bitsTo f (s+1):=by rw [bitsTo_succ,if_pos hb]
      have hl:=bitsTo_len (f:=f) (s:=s)
      simp only [Bz1y,Bz56,Bz57,Bzbn,Bzbo,hs0,hsh,hand,hbit,w1,hr,decide_eq_true hz,go_sem,yz0,xx9,xx8,xx6,xx7,xx5,xx0,xx1,xx2,reduceIte,xx3,xx4,reduceCtorEq]
      intro vs2
      exact ⟨⟨_,rfl,rfl⟩,by omega,(_,s+1),by dsimp only;omega,by dsimp only;omega,rfl⟩
    | false =>
      rw [hb] at hbit
      have hr:bitsTo f s=bitsTo f (s+1):=by rw [bitsTo_succ,if_neg (by simp [hb])]
      simp only [Bz1y,Bz56,Bz57,Bzbn,Bzbo,hs0,hsh,hand,hbit,w1,decide_eq_true hz,go_sem,yz0,xx9,xx8,xx6,xx7,xx5,xx0,xx1,xx2,reduceIte,xx3,xx4,reduceCtorEq]
      refine ⟨(v,s+1),by dsimp only;omega,by dsimp only;omega,?_⟩
      dsimp only
      rw [← hr]
  · have he:bitsTo f 10=bitsTo f s:=by
      have h1:f >>> s=0:=Nat.eq_zero_of_not_pos fun e=>hz (Int.natCast_pos.2 e)
      have h2:=bitsTo_add (shr_zero.1 h1) (10 - s)
      rw [show s+(10 - s)=10 by omega] at h2;exact h2
    simp only [Bz1y,Bz56,Bz57,Bzos,hs0,hsh,decide_eq_false hz,he,go_sem,yz0,xx9,xx8,xx6,xx7,xx5,xx0,xx1,xx2,reduceIte,xx3,xx4,reduceCtorEq]
    exact ⟨5,v,_,by omega,rfl,by simp only [go_sem,yz0,xx9,xx8,xx6,xx7,xx5,xx0,xx1,xx2,reduceIte,xx3,xx4,reduceCtorEq],rfl⟩
theorem getD_snoc {α β:Type} (xs:List α) (g:β→α→β) (o:β) (d:α) {i:Nat} (h:i<xs.length):g ((xs.take i).foldl g o) (xs.getD i d)=(xs.take (i+1)).foldl g o:=by
  rw [List.take_succ_eq_append_getElem h,List.foldl_append,List.getD_eq_getElem?_getD,List.getElem?_eq_getElem h];rfl
theorem maskN_lt {set:List Int} (h:∀ s∈set,0≤s∧s<10):maskN set<1024:=fold_lt (fun s:Int=>s.toNat) set 0 (fun x hx=>by have:=h x hx;omega) (by omega)
theorem k_flockOf (set:List Int) (h:∀ s∈set,0≤s∧s<10):Fun Tryz.prog nz5s [.ro none 1 (ints set)] (fv (maskN set)):=by
  refine fun_of mixed czqm rfl ⟨rfl,trivial⟩ ?_
  simp only [Aziq,Bzip,Bzio,Bzim,go_sem,yz0,xx9,xx8,xx6,xx7,xx5,xx0,xx1,xx2,reduceIte,xx3,xx4,reduceCtorEq]
  intro hM
  have hM2:=maxLen_le
  refine wpD_lo (fun i=>set.length - i) (fun i=>i≤set.length)
    (fun i:Nat=>⟨L .any [(3,fv (maskN (set.take i))),(6,.ro none 1 (ints set)),(7,iv set.length),(8,iv i)],L .gone []⟩) 0 (by simp) (by simp only [Bz41,go_sem,yz0,xx9,xx8,xx6,xx7,xx5,xx0,xx1,xx2,reduceIte,xx3,xx4,reduceCtorEq];try rfl) ?_
  rintro i hi
  by_cases hlt:(i:Int)<set.length
  · have hlt1:i<set.length:=by omega
    have hs:=h _ (yz1f hlt1 0)
    have hs0:¬ set.getD i 0<0:=by omega
    have h1:=maskN_lt (set:=set.take i) (fun s hs=>h s (List.mem_of_mem_take hs))
    have h2:=pow_lt10 (k:=(set.getD i 0).toNat) (by omega)
    have hsl:=u_shl (b:=(set.getD i 0).toNat) (by omega)
    have hor:=u_orW (x:=maskN (set.take i)) (y:=2 ^ (set.getD i 0).toNat) (by omega) (by omega)
    have hr:maskN (set.take i) ||| 2 ^ (set.getD i 0).toNat=maskN (set.take (i+1)):=getD_snoc set (fun o s=>o ||| 2 ^ s.toNat) 0 0 hlt1
    simp only [Bz41,Bz99,Bz98,Bzik,Bzil,yzx hlt1,hs0,hsl,hor,hr,nat1 i _ hlt1 hM,decide_eq_true hlt,go_sem,yz0,xx9,xx8,xx6,xx7,xx5,xx0,xx1,xx2,reduceIte,xx3,xx4,reduceCtorEq]
    exact ⟨⟨by omega,hlt1⟩,hlt1,i+1,by omega,by omega,rfl⟩
  · have:i=set.length:=by omega
    subst this
    simp only [Bz41,Bz99,Bz98,Bzin,decide_eq_false hlt,List.take_length,go_sem,yz0,xx9,xx8,xx6,xx7,xx5,xx0,xx1,xx2,reduceIte,xx3,xx4,reduceCtorEq]
theorem k_isSmall (f:Nat) (h:f<1024):Fun Tryz.prog nzb [fv f] (bv (smallN f)):=by
  refine fun_of mixed czqn rfl ⟨rfl,trivial⟩ ?_
  by_cases h0:f=0
  · subst h0
    simp only [Az9f,Bz9e,go_sem,yz0,xx9,xx8,xx6,xx7,xx5,xx0,xx1,xx2,reduceIte,xx3,xx4,reduceCtorEq]
    rfl
  · have e:IntKind.u64.wrap ((f:Int) - 1)=((f - 1:Nat):Int):=by rw [show (f:Int) - 1=((f - 1:Nat):Int) by omega];exact u64w (by omega)
    have hand:=u_andW (x:=f) (y:=f - 1) (by omega) (by omega)
    have hb:((((f &&& (f - 1):Nat)):Int) == 0)=smallN f:=by
      unfold smallN
      rw [← dec_beqN,Bool.eq_iff_iff,beq_iff_eq,decide_eq_true_iff];omega
    simp only [Az9f,Bz9e,e,hand,hb,go_sem,yz0,xx9,xx8,xx6,xx7,xx5,xx0,xx1,xx2,reduceIte,xx3,xx4,reduceCtorEq]
theorem k_IndexFuncF (xs:List Nat) (g:FuncId) (caps:List AVal) (p:Nat→Bool) (hc:Caps caps) (h:∀ x∈xs,Fun Tryz.prog g (fv x :: caps) (bv (p x))) :
    Fun Tryz.prog nz2r [.ro none 1 (intsK .u64 (xs.map fun (x:Nat)=>(x:Int))),.clo g caps] (iv (fidx p xs 0)):=by
  refine fun_of mixed czrb rfl ⟨rfl,trivial⟩ ?_
  simp only [Azmz,Bzmy,hc.dn,go_sem,yz0,xx9,xx8,xx6,xx7,xx5,xx0,xx1,xx2,reduceIte,xx3,xx4,reduceCtorEq]
  intro hM
  have hM2:=maxLen_le
  have hM:(xs.length:Int)≤maxLen:=by simpa using hM
  simp only [Bzmw,hc.dn,go_sem,yz0,xx9,xx8,xx6,xx7,xx5,xx0,xx1,xx2,reduceIte,xx3,xx4,reduceCtorEq]
  refine wpD_lo (fun i=>xs.length - i) (fun i=>i≤xs.length∧fidx p (xs.drop i) i=fidx p xs 0)
    (fun i:Nat=>⟨L .any [(0,.ro none 1 (intsK .u64 (xs.map fun (x:Nat)=>(x:Int)))),(1,.clo g caps),(7,iv xs.length),(8,iv i)],L .gone []⟩) 0 (by simp) (by simp only [Bz4p,hc.dn,go_sem,yz0,xx9,xx8,xx6,xx7,xx5,xx0,xx1,xx2,reduceIte,xx3,xx4,reduceCtorEq];try rfl) ?_
  rintro i ⟨hi,he⟩
  by_cases hlt:(i:Int)<xs.length
  · have hlt':i<xs.length:=by omega
    have hlm:i<(xs.map fun (x:Nat)=>(x:Int)).length:=by simpa using hlt'
    have hg:(xs.map fun (x:Nat)=>(x:Int)).getD i 0=((xs.getD i 0:Nat):Int):=by
      rw [List.getD_eq_getElem?_getD,List.getElem?_map,List.getElem?_eq_getElem hlt',List.getD_eq_getElem?_getD,List.getElem?_eq_getElem hlt'];rfl
    have w1:IntKind.i64.wrap ((i:Int)+1)=((i+1:Nat):Int):=by rw [w64 (by omega)];simp
    rw [drop_getD hlt' 0] at he
    simp only [fidx] at he
    simp only [Bz4p,Bzb1,Bzb0,Bzmu,yzx hlm,hg,decide_eq_true hlt,hc.dn,go_sem,yz0,xx9,xx8,xx6,xx7,xx5,xx0,xx1,xx2,reduceIte,xx3,xx4,reduceCtorEq]
    intro vs
    refine ⟨⟨by omega,hlt'⟩,hlt',?_⟩
    refine yz12 (h _ (yz1f hlt' 0)) (by simp only [rowIs,boxIs,yz1c,yz13,yz1d,yz14,yzm,yz1i,yz1g,coe_ro,yzt,yzo,coe_st,yzq,coe_rp,yzr,yz1h,yz1e,yz16,yzn,yz1b,yz18,L_hit,L_miss,L_nil,xx3,ne_eq,reduceCtorEq,not_false_eq_true,true_and,and_true,and_self,exists_eq_left,exists_eq_right,List.mem_cons,List.not_mem_nil,or_false,AObj.row.injEq,AObj.box.injEq,exists_eq_left',exists_and_left,exists_eq,Nat.zero_lt_one,Nat.lt_add_one,List.map_cons,List.map_nil,AObj.ver,xx5,not_true_eq_false];exact hc.coe _ _ _) trivial ?_
    simp only [Bzmt,Bzmv,w1,hc.dn,go_sem,yz0,xx9,xx8,xx6,xx7,xx5,xx0,xx1,xx2,reduceIte,xx3,xx4,reduceCtorEq]
    refine ⟨fun hp=>?_,fun hp=>⟨i+1,by omega,⟨by omega,?_⟩,rfl⟩⟩
    · rw [hp] at he;simp at he;rw [← he]
    · rw [hp] at he;simpa using he
  · have:i=xs.length:=by omega
    subst this
    rw [List.drop_length] at he
    simp only [fidx] at he
    simp only [Bz4p,Bzb1,Bzb0,Bzmx,decide_eq_false hlt,hc.dn,go_sem,yz0,xx9,xx8,xx6,xx7,xx5,xx0,xx1,xx2,reduceIte,xx3,xx4,reduceCtorEq]
    rw [← he]
def stepTo (row set:List Int):Nat:=set.foldl (fun o s=>o ||| 2 ^ (row.getD s.toNat 0).toNat) 0
theorem stepTo_all {row:List Int} {f:Nat}:stepTo row (bitsTo f 10)=stepN row f:=by
  unfold stepTo stepN bitsTo bitsN
  rw [List.foldl_map]
  rfl
theorem k_step (n:Int) (next:List (List Int)) (A:Aut n next) (f l:Nat) (hf:f<2 ^ n.toNat) (hl:l<next.length) :
    Fun Tryz.prog nz66 [autA n next,fv f,iv l] (fv (stepN (next.getD l []) f)):=by
  refine fun_of mixed czr9 rfl ⟨rfl,trivial⟩ ?_
  have n1:=A.n1
  have n2:=A.n2
  have hf10:f<1024:=Nat.lt_of_lt_of_le hf (Nat.pow_le_pow_right (by omega) (show n.toNat≤10 by omega))
  have hrow:=A.row _ (yz1f hl [])
  have hset:∀ s∈bitsTo f 10,0≤s∧s<n:=fun s hs=>by
    unfold bitsTo at hs
    obtain ⟨k,hk,rfl⟩:=List.mem_map.1 hs
    have:=bits_lt hf (show k∈bitsN f from hk)
    omega
  have hto:∀ s∈bitsTo f 10,((next.getD l []).getD s.toNat 0).toNat<10:=fun s hs=>by
    have h1:=hset s hs
    have:=hrow.2 _ (yz1f (show s.toNat<(next.getD l []).length by omega) 0)
    omega
  simp only [Azmo,Bzmn,go_sem,yz0,xx9,xx8,xx6,xx7,xx5,xx0,xx1,xx2,reduceIte,xx3,xx4,reduceCtorEq]
  intro vs
  simp only [Bzmm,go_sem,yz0,xx9,xx8,xx6,xx7,xx5,xx0,xx1,xx2,reduceIte,xx3,xx4,reduceCtorEq]
  intro vs2
  refine call_rowI (k_flock_set f hf10) qCS rfl ⟨_,rfl⟩ ?_
  rintro ys v rfl
  simp only [Bzmk,go_sem,yz0,xx9,xx8,xx6,xx7,xx5,xx0,xx1,xx2,reduceIte,xx3,xx4,reduceCtorEq]
  intro hM
  have hM2:=maxLen_le
  generalize hS:bitsTo f 10=set at hset hto hM ⊢
  refine wpD_lo (fun i=>set.length - i) (fun i=>i≤set.length)
    (fun i:Nat=>⟨L .any [(2,iv l),(3,.ptr 3 (vs 0 0) 0),(7,fv (stepTo (next.getD l []) (set.take i))),(11,.own 11 v),(12,iv set.length),(13,iv i)],L .gone [(3,.box (vs 0 0) [iv n,.ro none 1 (rwn next)]),(11,.row v 1 true (ints set))]⟩) 0 (by simp) (by simp only [Bz4o,go_sem,yz0,xx9,xx8,xx6,xx7,xx5,xx0,xx1,xx2,reduceIte,xx3,xx4,reduceCtorEq];try rfl) ?_
  rintro i hi
  by_cases hlt:(i:Int)<set.length
  · have hlt1:i<set.length:=by omega
    have hs:=hset _ (yz1f hlt1 0)
    have ht:=hto _ (yz1f hlt1 0)
    have hc:(set.getD i 0).toNat<(next.getD l []).length:=by omega
    have hv:=hrow.2 _ (yz1f hc 0)
    have hs0:¬ (next.getD l []).getD (set.getD i 0).toNat 0<0:=by omega
    have h1:stepTo (next.getD l []) (set.take i)<1024:=fold_lt (fun s:Int=>((next.getD l []).getD s.toNat 0).toNat) (set.take i) 0 (fun x hx=>hto x (List.mem_of_mem_take hx)) (by omega)
    have h2:=pow_lt10 ht
    have hsl:=u_shl (b:=((next.getD l []).getD (set.getD i 0).toNat 0).toNat) (by omega)
    have hor:=u_orW (x:=stepTo (next.getD l []) (set.take i)) (y:=2 ^ ((next.getD l []).getD (set.getD i 0).toNat 0).toNat) (by omega) (by omega)
    have hr:stepTo (next.getD l []) (set.take i) ||| 2 ^ ((next.getD l []).getD (set.getD i 0).toNat 0).toNat=stepTo (next.getD l []) (set.take (i+1)):=getD_snoc set (fun o s=>o ||| 2 ^ ((next.getD l []).getD s.toNat 0).toNat) 0 0 hlt1
    simp only [Bz4o,Bzaz,Bzmj,yzx hlt1,decide_eq_true hlt,go_sem,yz0,xx9,xx8,xx6,xx7,xx5,xx0,xx1,xx2,reduceIte,xx3,xx4,reduceCtorEq]
    refine ⟨⟨by omega,hlt1⟩,hlt1,?_⟩
    simp only [Bzmh,Bzmi,rwn_getD hl,yzx hc,hs0,hsl,hor,hr,nat1 i _ hlt1 hM,go_sem,yz0,xx9,xx8,xx6,xx7,xx5,xx0,xx1,xx2,reduceIte,xx3,xx4,reduceCtorEq]
    refine ⟨⟨by omega,hl⟩,hl,⟨hs.1,hc⟩,hc,i+1,by omega,by omega,rfl⟩
  · have:i=set.length:=by omega
    subst this
    simp only [Bz4o,Bzaz,Bzml,decide_eq_false hlt,List.take_length,go_sem,yz0,xx9,xx8,xx6,xx7,xx5,xx0,xx1,xx2,reduceIte,xx3,xx4,reduceCtorEq]
    rw [← hS,stepTo_all]
end Go.Ab
namespace Go.Ab
open Go.Proofs
abbrev keysF (L:TS):List Value:=L.map fun p=>Value.int .u64 (p.1:Int)
abbrev setsI (L:TS):List Int:=L.map fun p=>(p.1:Int)
theorem fkF_not {f:Nat}:∀ {L:TS} (i:Nat),hasT L f=false→findKeyAt (.int .u64 (f:Int)) (keysF L) i=some none
  | [],_,_=>rfl
  | p :: L,i,h=>by
    simp only [hasT,List.any_cons,Bool.or_eq_false_iff] at h
    have h1:((f:Int) == (p.1:Int))=false:=by
      have:p.1≠f:=fun e=>by rw [e,Nat.beq_refl] at h;cases h.1
      exact beq_false_of_ne fun e=>this (by omega)
    have h2:=fkF_not (f:=f) (L:=L) (i+1) h.2
    simp only [List.map_cons,findKeyAt,sameKey,h1,if_true]
    exact h2
theorem fkF_mem {f:Nat}:∀ {L:TS} (i:Nat),hasT L f=true→∃ j,findKeyAt (.int .u64 (f:Int)) (keysF L) i=some (some (i+j))∧j<L.length
  | [],_,h=>by cases h
  | p :: L,i,h=>by
    by_cases e:p.1=f
    · refine ⟨0,?_,by simp⟩
      have h1:((f:Int) == (p.1:Int))=true:=by rw [e];exact beq_self_eq_true _
      simp only [List.map_cons,findKeyAt,sameKey,h1,if_true,Nat.add_zero]
    · have h0:Nat.beq p.1 f=false:=by rw [← dec_beqN];exact decide_eq_false e
      simp only [hasT,List.any_cons,h0,Bool.false_or] at h
      have h1:((f:Int) == (p.1:Int))=false:=beq_false_of_ne fun e'=>e (by omega)
      obtain ⟨j,h2,h3⟩:=fkF_mem (f:=f) (L:=L) (i+1) h
      refine ⟨j+1,?_,by simp;omega⟩
      simp only [List.map_cons,findKeyAt,sameKey,h1,if_true]
      rw [h2];congr 2;omega
theorem fkF_at:∀ {L:TS} (i k:Nat),(L.map (·.1)).Nodup→i<L.length→findKeyAt (.int .u64 ((L.getD i (0,[])).1:Int)) (keysF L) k=some (some (k+i))
  | [],_,_,_,h=>by simp at h
  | p :: L,0,k,_,_=>by
    simp only [List.getD_cons_zero,List.map_cons,findKeyAt,sameKey,beq_self_eq_true,if_true,Nat.add_zero]
  | p :: L,i+1,k,hd,h=>by
    rw [List.map_cons,List.nodup_cons] at hd
    have hi:i<L.length:=by simpa using h
    have hm:=yz1f hi (0,([]:List Int))
    have h1:(((L.getD i (0,[])).1:Int) == (p.1:Int))=false:=beq_false_of_ne fun e=>hd.1 (List.mem_map.2 ⟨_,hm,by omega⟩)
    have h2:=fkF_at (L:=L) i (k+1) hd.2 hi
    simp only [List.getD_cons_succ,List.map_cons,findKeyAt,sameKey,h1,if_true]
    rw [h2];congr 2;omega
theorem setsI_getD {L:TS} {i:Nat} (h:i<L.length):(setsI L).getD i 0=((L.getD i (0,[])).1:Int):=by
  rw [List.getD_eq_getElem?_getD,List.getElem?_map,List.getElem?_eq_getElem h,List.getD_eq_getElem?_getD,List.getElem?_eq_getElem h];rfl
theorem words_getD {L:TS} {i:Nat} (h:i<L.length):(L.map (·.2)).getD i []=(L.getD i (0,[])).2:=by
  rw [List.getD_eq_getElem?_getD,List.getElem?_map,List.getElem?_eq_getElem h,List.getD_eq_getElem?_getD,List.getElem?_eq_getElem h];rfl
theorem k_tour (n:Int) (next:List (List Int)) (A:Aut n next) (f:Nat) (hf:f<2 ^ n.toNat) :
    Fn Tryz.prog nz2k [autA n next,fv f] (fun rows res=>∃ v w,rows=[.row v 1 true (intsK .u64 (setsI (tourT next f))),.map w (keysF (tourT next f)) (rws ((tourT next f).map (·.2)))]∧res=.st [.own 6000 v,.mp 6001 w]):=by
  refine con_of mixed czql rfl (by simp) ?_
  have n1:=A.n1
  have n2:=A.n2
  have l2:=A.l2
  have hN:2 ^ n.toNat≤1024:=Nat.pow_le_pow_right (n:=2) (by omega) (show n.toNat≤10 by omega)
  have f0:∀ k:Value,findKeyAt k [] 0=some none:=fun _=>rfl
  generalize hQ:finQ _=Q
  simp only [Az97,Bzij,f0,go_sem,yz0,xx9,xx8,xx6,xx7,xx5,xx0,xx1,xx2,reduceIte,xx3,xx4,reduceCtorEq]
  intro vs vs2
  refine ⟨⟨_,rfl,rfl⟩,?_⟩
  simp only [Bzii,Bzig,go_sem,yz0,xx9,xx8,xx6,xx7,xx5,xx0,xx1,xx2,reduceIte,xx3,xx4,reduceCtorEq]
  refine ⟨fun r v' e=>by cases e;exact ⟨_,_,_,rfl⟩,?_⟩
  refine wpD_lo (fun (_,_,_,i,_)=>1100 - i)
    (fun (_,_,_,i,L)=>TI n.toNat next.length L∧i≤List.length L∧runT next (1100 - i) i L=tourT next f)
    (fun ((v5,va,vm,i,L):Nat×Nat×Nat×Nat×TS)=>⟨Go.Ab.L .any [(2,.ptr 2 (vs 0 0) 0),(4,.ptr 4 (vs 1 0) 0),(5,.ptr 5 v5 0),(6,iv i)],
      Go.Ab.L .gone [(2,.box (vs 0 0) [iv n,.ro none 1 (rwn next)]),(4,.box (vs 1 0) [nilS,.val (.map none)]),(5,.box v5 [.own 13 va,.mp 14 vm]),(13,.row va 1 true (intsK .u64 (setsI L))),(14,.map vm (keysF L) (rws (L.map (·.2))))]⟩)
    (_,_,_,0,[(f,[])]) ⟨TI0 hf,by simp,rfl⟩ (by simp only [Bz40,go_sem,yz0,xx9,xx8,xx6,xx7,xx5,xx0,xx1,xx2,reduceIte,xx3,xx4,reduceCtorEq];try rfl) ?_
  rintro ⟨v5,va,vm,i,L⟩ ⟨hI,hi,hR⟩
  have hi:i≤L.length:=hi
  have hlen:=hI.len
  by_cases hlt:(i:Int)<L.length
  · have hlt1:i<L.length:=by omega
    have hls:i<(setsI L).length:=by simpa using hlt1
    have hm:=yz1f hlt1 (0,([]:List Int))
    have hfi:=hI.rg _ hm
    have hwi:=hI.wd _ hm
    simp only [Bz40,Bz91,Bzif,yzx hls,setsI_getD hlt1,dnL_rws,decide_eq_true hlt,go_sem,yz0,xx9,xx8,xx6,xx7,xx5,xx0,xx1,xx2,reduceIte,xx3,xx4,reduceCtorEq]
    intro hM
    refine ⟨⟨by omega,hlt1⟩,hlt1,?_⟩
    simp only [Bzid,go_sem,yz0,xx9,xx8,xx6,xx7,xx5,xx0,xx1,xx2,reduceIte,xx3,xx4,reduceCtorEq]
    intro vs3
    refine yz12 (k_letters n next) qCS trivial ?_
    simp only [Bzic,go_sem,yz0,xx9,xx8,xx6,xx7,xx5,xx0,xx1,xx2,reduceIte,xx3,xx4,reduceCtorEq]
    have hM2:=maxLen_le
    generalize hfw:L.getD i (0,[])=fw at hm hfi hwi ⊢
    refine wpD_lo (fun (_,_,_,x,_)=>next.length - x)
      (fun (_,_,_,x,L')=>x≤next.length∧L'=visT next fw.1 fw.2 x L)
      (fun ((v5,va,vm,x,L'):Nat×Nat×Nat×Nat×TS)=>⟨Go.Ab.L .any [(2,.ptr 2 (vs 0 0) 0),(4,.ptr 4 (vs 1 0) 0),(5,.ptr 5 v5 0),(6,iv i),(7,fv fw.1),(32,iv next.length),(33,iv x)],
        Go.Ab.L .gone [(2,.box (vs 0 0) [iv n,.ro none 1 (rwn next)]),(4,.box (vs 1 0) [nilS,.val (.map none)]),(5,.box v5 [.own 13 va,.mp 14 vm]),(13,.row va 1 true (intsK .u64 (setsI L'))),(14,.map vm (keysF L') (rws (L'.map (·.2))))]⟩)
      (_,_,_,0,L) ⟨by simp,rfl⟩ (by simp only [Bz3z,dnL_rws,go_sem,yz0,xx9,xx8,xx6,xx7,xx5,xx0,xx1,xx2,reduceIte,xx3,xx4,reduceCtorEq];try rfl) ?_
    rintro ⟨v5,va,vm,x,L'⟩ ⟨hx,rfl⟩
    have hx:x≤next.length:=hx
    obtain ⟨hI',t,hpre⟩:=visT_ok A hI hlt1 x hx
    rw [hfw] at hI' hpre
    generalize hV:visT next fw.1 fw.2 x L=L' at hI' hpre ⊢
    have hlen':=hI'.len
    have hi2:i<L'.length:=by rw [hpre,List.length_append];omega
    have hat:L'.getD i (0,[])=fw:=by rw [hpre,getD_app hlt1,hfw]
    by_cases hxl:(x:Int)<next.length
    · have hxl1:x<next.length:=by omega
      have hto:=stepN_lt A hxl1 hfi
      have w1:IntKind.i64.wrap ((x:Int)+1)=((x+1:Nat):Int):=by rw [w64 (by omega)];simp
      simp only [Bz3z,Bz96,Bzib,dnL_rws,decide_eq_true hxl,go_sem,yz0,xx9,xx8,xx6,xx7,xx5,xx0,xx1,xx2,reduceIte,xx3,xx4,reduceCtorEq]
      simp only [Bzia,dnL_rws,go_sem,yz0,xx9,xx8,xx6,xx7,xx5,xx0,xx1,xx2,reduceIte,xx3,xx4,reduceCtorEq]
      intro vs4
      refine yz12 (k_step n next A fw.1 x hfi hxl1) qCS trivial ?_
      have hsucc:=visT_succ (next:=next) (f:=fw.1) (w:=fw.2) (x:=x) (L:=L)
      rw [hV] at hsucc
      generalize stepN (next.getD x []) fw.1=to at hto hsucc ⊢
      cases hh:hasT L' to with
      | true =>
        rw [hh,if_pos rfl] at hsucc
        obtain ⟨j,hj1,hj2⟩:=fkF_mem 0 hh
        rw [Nat.zero_add] at hj1
        simp only [Bz94,Bz93,Bz92,Bz95,hj1,w1,dnL_rws,go_sem,yz0,xx9,xx8,xx6,xx7,xx5,xx0,xx1,xx2,reduceIte,xx3,xx4,reduceCtorEq]
        exact ⟨(_,_,_,x+1,_),by dsimp only;omega,⟨by dsimp only;omega,hsucc.symm⟩,rfl⟩
      | false =>
        rw [hh,if_neg (by simp)] at hsucc
        have hj1:=fkF_not 0 hh
        have hk:=fkF_at i 0 hI'.nd hi2
        rw [hat,Nat.zero_add] at hk
        have hwl:i<(L'.map (·.2)).length:=by simpa using hi2
        have hwg:=words_getD hi2
        rw [hat] at hwg
        simp only [Bz94,Bz93,Bz92,hj1,hk,rws_getD hwl,hwg,dnL_rws,go_sem,yz0,xx9,xx8,xx6,xx7,xx5,xx0,xx1,xx2,reduceIte,xx3,xx4,reduceCtorEq]
        intro vs5
        refine call_rowI (k_Clone fw.2 (by omega)) qCS qGN ⟨_,rfl⟩ ?_
        rintro xs v7 rfl
        simp only [hj1,dnL_rws,go_sem,yz0,xx9,xx8,xx6,xx7,xx5,xx0,xx1,xx2,reduceIte,xx3,xx4,reduceCtorEq]
        refine ⟨⟨_,rfl,rfl⟩,by omega,⟨fun r v' e=>by cases e;exact ⟨_,_,_,rfl⟩,?_⟩⟩
        simp only [Bzi9,Bz95,w1,dnL_rws,go_sem,yz0,xx9,xx8,xx6,xx7,xx5,xx0,xx1,xx2,reduceIte,xx3,xx4,reduceCtorEq]
        intro vs6
        exact ⟨⟨_,rfl,rfl⟩,by omega,(v5,vs6 4 0,vm,x+1,L' ++ [(to,fw.2 ++ [(x:Int)])]),by dsimp only;omega,⟨by dsimp only;omega,hsucc.symm⟩,by simp only [List.map_append,List.map_cons,List.map_nil]⟩
    · have:x=next.length:=by omega
      subst this
      simp only [Bz3z,Bz96,Bzie,dnL_rws,nat1 i _ hlt1 hM,decide_eq_false hxl,go_sem,yz0,xx9,xx8,xx6,xx7,xx5,xx0,xx1,xx2,reduceIte,xx3,xx4,reduceCtorEq]
      obtain ⟨F,hF⟩:∃ F,1100 - i=F+1:=⟨1099 - i,by omega⟩
      have hF2:1100 - (i+1)=F:=by omega
      rw [hF] at hR
      simp only [runT,if_pos hlt1,hfw,hV] at hR
      exact ⟨(_,_,_,i+1,L'),by dsimp only;omega,⟨hI',by dsimp only;omega,by dsimp only;rw [hF2];exact hR⟩,rfl⟩
  · have:i=L.length:=by omega
    subst this
    have hend:L=tourT next f:=by
      obtain ⟨F,hF⟩:∃ F,1100 - L.length=F+1:=⟨1099 - L.length,by omega⟩
      rw [← hR,hF];simp only [runT,Nat.lt_irrefl,if_false]
    simp only [Bz40,Bz91,Bzih,decide_eq_false hlt,Az97,← hQ,go_sem,yz0,xx9,xx8,xx6,xx7,xx5,xx0,xx1,xx2,reduceIte,xx3,xx4,reduceCtorEq]
    intro hM
    refine ⟨[13,14],by simp,by simp,by simp,?_⟩
    simp only [hend,Nat.not_lt_zero,range1,yz15,yz1a,yz1l,yz1k,yz19,yz1n,yz1m,yz1j,yz17,yzv,yzf,yz4,yzy,yz11,yzs,yzp,yzz,yz8,yzd,yz9,yzb,yzi,yzh,yz3,yz7,yze,yzc,yzj,yzk,List.range_zero,yz6,yz5,yza,yz10,yzl,yzu,AVal.fresh,freshL,yz1,yzg,AObj.fresh,id,Option.isSome_some,or_true,true_or,go_sem,yz0,xx9,xx8,xx6,xx7,xx5,xx0,xx1,xx2,reduceIte,xx3,xx4,reduceCtorEq]
    exact ⟨va,vm,rfl,rfl⟩
theorem k_IndexFuncT (T:TS) (h:∀ p∈T,p.1<1024) :
    Fun Tryz.prog nz2r [.ro none 1 (intsK .u64 (setsI T)),.clo nzb []] (iv (fidx smallN (T.map (·.1)) 0)):=by
  have hx:=k_IndexFuncF (T.map (·.1)) nzb [] smallN ⟨by simp only [go_sem,yz0,xx9,xx8,xx6,xx7,xx5,xx0,xx1,xx2,reduceIte,xx3,xx4,reduceCtorEq],by intros;simp only [rowIs,boxIs,yz1c,yz13,yz1d,yz14,yzm,yz1i,yz1g,coe_ro,yzt,yzo,coe_st,yzq,coe_rp,yzr,yz1h,yz1e,yz16,yzn,yz1b,yz18,L_hit,L_miss,L_nil,xx3,ne_eq,reduceCtorEq,not_false_eq_true,true_and,and_true,and_self,exists_eq_left,exists_eq_right,List.mem_cons,List.not_mem_nil,or_false,AObj.row.injEq,AObj.box.injEq,exists_eq_left',exists_and_left,exists_eq,Nat.zero_lt_one,Nat.lt_add_one,List.map_cons,List.map_nil,AObj.ver,xx5,not_true_eq_false]⟩ (fun x hx=>by
    obtain ⟨p,hp,rfl⟩:=List.mem_map.1 hx
    exact k_isSmall p.1 (h p hp))
  rw [List.map_map] at hx
  exact hx
theorem firstT_idx {f:Nat} {w:List Int}:∀ {T:TS} (k:Nat),firstT T=some (f,w)→∃ i,fidx smallN (T.map (·.1)) k=((k+i:Nat):Int)∧i<T.length∧T.getD i (0,[])=(f,w)
  | [],_,h=>by cases h
  | p :: T,k,h=>by
    simp only [firstT,List.find?_cons] at h
    cases hs:smallN p.1 with
    | true =>
      rw [hs] at h
      simp only [Option.some.injEq] at h
      exact ⟨0,by simp only [List.map_cons,fidx,hs,if_true,Nat.add_zero],by simp,by simpa using h⟩
    | false =>
      rw [hs] at h
      obtain ⟨i,h1,h2,h3⟩:=firstT_idx (T:=T) (k+1) h
      refine ⟨i+1,?_,by simp;omega,by simpa using h3⟩
      simp only [List.map_cons,fidx,hs,Bool.false_eq_true,if_false,h1]
      congr 1;omega
theorem k_first (N m:Nat) (T:TS) (hI:TI N m T) (hN:2 ^ N≤1024) (f:Nat) (w:List Int) (hf:firstT T=some (f,w)) :
    Con Tryz.prog nz1b [.row 0 1 true (intsK .u64 (setsI T)),.map 1 (keysF T) (rwn (T.map (·.2)))] [.st [.own 5000 0,.mp 5001 1],.clo nzb []] true
      fun outs rows res=>outs=[.row 0 1 true (intsK .u64 (setsI T)),.map 1 (keysF T) (rwn (T.map (·.2)))]∧rows=[]∧res=.tup [.ro none 1 (ints w),iv 0]:=by
  refine con_sh mixed czis rfl (by simp) ?_
  obtain ⟨i,h1,h2,h3⟩:=firstT_idx 0 hf
  rw [Nat.zero_add] at h1
  have hls:i<(setsI T).length:=by simpa using h2
  have hsg:=setsI_getD h2
  have hk:=fkF_at i 0 hI.nd h2
  rw [h3,Nat.zero_add] at hk
  rw [h3] at hsg
  have hwl:i<(T.map (·.2)).length:=by simpa using h2
  have hwg:=words_getD h2
  rw [h3] at hwg
  simp only [Az9d,Bz9c,go_sem,yz0,xx9,xx8,xx6,xx7,xx5,xx0,xx1,xx2,reduceIte,xx3,xx4,reduceCtorEq]
  intro vs vs2
  refine yz12 (k_IndexFuncT T (fun p hp=>by have:=hI.rg p hp;omega)) qCS trivial ?_
  have hi0:¬ (i:Int)<0:=by omega
  simp only [h1,Bz9b,Bz9a,Bzir,decide_eq_false hi0,yzx hls,hsg,hk,rwn_getD hwl,hwg,go_sem,yz0,xx9,xx8,xx6,xx7,xx5,xx0,xx1,xx2,reduceIte,xx3,xx4,reduceCtorEq]
  refine ⟨⟨by omega,h2⟩,h2,[],by simp,by simp,by simp,?_⟩
  simp only [List.nil_append,List.cons_append,Nat.add_zero,xx4,Nat.not_lt_zero,range1,yz15,yz1a,yz1l,yz1k,yz19,yz1n,yz1m,yz1j,yz17,yzv,yzf,yz4,yzy,yz11,yzs,yzp,yzz,yz8,yzd,yz9,yzb,yzi,yzh,yz3,yz7,yze,yzc,yzj,yzk,List.range_zero,yz6,yz5,yza,yz10,yzl,yzu,AVal.fresh,freshL,yz1,yzg,AObj.fresh,id,Option.isSome_some,or_true,true_or,go_sem,yz0,xx9,xx8,xx6,xx7,xx5,xx0,xx1,xx2,reduceIte,xx3,xx4,reduceCtorEq]
theorem callHp_m2 {hp:Nat→AObj} {r q d:Nat} {s:Nat→Nat} {o0 o1:AObj} (hne:r≠q) :
    callHp hp [r,q] d s [o0,o1] []=upd (upd hp r (o0.ren (rid [r,q] d 0) (sv hp [r,q] s))) q (o1.ren (rid [r,q] d 0) (sv hp [r,q] s)):=by
  funext n
  by_cases h:n=q
  · have h1:rid [r,q] d ([]:List AObj).length 5001=some n:=by rw [h];exact rid_m (j:=1) (by omega) rfl
    rw [callHp_at (by simp [hne]) (by simp) h1]
    simp [upd,h,outHp]
  · by_cases h':n=r
    · have h1:rid [r,q] d ([]:List AObj).length 5000=some n:=by rw [h'];exact rid_m (j:=0) (by omega) rfl
      rw [callHp_at (by simp [hne]) (by simp) h1]
      simp [upd,h,h',outHp,hne]
    · rw [callHp_not]
      · simp [upd,h,h']
      · rintro ⟨x,hx⟩
        rcases rid_cases hx with ⟨j,rfl,_,h3⟩ | ⟨i,rfl,h3,_⟩
        · match j,h3 with
          | 0,h3=>simp at h3;exact h' h3.symm
          | 1,h3=>simp at h3;exact h h3.symm
          | j+2,h3=>simp at h3
        · simp at h3
theorem call_rm {P:Program} {σ:St} {g:FuncId} {As args:List AVal} {d:Nat} {s:Nat→Nat} {K:St→Prop} {r q v u:Nat} {cs cs':List AVal} {ks:List Value} {vs vs':List AVal} {R:AVal}
    (h:Con P g [.row 0 1 true cs,.map 1 ks vs] (.st [.own 5000 0,.mp 5001 1] :: args) true fun outs rows res=>outs=[.row 0 1 true cs,.map 1 ks vs]∧rows=[]∧res=R)
    (hr:σ.hp r=.row v 1 true cs') (hq:σ.hp q=.map u ks vs') (hne:r≠q) (hc:CoeL σ.hp [r,q] false cs cs') (hv:CoeL σ.hp [r,q] false vs vs') (ha:CoeL σ.hp [r,q] false args As)
    (hk:K (St.put ⟨σ.tm,upd (upd σ.hp r ((AObj.row 0 1 true cs).ren (rid [r,q] d 0) (sv σ.hp [r,q] s))) q ((AObj.map 1 ks vs).ren (rid [r,q] d 0) (sv σ.hp [r,q] s))⟩ (some d) (R.ren (rid [r,q] d 0) (sv σ.hp [r,q] s)))):wpCall P false σ g (.st [.own r v,.mp q u] :: As) (some d) s K:=by
  refine .inl ⟨[r,q],_,_,true,_,h,⟨by simp,rfl,by simp [hne],?_,?_⟩,?_,(fun e=>by cases e),?_⟩
  · intro x hx
    simp only [List.mem_cons,List.not_mem_nil,or_false] at hx
    rcases hx with rfl | rfl
    · simp [hr]
    · simp [hq]
  · intro j B r' hB hr'
    match j,hB,hr' with
    | 0,hB,hr' =>
      simp at hB hr';subst hB;subst hr'
      simp only [ObjCoe,hr]
      exact ⟨trivial,v,cs',rfl,hc⟩
    | 1,hB,hr' =>
      simp at hB hr';subst hB;subst hr'
      simp only [ObjCoe,hq]
      exact ⟨trivial,u,vs',rfl,hv⟩
    | j+2,hB,hr'=>simp at hB
  · rw [yzm]
    refine ⟨?_,ha⟩
    rw [coe_st,yzm,yzm,yz14]
    simp only [Coe]
    exact ⟨⟨0,r,v,rfl,rfl,rfl,rfl,by rw [hr];rfl⟩,⟨1,q,u,rfl,rfl,rfl,rfl,by rw [hq];rfl⟩,trivial⟩
  · rintro outs rows res ⟨rfl,rfl,rfl⟩
    refine ⟨rfl,by simp,by simp,?_⟩
    rw [Option.getD_some,callHp_m2 hne]
    exact hk
theorem maskN_all {n:Int} (h:1≤n∧n≤10):maskN (allS n)=2 ^ n.toNat - 1:=by
  obtain ⟨k,rfl⟩:∃ k:Nat,n=k:=⟨n.toNat,by omega⟩
  have h2:k=1∨k=2∨k=3∨k=4∨k=5∨k=6∨k=7∨k=8∨k=9∨k=10:=by omega
  rcases h2 with rfl | rfl | rfl | rfl | rfl | rfl | rfl | rfl | rfl | rfl <;> decide
end Go.Ab
namespace Go.Ab
theorem fold_bit {α:Type} (g:α→Nat) (t:Nat):∀ (l:List α) (o:Nat),(l.foldl (fun o s=>o ||| 2 ^ g s) o).testBit t=true↔o.testBit t=true∨∃ x∈l,g x=t
  | [],o=>by simp
  | x :: l,o=>by
    rw [List.foldl_cons,fold_bit g t l,Nat.testBit_or,Nat.testBit_two_pow,Bool.or_eq_true,decide_eq_true_eq]
    simp only [List.mem_cons,exists_eq_or_imp,or_assoc]
theorem step_bit {row:List Int} {f t:Nat}:(stepN row f).testBit t=true↔∃ s∈bitsN f,(row.getD s 0).toNat=t:=by
  unfold stepN
  rw [fold_bit (fun s=>(row.getD s 0).toNat)]
  simp
def imN (next:List (List Int)) (f:Nat) (w:List Int):Nat:=w.foldl (fun f l=>stepN (next.getD l.toNat []) f) f
theorem imN_snoc {next:List (List Int)} {f:Nat} {w:List Int} {x:Int}:imN next f (w ++ [x])=stepN (next.getD x.toNat []) (imN next f w):=by simp [imN]
def SndT (next:List (List Int)) (f0:Nat) (L:TS):Prop:=∀ p∈L,p.1=imN next f0 p.2
theorem SndT.vis {next:List (List Int)} {f0 f:Nat} {w:List Int} (hf:f=imN next f0 w):∀ (x:Nat) {L:TS},SndT next f0 L→SndT next f0 (visT next f w x L)
  | 0,_,h=>h
  | x+1,L,h=>by
    have h1:=SndT.vis hf x h
    rw [visT_succ]
    split
    · exact h1
    · intro p hp
      rcases List.mem_append.1 hp with hp | hp
      · exact h1 p hp
      · have hp:p=(stepN (next.getD x []) f,w ++ [(x:Int)]):=by simpa using hp
        rw [hp,imN_snoc,← hf];rfl
theorem SndT.run {next:List (List Int)} {f0:Nat}:∀ (F i:Nat) {L:TS},SndT next f0 L→SndT next f0 (runT next F i L)
  | 0,_,_,h=>h
  | F+1,i,L,h=>by
    simp only [runT]
    split
    · rename_i hi
      exact SndT.run F (i+1) (SndT.vis (h _ (yz1f hi _)) _ h)
    · exact h
theorem visT_pre {next:List (List Int)} {f:Nat} {w:List Int}:∀ (x:Nat) (L:TS),∃ t,visT next f w x L=L ++ t
  | 0,L=>⟨[],by simp [visT]⟩
  | x+1,L=>by
    obtain ⟨t,h⟩:=visT_pre (next:=next) (f:=f) (w:=w) x L
    rw [visT_succ]
    split
    · exact ⟨t,h⟩
    · exact ⟨t ++ [(stepN (next.getD x []) f,w ++ [(x:Int)])],by rw [← List.append_assoc,← h]⟩
theorem hasT_app {L t:TS} {f:Nat} (h:hasT L f=true):hasT (L ++ t) f=true:=by
  rw [hasT_iff] at h ⊢;rw [List.map_append];exact List.mem_append.2 (.inl h)
theorem visT_has {next:List (List Int)} {f:Nat} {w:List Int}:∀ (x:Nat) (L:TS) (y:Nat),y<x→hasT (visT next f w x L) (stepN (next.getD y []) f)=true
  | 0,_,_,h=>by omega
  | x+1,L,y,h=>by
    rw [visT_succ]
    by_cases e:y=x
    · subst e
      split
      · assumption
      · rw [hasT_iff];simp
    · have h1:=visT_has (next:=next) (f:=f) (w:=w) x L y (by omega)
      split
      · exact h1
      · exact hasT_app h1
theorem runT_pre {next:List (List Int)}:∀ (F i:Nat) (L:TS),∃ t,runT next F i L=L ++ t
  | 0,_,L=>⟨[],by simp [runT]⟩
  | F+1,i,L=>by
    simp only [runT]
    split
    · obtain ⟨t,h⟩:=visT_pre (next:=next) (f:=(L.getD i (0,[])).1) (w:=(L.getD i (0,[])).2) next.length L
      obtain ⟨t',h'⟩:=runT_pre (next:=next) F (i+1) (visT next (L.getD i (0,[])).1 (L.getD i (0,[])).2 next.length L)
      exact ⟨t ++ t',by rw [h',h,List.append_assoc]⟩
    · exact ⟨[],by simp⟩
def CloT (next:List (List Int)) (L:TS) (k:Nat):Prop:=∀ j<k,∀ x<next.length,hasT L (stepN (next.getD x []) (L.getD j (0,[])).1)=true
theorem run_clo {n:Int} {next:List (List Int)} (A:Aut n next):∀ (F i:Nat) (L:TS),TI n.toNat next.length L→i≤L.length→1025≤F+i→CloT next L i→CloT next (runT next F i L) (runT next F i L).length
  | 0,i,L,h,hi,hF,hc=>by
    have h1:=h.len
    have:2 ^ n.toNat≤1024:=Nat.pow_le_pow_right (n:=2) (by omega) (show n.toNat≤10 by have:=A.n2;omega)
    omega
  | F+1,i,L,h,hi,hF,hc=>by
    simp only [runT]
    split
    · rename_i hi1
      have h1:=(visT_ok A h hi1 next.length (Nat.le_refl _)).1
      obtain ⟨t,ht⟩:=visT_pre (next:=next) (f:=(L.getD i (0,[])).1) (w:=(L.getD i (0,[])).2) next.length L
      refine run_clo A F (i+1) _ h1 (by rw [ht,List.length_append];omega) (by omega) ?_
      intro j hj x hx
      have hg:(visT next (L.getD i (0,[])).1 (L.getD i (0,[])).2 next.length L).getD j (0,[])=L.getD j (0,[]):=by rw [ht];exact getD_app (by omega) _
      rw [hg]
      by_cases e:j=i
      · subst e;exact visT_has _ _ _ hx
      · have:=hc j (by omega) x hx
        rw [ht];exact hasT_app this
    · have:i=L.length:=by omega
      rw [← this];exact hc
theorem tour_mem {n:Int} {next:List (List Int)} (A:Aut n next) {f:Nat} (hf:f<2 ^ n.toNat):∀ (k:Nat) (w:List Int),w.length=k→(∀ x∈w,0≤x∧x<next.length)→hasT (tourT next f) (imN next f w)=true
  | 0,w,hk,_=>by
    obtain rfl:w=[]:=List.eq_nil_of_length_eq_zero hk
    obtain ⟨t,ht⟩:=runT_pre (next:=next) 1100 0 [(f,[])]
    unfold tourT;rw [ht]
    rw [hasT_iff];simp [imN]
  | k+1,w,hk,hw=>by
    have hne:w≠[]:=fun e=>by rw [e] at hk;simp at hk
    have e:=List.dropLast_concat_getLast hne
    have hl:=hw _ (List.getLast_mem hne)
    have h1:=tour_mem A hf k w.dropLast (by rw [List.length_dropLast];omega) (fun x hx=>hw x (List.dropLast_subset w hx))
    have hc:=run_clo A 1100 0 _ (TI0 (m:=next.length) hf) (by omega) (by omega) (fun j hj=>by omega)
    have hm:=hasT_iff.1 h1
    obtain ⟨p,hp,he⟩:=List.mem_map.1 hm
    obtain ⟨j,hj,hg⟩:=List.getElem_of_mem hp
    have h2:hasT (tourT next f) (stepN (next.getD (w.getLast hne).toNat []) ((tourT next f).getD j (0,[])).1)=true:=hc j hj (w.getLast hne).toNat (by omega)
    have hgd:(tourT next f).getD j (0,[])=p:=by
      rw [List.getD_eq_getElem?_getD,List.getElem?_eq_getElem hj];exact hg
    rw [hgd,he] at h2
    rw [← e,imN_snoc];exact h2
theorem small_bits (f:Nat) (hf:f<1024):smallN f=decide ((bitsN f).length≤1) :=
  have h:∀ f:Fin 1024,smallN f=decide ((bitsN f).length≤1):=by decide +kernel
  h ⟨f,hf⟩
theorem small_iff {f:Nat} (hf:f<1024):smallN f=true↔∀ s∈bitsN f,∀ t∈bitsN f,s=t:=by
  rw [small_bits f hf,decide_eq_true_eq]
  have hn:(bitsN f).Nodup:=List.nodup_range.filter _
  constructor
  · intro h s hs t ht
    match hb:bitsN f with
    | []=>rw [hb] at hs;simp at hs
    | [x]=>rw [hb] at hs ht;simp at hs ht;rw [hs,ht]
    | x :: y :: l=>rw [hb] at h;simp at h
  · intro h
    match hb:bitsN f with
    | []=>simp
    | [x]=>simp
    | x :: y :: l =>
      rw [hb] at hn h
      have:=h x (by simp) y (by simp)
      rw [this] at hn;simp at hn
theorem stepA_bit {n:Int} {next:List (List Int)} (A:Aut n next) {f:Nat} (hf:f<2 ^ n.toNat) {l:Int} (hl:0≤l∧l<next.length) {t:Nat} :
    t∈bitsN (stepN (next.getD l.toNat []) f)↔∃ s∈bitsN f,stepA next (s:Int) l=(t:Int):=by
  have n1:=A.n1
  have n2:=A.n2
  rw [mem_bits,step_bit]
  have key:∀ s∈bitsN f,((next.getD l.toNat []).getD s 0).toNat=t↔stepA next (s:Int) l=(t:Int):=by
    intro s hs
    have h1:=bits_lt hf hs
    have h2:=A.step (s:=(s:Int)) (by omega) hl
    unfold stepA at h2 ⊢
    rw [Int.toNat_natCast] at h2 ⊢
    omega
  constructor
  · rintro ⟨_,s,hs,h⟩
    exact ⟨s,hs,(key s hs).1 h⟩
  · rintro ⟨s,hs,h⟩
    have h1:=bits_lt hf hs
    have h2:=A.step (s:=(s:Int)) (by omega) hl
    refine ⟨by omega,s,hs,(key s hs).2 h⟩
theorem imN_bit {n:Int} {next:List (List Int)} (A:Aut n next):∀ (w:List Int) {f:Nat},f<2 ^ n.toNat→(∀ x∈w,0≤x∧x<next.length)→imN next f w<2 ^ n.toNat∧∀ t:Nat,t∈bitsN (imN next f w)↔∃ s∈bitsN f,atA next (s:Int) w=(t:Int)
  | [],f,hf,_=>by
    refine ⟨hf,fun t=>?_⟩
    simp only [imN,atA,List.foldl_nil]
    constructor
    · intro h;exact ⟨t,h,rfl⟩
    · rintro ⟨s,hs,h⟩
      have:s=t:=by omega
      rw [← this];exact hs
  | l :: w,f,hf,hw=>by
    have hl:=hw l (by simp)
    have hl1:l.toNat<next.length:=by omega
    obtain ⟨h1,h2⟩:=imN_bit A w (stepN_lt A hl1 hf) (fun x hx=>hw x (by simp [hx]))
    refine ⟨h1,fun t=>?_⟩
    have e:imN next f (l :: w)=imN next (stepN (next.getD l.toNat []) f) w:=rfl
    rw [e,h2]
    constructor
    · rintro ⟨s,hs,h⟩
      obtain ⟨s',hs',h'⟩:=(stepA_bit A hf hl).1 hs
      refine ⟨s',hs',?_⟩
      show atA next (stepA next s' l) w=t
      rw [h'];exact h
    · rintro ⟨s',hs',h⟩
      have h3:=bits_lt hf hs'
      have h4:=A.step (s:=(s':Int)) (by omega) hl
      refine ⟨(stepA next (s':Int) l).toNat,(stepA_bit A hf hl).2 ⟨s',hs',by omega⟩,?_⟩
      rw [show (((stepA next (s':Int) l).toNat:Nat):Int)=stepA next (s':Int) l by omega]
      exact h
def CanR (n:Int) (next:List (List Int)):Prop:=∃ w,IsW next.length w∧∀ s t:Int,0≤s∧s<n→0≤t∧t<n→atA next s w=atA next t w
theorem all_bits {n:Int} (hn:1≤n∧n≤10) {s:Nat}:s∈bitsN (2 ^ n.toNat - 1)↔(s:Int)<n:=by
  rw [mem_bits,Nat.testBit_two_pow_sub_one,decide_eq_true_eq];omega
theorem small_can {n:Int} {next:List (List Int)} (A:Aut n next) {w:List Int} (hw:IsW next.length w):smallN (imN next (2 ^ n.toNat - 1) w)=true↔∀ s t:Int,0≤s∧s<n→0≤t∧t<n→atA next s w=atA next t w:=by
  have n1:=A.n1
  have n2:=A.n2
  have hp:=Nat.two_pow_pos n.toNat
  have hN:2 ^ n.toNat≤1024:=Nat.pow_le_pow_right (n:=2) (by omega) (show n.toNat≤10 by omega)
  obtain ⟨h1,h2⟩:=imN_bit A w (f:=2 ^ n.toNat - 1) (by omega) hw
  rw [small_iff (by omega)]
  constructor
  · intro h s t hs ht
    have a0:=A.at (w:=w) hs hw
    have at':=A.at (w:=w) ht hw
    have a1:=(h2 (atA next s w).toNat).2 ⟨s.toNat,(all_bits ⟨n1,n2⟩).2 (by omega),by rw [show ((s.toNat:Nat):Int)=s by omega];omega⟩
    have a2:=(h2 (atA next t w).toNat).2 ⟨t.toNat,(all_bits ⟨n1,n2⟩).2 (by omega),by rw [show ((t.toNat:Nat):Int)=t by omega];omega⟩
    have:=h _ a1 _ a2
    omega
  · intro h s hs t ht
    obtain ⟨s',hs',e1⟩:=(h2 s).1 hs
    obtain ⟨t',ht',e2⟩:=(h2 t).1 ht
    have b1:=(all_bits ⟨n1,n2⟩).1 hs'
    have b2:=(all_bits ⟨n1,n2⟩).1 ht'
    have:=h s' t' (by omega) (by omega)
    omega
theorem tour_can {n:Int} {next:List (List Int)} (A:Aut n next):(firstT (tourT next (2 ^ n.toNat - 1))).isSome=true↔CanR n next:=by
  have hp:=Nat.two_pow_pos n.toNat
  have hf:2 ^ n.toNat - 1<2 ^ n.toNat:=by omega
  have hT:=(runT_ok A 1100 0 _ (TI0 (m:=next.length) hf)).1
  have hS:SndT next (2 ^ n.toNat - 1) (tourT next (2 ^ n.toNat - 1)):=SndT.run 1100 0 (fun p hp=>by
    have:p=(2 ^ n.toNat - 1,[]):=by simpa using hp
    rw [this];rfl)
  unfold firstT
  rw [List.find?_isSome]
  constructor
  · rintro ⟨p,hp,hs⟩
    have hw:=(hT.wd p hp).1
    rw [hS p hp,small_can A hw] at hs
    exact ⟨p.2,hw,hs⟩
  · rintro ⟨w,hw,h⟩
    have h1:=tour_mem A hf w.length w rfl hw
    obtain ⟨p,hp,he⟩:=List.mem_map.1 (hasT_iff.1 h1)
    refine ⟨p,hp,?_⟩
    rw [he,small_can A hw];exact h
end Go.Ab
namespace Go.Ab
open Go.Proofs
theorem firstT_no:∀ {T:TS} (k:Nat),firstT T=none→fidx smallN (T.map (·.1)) k=-1
  | [],_,_=>rfl
  | p :: T,k,h=>by
    simp only [firstT,List.find?_cons] at h
    cases hs:smallN p.1 with
    | true=>rw [hs] at h;cases h
    | false =>
      rw [hs] at h
      have h1:=firstT_no (T:=T) (k+1) h
      simp only [List.map_cons,fidx,hs,Bool.false_eq_true,if_false,h1]
theorem k_firstN (N m:Nat) (T:TS) (hI:TI N m T) (hN:2 ^ N≤1024) (hf:firstT T=none) :
    Con Tryz.prog nz1b [.row 0 1 true (intsK .u64 (setsI T)),.map 1 (keysF T) (rwn (T.map (·.2)))] [.st [.own 5000 0,.mp 5001 1],.clo nzb []] true
      fun outs rows res=>outs=[.row 0 1 true (intsK .u64 (setsI T)),.map 1 (keysF T) (rwn (T.map (·.2)))]∧rows=[]∧res=.tup [.val (.slice none 0 0),iv 6]:=by
  refine con_sh mixed czis rfl (by simp) ?_
  have h1:=firstT_no 0 hf
  simp only [Az9d,Bz9c,go_sem,yz0,xx9,xx8,xx6,xx7,xx5,xx0,xx1,xx2,reduceIte,xx3,xx4,reduceCtorEq]
  intro vs vs2
  refine yz12 (k_IndexFuncT T (fun p hp=>by have:=hI.rg p hp;omega)) qCS trivial ?_
  have hi0:((-1:Int)<0):=by omega
  simp only [h1,Bz9b,Bz9a,decide_eq_true hi0,go_sem,yz0,xx9,xx8,xx6,xx7,xx5,xx0,xx1,xx2,reduceIte,xx3,xx4,reduceCtorEq]
  refine ⟨[],by simp,by simp,by simp,?_⟩
  simp only [List.nil_append,List.cons_append,Nat.add_zero,xx4,Nat.not_lt_zero,range1,yz15,yz1a,yz1l,yz1k,yz19,yz1n,yz1m,yz1j,yz17,yzv,yzf,yz4,yzy,yz11,yzs,yzp,yzz,yz8,yzd,yz9,yzb,yzi,yzh,yz3,yz7,yze,yzc,yzj,yzk,List.range_zero,yz6,yz5,yza,yz10,yzl,yzu,AVal.fresh,freshL,yz1,yzg,AObj.fresh,id,Option.isSome_some,or_true,true_or,go_sem,yz0,xx9,xx8,xx6,xx7,xx5,xx0,xx1,xx2,reduceIte,xx3,xx4,reduceCtorEq]
def shortR (next:List (List Int)) (n:Int):AVal:=match firstT (tourT next (2 ^ n.toNat - 1)) with
  | some (_,w)=>.tup [.ro none 1 (ints w),iv 0]
  | none=>.tup [.val (.slice none 0 0),iv 6]
theorem k_ShortestB (n:Int) (next:List (List Int)) (A:Aut n next) :
    Con Tryz.prog nz5j [] [autA n next] true fun outs rows res=>outs=[]∧rows=[]∧res=shortR next n:=by
  refine con_sh mixed czpr rfl (by simp) ?_
  have n1:=A.n1
  have n2:=A.n2
  have hv:autB n next=true:=autB_iff.2 A
  have hp:=Nat.two_pow_pos n.toNat
  have hN:2 ^ n.toNat≤1024:=Nat.pow_le_pow_right (n:=2) (by omega) (show n.toNat≤10 by omega)
  simp only [Azer,Bzeq,go_sem,yz0,xx9,xx8,xx6,xx7,xx5,xx0,xx1,xx2,reduceIte,xx3,xx4,reduceCtorEq]
  intro vs vs2
  refine yz12 (k_Valid n next) qCS trivial ?_
  simp only [hv,Bzeo,Bzep,go_sem,yz0,xx9,xx8,xx6,xx7,xx5,xx0,xx1,xx2,reduceIte,xx3,xx4,reduceCtorEq]
  intro vs3
  refine call_rowI (k_all n next A) qCS rfl ⟨_,rfl⟩ ?_
  rintro xs v rfl
  simp only [go_sem,yz0,xx9,xx8,xx6,xx7,xx5,xx0,xx1,xx2,reduceIte,xx3,xx4,reduceCtorEq]
  refine yz12 (k_flockOf (allS n) (fun s hs=>by have:=allS_in s hs;omega)) qCS trivial ?_
  rw [maskN_all ⟨n1,n2⟩]
  simp only [go_sem,yz0,xx9,xx8,xx6,xx7,xx5,xx0,xx1,xx2,reduceIte,xx3,xx4,reduceCtorEq]
  refine call_fn (k_tour n next A (2 ^ n.toNat - 1) (by omega)) qCS (fun e=>by cases e) ?_
  rintro rows res ⟨v1,v2,rfl,rfl⟩
  refine ⟨by simp,by rw [Option.getD_some,yzu];simp only [go_sem,yz0,xx9,xx8,xx6,xx7,xx5,xx0,xx1,xx2,reduceIte,xx3,xx4,reduceCtorEq],?_⟩
  have hT:=(runT_ok A 1100 0 _ (TI0 (m:=next.length) (show 2 ^ n.toNat - 1<2 ^ n.toNat by omega))).1
  simp only [Option.getD_some,Nat.not_lt_zero,range1,yz15,yz1a,yz1l,yz1k,yz19,yz1n,yz1m,yz1j,yz17,yzv,yzf,yz4,yzy,yz11,yzs,yzp,yzz,yz8,yzd,yz9,yzb,yzi,yzh,yz3,yz7,yze,yzc,yzj,yzk,List.range_zero,yz6,yz5,yza,yz10,yzl,yzu,AVal.fresh,freshL,yz1,yzg,AObj.fresh,id,Option.isSome_some,or_true,true_or,go_sem,yz0,xx9,xx8,xx6,xx7,xx5,xx0,xx1,xx2,reduceIte,xx3,xx4,reduceCtorEq]
  unfold shortR
  cases hf:firstT (tourT next (2 ^ n.toNat - 1)) with
  | some p =>
    obtain ⟨f,w⟩:=p
    refine call_rm (k_first n.toNat next.length (tourT next (2 ^ n.toNat - 1)) hT hN f w hf) rfl rfl (by omega) qCS qCS qCS ?_
    simp only [Nat.not_lt_zero,range1,yz15,yz1a,yz1l,yz1k,yz19,yz1n,yz1m,yz1j,yz17,yzv,yzf,yz4,yzy,yz11,yzs,yzp,yzz,yz8,yzd,yz9,yzb,yzi,yzh,yz3,yz7,yze,yzc,yzj,yzk,List.range_zero,yz6,yz5,yza,yz10,yzl,yzu,AVal.fresh,freshL,yz1,yzg,AObj.fresh,id,Option.isSome_some,or_true,true_or,go_sem,yz0,xx9,xx8,xx6,xx7,xx5,xx0,xx1,xx2,reduceIte,xx3,xx4,reduceCtorEq]
    exact ⟨[],by simp,by simp,by simp,rfl⟩
  | none =>
    refine call_rm (k_firstN n.toNat next.length (tourT next (2 ^ n.toNat - 1)) hT hN hf) rfl rfl (by omega) qCS qCS qCS ?_
    simp only [Nat.not_lt_zero,range1,yz15,yz1a,yz1l,yz1k,yz19,yz1n,yz1m,yz1j,yz17,yzv,yzf,yz4,yzy,yz11,yzs,yzp,yzz,yz8,yzd,yz9,yzb,yzi,yzh,yz3,yz7,yze,yzc,yzj,yzk,List.range_zero,yz6,yz5,yza,yz10,yzl,yzu,AVal.fresh,freshL,yz1,yzg,AObj.fresh,id,Option.isSome_some,or_true,true_or,go_sem,yz0,xx9,xx8,xx6,xx7,xx5,xx0,xx1,xx2,reduceIte,xx3,xx4,reduceCtorEq]
    exact ⟨[],by simp,by simp,by simp,rfl⟩
theorem k_CanReset (n:Int) (next:List (List Int)) (A:Aut n next) :
    Fun Tryz.prog nz5d [autA n next] (.tup [bv (firstT (tourT next (2 ^ n.toNat - 1))).isSome,iv 0]):=by
  refine fun_of mixed czpb rfl ⟨rfl,by simp [AVal.fresh,freshL]⟩ ?_
  simp only [Azcj,Bzci,go_sem,yz0,xx9,xx8,xx6,xx7,xx5,xx0,xx1,xx2,reduceIte,xx3,xx4,reduceCtorEq]
  intro vs vs2
  refine call_sh (k_ShortestB n next A) qCS (fun e=>by cases e) ?_
  rintro outs rows res ⟨rfl,rfl,rfl⟩
  refine ⟨rfl,by simp,by simp,?_⟩
  unfold shortR
  cases hf:firstT (tourT next (2 ^ n.toNat - 1)) with
  | some p =>
    obtain ⟨f,w⟩:=p
    have e1:((0:Int) == 1)=false:=rfl
    simp only [e1,Bz6x,Bz6v,Bz6w,Option.getD_some,Option.isSome_some,Nat.not_lt_zero,range1,yz15,yz1a,yz1l,yz1k,yz19,yz1n,yz1m,yz1j,yz17,yzv,yzf,yz4,yzy,yz11,yzs,yzp,yzz,yz8,yzd,yz9,yzb,yzi,yzh,yz3,yz7,yze,yzc,yzj,yzk,List.range_zero,yz6,yz5,yza,yz10,yzl,yzu,AVal.fresh,freshL,yz1,yzg,AObj.fresh,id,Option.isSome_some,or_true,true_or,go_sem,yz0,xx9,xx8,xx6,xx7,xx5,xx0,xx1,xx2,reduceIte,xx3,xx4,reduceCtorEq]
  | none =>
    have e1:((6:Int) == 1)=false:=rfl
    have e2:((6:Int) == 0)=false:=rfl
    simp only [e1,e2,Bz6x,Bz6v,Bz6w,Option.getD_some,Option.isSome_none,Nat.not_lt_zero,range1,yz15,yz1a,yz1l,yz1k,yz19,yz1n,yz1m,yz1j,yz17,yzv,yzf,yz4,yzy,yz11,yzs,yzp,yzz,yz8,yzd,yz9,yzb,yzi,yzh,yz3,yz7,yze,yzc,yzj,yzk,List.range_zero,yz6,yz5,yza,yz10,yzl,yzu,AVal.fresh,freshL,yz1,yzg,AObj.fresh,id,Option.isSome_some,or_true,true_or,go_sem,yz0,xx9,xx8,xx6,xx7,xx5,xx0,xx1,xx2,reduceIte,xx3,xx4,reduceCtorEq]
end Go.Ab
namespace Go.Ab
def seenT (N:Nat) (L:TS):List Bool:=(List.range N).map fun f=>hasT L f
theorem seenT_len {N:Nat} {L:TS}:(seenT N L).length=N:=by simp [seenT]
theorem seenT_getD {N f:Nat} {L:TS} (h:f<N):(seenT N L).getD f false=hasT L f:=by
  rw [seenT,List.getD_eq_getElem?_getD,List.getElem?_map,List.getElem?_range h];rfl
theorem hasT_add {L:TS} {f g:Nat} {w:List Int}:hasT (L ++ [(f,w)]) g=(hasT L g || Nat.beq f g):=by simp [hasT]
theorem seenT_add {N f:Nat} {L:TS} {w:List Int} (h:f<N):seenT N (L ++ [(f,w)])=(seenT N L).take f ++ [true] ++ (seenT N L).drop (f+1):=by
  apply List.ext_getElem?
  intro i
  by_cases hi:i<N
  · have h1:(seenT N (L ++ [(f,w)]))[i]?=some (hasT L i || Nat.beq f i):=by rw [seenT,List.getElem?_map,List.getElem?_range hi];simp [hasT_add]
    rw [h1]
    have hl:(List.take f (seenT N L)).length=f:=by rw [List.length_take,seenT_len];omega
    rw [List.append_assoc]
    by_cases e:i<f
    · rw [List.getElem?_append_left (by omega),List.getElem?_take_of_lt e,seenT,List.getElem?_map,List.getElem?_range hi]
      have:Nat.beq f i=false:=by rw [Bool.eq_false_iff];intro h2;have:=Nat.eq_of_beq_eq_true h2;omega
      simp [this]
    · rw [List.getElem?_append_right (by omega),hl]
      by_cases e2:i=f
      · subst e2
        have:Nat.beq i i=true:=Nat.beq_refl i
        simp [this]
      · obtain ⟨d,rfl⟩:∃ d,i=f+1+d:=⟨i - f - 1,by omega⟩
        have:Nat.beq f (f+1+d)=false:=by rw [Bool.eq_false_iff];intro h2;have:=Nat.eq_of_beq_eq_true h2;omega
        rw [show f+1+d - f=d+1 by omega,List.singleton_append,List.getElem?_cons_succ,List.getElem?_drop,seenT,List.getElem?_map,List.getElem?_range hi]
        simp [this]
  · rw [List.getElem?_eq_none (by rw [seenT_len];omega),List.getElem?_eq_none]
    rw [List.length_append,List.length_append,List.length_take,List.length_drop,seenT_len,List.length_singleton];omega
theorem seenT_one {N f:Nat} (h:f<N):(List.replicate N false).take f ++ [true] ++ (List.replicate N false).drop (f+1)=seenT N [(f,[])]:=by
  have h1:=seenT_add (L:=[]) (w:=[]) h
  have h2:seenT N []=List.replicate N false:=by
    rw [seenT]
    apply List.ext_getElem?
    intro i
    by_cases hi:i<N
    · rw [List.getElem?_map,List.getElem?_range hi,List.getElem?_replicate,if_pos hi];rfl
    · rw [List.getElem?_eq_none (by simp;omega),List.getElem?_eq_none (by simp;omega)]
  rw [h2] at h1
  exact h1.symm
structure BT (L:TS) (B C:List Int):Prop where
  lb:B.length=L.length
  lc:C.length=L.length
  wd:∀ i,i<L.length→(B.getD i 0=-1∧(L.getD i (0,[])).2=[])∨(0≤B.getD i 0∧B.getD i 0<i∧(L.getD i (0,[])).2=(L.getD (B.getD i 0).toNat (0,[])).2 ++ [C.getD i 0])
theorem BT0 {f:Nat}:BT [(f,[])] [-1] [0]:=⟨rfl,rfl,fun i hi=>by
  have:i=0:=by simpa using hi
  subst this;exact .inl ⟨rfl,rfl⟩⟩
theorem getD_appL {α:Type} {xs ys:List α} {i:Nat} {d:α} (h:i<xs.length):(xs ++ ys).getD i d=xs.getD i d:=by
  rw [List.getD_eq_getElem?_getD,List.getElem?_append_left h,← List.getD_eq_getElem?_getD]
theorem getD_last {α:Type} {xs:List α} {y d:α} {i:Nat} (h:i=xs.length):(xs ++ [y]).getD i d=y:=by
  rw [List.getD_eq_getElem?_getD,List.getElem?_append_right (by omega),h];simp
theorem BT.add {L:TS} {B C:List Int} (h:BT L B C) {i:Nat} (hi:i<L.length) (to x:Nat) :
    BT (L ++ [(to,(L.getD i (0,[])).2 ++ [(x:Int)])]) (B ++ [(i:Int)]) (C ++ [(x:Int)]):=by
  have lb:=h.lb
  have lc:=h.lc
  refine ⟨by simp [lb],by simp [lc],fun j hj=>?_⟩
  rw [List.length_append,List.length_singleton] at hj
  by_cases e:j<L.length
  · have e1:(B ++ [(i:Int)]).getD j 0=B.getD j 0:=getD_appL (by omega)
    have e2:(C ++ [(x:Int)]).getD j 0=C.getD j 0:=getD_appL (by omega)
    have e3:(L ++ [(to,(L.getD i (0,[])).2 ++ [(x:Int)])]).getD j (0,[])=L.getD j (0,[]):=getD_appL e
    rw [e1,e2,e3]
    rcases h.wd j e with h1 | ⟨h1,h2,h3⟩
    · exact .inl h1
    · have e4:(L ++ [(to,(L.getD i (0,[])).2 ++ [(x:Int)])]).getD (B.getD j 0).toNat (0,[])=L.getD (B.getD j 0).toNat (0,[]):=getD_appL (by omega)
      rw [e4]
      exact .inr ⟨h1,h2,h3⟩
  · have:j=L.length:=by omega
    subst this
    have e1:(B ++ [(i:Int)]).getD L.length 0=i:=getD_last lb.symm
    have e2:(C ++ [(x:Int)]).getD L.length 0=x:=getD_last lc.symm
    have e3:(L ++ [(to,(L.getD i (0,[])).2 ++ [(x:Int)])]).getD L.length (0,[])=(to,(L.getD i (0,[])).2 ++ [(x:Int)]):=getD_last rfl
    have e4:(L ++ [(to,(L.getD i (0,[])).2 ++ [(x:Int)])]).getD i (0,[])=L.getD i (0,[]):=getD_appL hi
    rw [e1,e2,e3,Int.toNat_natCast,e4]
    exact .inr ⟨by omega,by omega,rfl⟩
end Go.Ab
namespace Go.Ab
open Go.Proofs
theorem i_and {x y:Nat} (hx:x<4611686018427387904) (hy:y<4611686018427387904) :
    IntKind.i64.wrap ((@HAnd.hAnd (BitVec 64) (BitVec 64) (BitVec 64) (@instHAndOfAndOp (BitVec IntKind.i64.bits) (@BitVec.instAndOp IntKind.i64.bits)) (BitVec.ofInt 64 (x:Int)) (BitVec.ofInt 64 (y:Int))).toNat)=((x &&& y:Nat):Int):=by
  have h:(BitVec.ofInt 64 (x:Int) &&& BitVec.ofInt 64 (y:Int)).toNat=x &&& y:=by rw [BitVec.toNat_and,bv64 (by omega),bv64 (by omega)]
  show IntKind.i64.wrap ((BitVec.ofInt 64 (x:Int) &&& BitVec.ofInt 64 (y:Int)).toNat:Int)=_
  rw [h]
  have:x &&& y≤x:=Nat.and_le_left
  exact w64 (by omega)
theorem i_and1 {x:Nat} (hx:x<4611686018427387904) :
    IntKind.i64.wrap ((@HAnd.hAnd (BitVec 64) (BitVec 64) (BitVec 64) (@instHAndOfAndOp (BitVec IntKind.i64.bits) (@BitVec.instAndOp IntKind.i64.bits)) (BitVec.ofInt 64 (x:Int)) (BitVec.ofInt 64 1)).toNat)=((x &&& 1:Nat):Int):=i_and (y:=1) hx (by omega)
theorem i_or {x y:Nat} (hx:x<4611686018427387904) (hy:y<4611686018427387904) :
    IntKind.i64.wrap ((@HOr.hOr (BitVec 64) (BitVec 64) (BitVec 64) (@instHOrOfOrOp (BitVec IntKind.i64.bits) (@BitVec.instOrOp IntKind.i64.bits)) (BitVec.ofInt 64 (x:Int)) (BitVec.ofInt 64 (y:Int))).toNat)=((x ||| y:Nat):Int):=by
  have h:(BitVec.ofInt 64 (x:Int) ||| BitVec.ofInt 64 (y:Int)).toNat=x ||| y:=by rw [BitVec.toNat_or,bv64 (by omega),bv64 (by omega)]
  show IntKind.i64.wrap ((BitVec.ofInt 64 (x:Int) ||| BitVec.ofInt 64 (y:Int)).toNat:Int)=_
  rw [h]
  have:x ||| y<2 ^ 62:=Nat.or_lt_two_pow (n:=62) (by omega) (by omega)
  exact w64 (by omega)
theorem i_shl {b:Nat} (h:b<60):IntKind.i64.wrap (1 * 2 ^ min b 64)=((2 ^ b:Nat):Int):=by
  have h1:min b 64=b:=by omega
  have h2:(2:Int) ^ b=((2 ^ b:Nat):Int):=by simp
  rw [h1,Int.one_mul,h2]
  have h3:2 ^ b<1152921504606846976:=Nat.pow_lt_pow_right (a:=2) (n:=60) (by omega) h
  generalize 2 ^ b=q at h3 ⊢
  exact w64 (by omega)
theorem pow_lt10' {k:Nat} (h:k≤10):1≤2 ^ k∧2 ^ k≤1024:=⟨Nat.two_pow_pos k,Nat.pow_le_pow_right (n:=2) (by omega) h⟩
theorem k_l02Single (f:Nat) (h:f<1024):Fun Tryz.prog nz69 [iv f] (bv (smallN f)):=by
  refine fun_of mixed czrg rfl ⟨rfl,trivial⟩ ?_
  by_cases h0:f=0
  · subst h0
    simp only [Azbb,Bzba,go_sem,yz0,xx9,xx8,xx6,xx7,xx5,xx0,xx1,xx2,reduceIte,xx3,xx4,reduceCtorEq]
    rfl
  · have w1:IntKind.i64.wrap ((f:Int) - 1)=((f - 1:Nat):Int):=by rw [w64 (by omega)];omega
    have hand:=i_and (x:=f) (y:=f - 1) (by omega) (by omega)
    have hb:((((f &&& (f - 1):Nat)):Int) == 0)=smallN f:=by
      unfold smallN
      rw [← dec_beqN,Bool.eq_iff_iff,beq_iff_eq,decide_eq_true_iff];omega
    simp only [Azbb,Bzba,w1,hand,hb,go_sem,yz0,xx9,xx8,xx6,xx7,xx5,xx0,xx1,xx2,reduceIte,xx3,xx4,reduceCtorEq]
theorem stepTo_lt {row set:List Int} (h:∀ s∈set,0≤row.getD s.toNat 0∧row.getD s.toNat 0<10):stepTo row set<1024:=fold_lt (fun s:Int=>(row.getD s.toNat 0).toNat) set 0 (fun x hx=>by have:=h x hx;omega) (by omega)
theorem bitsTo_lt {f s:Nat} {x:Int} (h:x∈bitsTo f s):0≤x∧x<s:=by
  simp only [bitsTo,List.mem_map,List.mem_filter,List.mem_range] at h
  obtain ⟨k,⟨h1,_⟩,rfl⟩:=h
  omega
theorem k_l02Moved (row:List Int) (f:Nat) (hl:row.length≤10) (hr:∀ x∈row,0≤x∧x<10) (hf:f<2 ^ row.length) :
    Fun Tryz.prog nz6k [.ro none 1 (ints row),iv f] (iv (stepN row f)):=by
  refine fun_of mixed czrr rfl ⟨rfl,trivial⟩ ?_
  have hN:2 ^ row.length≤1024:=Nat.pow_le_pow_right (n:=2) (by omega) hl
  simp only [Azp2,Bzp1,Bzp0,Bzoy,go_sem,yz0,xx9,xx8,xx6,xx7,xx5,xx0,xx1,xx2,reduceIte,xx3,xx4,reduceCtorEq]
  refine wpD_lo (fun i=>row.length - i) (fun i=>i≤row.length)
    (fun i:Nat=>⟨L .any [(0,.ro none 1 (ints row)),(1,iv f),(5,iv (stepTo row (bitsTo f i))),(6,iv i)],L .gone []⟩) 0 (by simp) (by simp only [Bz1z,go_sem,yz0,xx9,xx8,xx6,xx7,xx5,xx0,xx1,xx2,reduceIte,xx3,xx4,reduceCtorEq];try rfl) ?_
  intro i hi
  by_cases hlt:(i:Int)<row.length
  · have hlt1:i<row.length:=by omega
    have h64:IntKind.u64.wrap (i:Int)=i:=u64w (by omega)
    have hi0:¬ (i:Int)<0:=by omega
    have hsh:=u_shr (f:=f) (s:=i) (by omega)
    have hlt2:f >>> i<4611686018427387904:=by rw [Nat.shiftRight_eq_div_pow];exact Nat.lt_of_le_of_lt (Nat.div_le_self _ _) (by omega)
    have hand:=i_and1 hlt2
    have hbit:((((f >>> i &&& 1:Nat):Int)) == 1)=f.testBit i:=by
      rw [Nat.testBit_eq_decide_div_mod_eq,Nat.and_one_is_mod,Nat.shiftRight_eq_div_pow,Bool.eq_iff_iff,beq_iff_eq,decide_eq_true_iff]
      generalize f / 2 ^ i % 2=q
      omega
    have hst:stepTo row (bitsTo f i)<1024:=stepTo_lt fun s hs=>by
      have:=bitsTo_lt hs
      exact hr _ (yz1f (by omega) 0)
    have hx:=hr _ (yz1f hlt1 0)
    have hx64:IntKind.u64.wrap (row.getD i 0)=row.getD i 0:=by
      rw [show row.getD i 0=(((row.getD i 0).toNat:Nat):Int) by omega];exact u64w (by omega)
    have hx0:¬ row.getD i 0<0:=by omega
    have hsl:=i_shl (b:=(row.getD i 0).toNat) (by omega)
    have h2:=pow_lt10 (k:=(row.getD i 0).toNat) (by omega)
    have hor:=i_or (x:=stepTo row (bitsTo f i)) (y:=2 ^ (row.getD i 0).toNat) (by omega) (by omega)
    cases hb:f.testBit i with
    | true =>
      rw [hb] at hbit
      have hs:stepTo row (bitsTo f i) ||| 2 ^ (row.getD i 0).toNat=stepTo row (bitsTo f (i+1)):=by
        rw [bitsTo_succ,if_pos hb];simp [stepTo,List.foldl_append]
      simp only [Bz1z,Bz58,Bzbr,Bzbp,Bzbq,h64,hi0,hsh,hand,hbit,yzx hlt1,hx64,hx0,hsl,hor,hs,decide_eq_true hlt,go_sem,yz0,xx9,xx8,xx6,xx7,xx5,xx0,xx1,xx2,reduceIte,xx3,xx4,reduceCtorEq]
      intro hM
      simp only [nat1 i _ hlt1 hM,go_sem,yz0,xx9,xx8,xx6,xx7,xx5,xx0,xx1,xx2,reduceIte,xx3,xx4,reduceCtorEq]
      exact ⟨⟨by omega,hlt1⟩,hlt1,i+1,by omega,by omega,rfl⟩
    | false =>
      rw [hb] at hbit
      have hs:stepTo row (bitsTo f i)=stepTo row (bitsTo f (i+1)):=by rw [bitsTo_succ,if_neg (by simp [hb])]
      simp only [Bz1z,Bz58,Bzbr,Bzbp,Bzbq,h64,hi0,hsh,hand,hbit,decide_eq_true hlt,go_sem,yz0,xx9,xx8,xx6,xx7,xx5,xx0,xx1,xx2,reduceIte,xx3,xx4,reduceCtorEq]
      intro hM
      simp only [nat1 i _ hlt1 hM,go_sem,yz0,xx9,xx8,xx6,xx7,xx5,xx0,xx1,xx2,reduceIte,xx3,xx4,reduceCtorEq]
      exact ⟨i+1,by omega,by omega,by rw [← hs]⟩
  · have e:stepTo row (bitsTo f i)=stepN row f:=by
      have e1:i=row.length:=by omega
      subst e1
      have h2:=bitsTo_add hf (10 - row.length)
      rw [show row.length+(10 - row.length)=10 by omega] at h2
      rw [← h2,stepTo_all]
    simp only [Bz1z,Bz58,Bzoz,decide_eq_false hlt,e,go_sem,yz0,xx9,xx8,xx6,xx7,xx5,xx0,xx1,xx2,reduceIte,xx3,xx4,reduceCtorEq]
end Go.Ab
namespace Go.Ab
open Go.Proofs
end Go.Ab
namespace Go.Ab
def outA (out:List (List Int)) (s l:Int):Int:=(out.getD l.toNat []).getD s.toNat 0
def lexP:List Int→List Int→Bool
  | x :: v,y :: w=>if x=y then lexP v w else decide (x<y)
  | _,_=>false
def befP (v w:List Int):Bool:=if v.length=w.length then lexP v w else decide (v.length<w.length)
end Go.Ab
namespace Go.Ab
open Go.Proofs
end Go.Ab
namespace Go.Ab
def leP (u v:List Int):Prop:=befP u v=true∨u=v
def pairW (na nb:List (List Int)):Nat×Nat→List Int→Nat×Nat
  | p,[]=>p
  | p,x :: w=>pairW na nb (stepP na nb p x.toNat) w
def difW (na nb oa ob:List (List Int)):Nat×Nat→List Int→Bool
  | _,[]=>false
  | p,x :: w=>difP oa ob p x.toNat || difW na nb oa ob (stepP na nb p x.toNat) w
def isWd (k:Nat) (w:List Int):Prop:=∀ x∈w,0≤x∧x<k
structure BI (na nb oa ob:List (List Int)) (p0:Nat×Nat) (i:Nat) (L:PS):Prop where
  ok:∀ q∈L,q.1=pairW na nb p0 q.2∧difW na nb oa ob p0 q.2=false∧isWd na.length q.2
  so:L.Pairwise fun a b=>befP a.2 b.2=true
  par:∀ q∈L,q.2=[]∨∃ j<i,∃ y,q.2=(L.getD j ((0,0),[])).2 ++ [y]
  cl:∀ a<i,∀ x<na.length,difP oa ob (L.getD a ((0,0),[])).1 x=false∧∃ q∈L,q.1=stepP na nb (L.getD a ((0,0),[])).1 x∧leP q.2 ((L.getD a ((0,0),[])).2 ++ [(x:Int)])
  le:i≤L.length
  nil:∃ q∈L,q.1=p0∧q.2=[]
structure BV (na nb oa ob:List (List Int)) (p0:Nat×Nat) (i:Nat) (L:PS) (x:Nat) (L':PS):Prop where
  sub:∃ t,L'=L ++ t
  ok:∀ q∈L',q.1=pairW na nb p0 q.2∧difW na nb oa ob p0 q.2=false∧isWd na.length q.2
  so:L'.Pairwise fun a b=>befP a.2 b.2=true
  par:∀ q∈L',q.2=[]∨(∃ j<i,∃ y,q.2=(L.getD j ((0,0),[])).2 ++ [y])∨∃ y<x,q.2=(L.getD i ((0,0),[])).2 ++ [(y:Int)]
  cl:∀ y<x,∃ q∈L',q.1=stepP na nb (L.getD i ((0,0),[])).1 y∧leP q.2 ((L.getD i ((0,0),[])).2 ++ [(y:Int)])
end Go.Ab
namespace Go.Ab
end Go.Ab
namespace Go.Ab
theorem appg_new {α:Type} {xs:List α} {y d:α}:(xs ++ [y]).getD xs.length d=y:=by
  simp [List.getD_eq_getElem?_getD]
end Go.Ab
namespace Go.Ab
structure CI (n:Int) (L:List Int):Prop where
  nd:L.Nodup
  rg:∀ s∈L,0≤s∧s<n
  hd:L.getD 0 1=0
theorem CI.len {n:Int} {L:List Int} (h:CI n L) (hn:n≤10):1≤L.length∧L.length≤10:=by
  have h1:L≠[]:=fun e=>by have:=h.hd;rw [e] at this;simp at this
  have hm:(L.map Int.toNat).Nodup:=by
    refine List.Pairwise.map _ ?_ (List.Pairwise.and_mem.1 h.nd)
    rintro a b ⟨ha,hb,hab⟩ e
    have:=h.rg a ha
    have:=h.rg b hb
    omega
  have:=nodup_lt 10 _ hm fun x hx=>by
    obtain ⟨s,hs,rfl⟩:=List.mem_map.1 hx
    have:=h.rg s hs
    omega
  rw [List.length_map] at this
  exact ⟨List.length_pos_iff.2 h1,this⟩
structure Rel (na oa nb ob:List (List Int)) (R:Int→Int→Prop):Prop where
  len:na.length=nb.length
  step:∀ s t,R s t→∀ x,0≤x∧x<(na.length:Int)→outA oa s x=outA ob t x∧R (stepA na s x) (stepA nb t x)
  fn:∀ s t t',R s t→R s t'→t=t'
  inj:∀ s s' t,R s t→R s' t→s=s'
def RelL (R:Int→Int→Prop) (L M:List Int):Prop:=L.length=M.length∧∀ i<L.length,R (L.getD i 0) (M.getD i 0)
theorem RelL.snoc {R:Int→Int→Prop} {L M:List Int} (h:RelL R L M) {s t:Int} (hst:R s t):RelL R (L ++ [s]) (M ++ [t]):=by
  refine ⟨by simp [h.1],fun i hi=>?_⟩
  rw [List.length_append,List.length_singleton] at hi
  by_cases e:i<L.length
  · rw [getD_app e,getD_app (by rw [← h.1];exact e)];exact h.2 i e
  · have e1:i=L.length:=by omega
    subst e1
    rw [appg_new]
    rw [h.1,appg_new];exact hst
end Go.Ab
namespace Go.Ab
end Go.Ab
namespace Go.Ab
open Go.Proofs
abbrev MachR (n o:Int) (xs ys:List (List Int)) (rows:List AObj) (res:AVal):Prop :=
  ∃ v w ps qs,rows=[.row v 1 true (rwp ps),.row w 1 true (rwp qs)]∧ps.map (·.2)=xs∧qs.map (·.2)=ys∧DJ (ps ++ qs)∧res=.st [iv n,iv o,.own 6000 v,.own 6001 w]
abbrev NamM (P:Program) (g:FuncId) (args:List AVal) (n o:Int) (xs ys:List (List Int)):Prop:=Fn P g args (MachR n o xs ys)
end Go.Ab
namespace Go.Ab
open Go.Proofs
end Go.Ab
namespace Go.Ab
open Go.Proofs
abbrev MachS (n o:Int) (xs ys:List (List Int)) (rows:List AObj) (res:AVal):Prop :=
  ∃ v w,rows=[.row v 1 true (rws xs),.row w 1 true (rws ys)]∧res=.st [iv n,iv o,.own 6000 v,.own 6001 w]
theorem NamM.dn {P:Program} {g:FuncId} {args:List AVal} {n o:Int} {xs ys:List (List Int)} (h:NamM P g args n o xs ys):Fn P g args (MachS n o xs ys):=by
  refine Con.dnr h ?_
  rintro o' r x ⟨rfl,v,w,ps,qs,rfl,rfl,rfl,_,rfl⟩
  refine ⟨rfl,v,w,?_,?_⟩
  · simp only [List.map_cons,List.map_nil,AObj.dn,dnL_rwp]
  · simp only [AVal.dn,dnL]
abbrev MachRC (ok:Bool) (n o:Int) (xs ys:List (List Int)) (code:Int) (rows:List AObj) (res:AVal):Prop :=
  if ok=true then ∃ v w ps qs,rows=[.row v 1 true (rwp ps),.row w 1 true (rwp qs)]∧ps.map (·.2)=xs∧qs.map (·.2)=ys∧DJ (ps ++ qs)∧res=.tup [.st [iv n,iv o,.own 6000 v,.own 6001 w],iv code]
  else rows=[]∧res=.tup [.st [iv 0,iv 0,nilS,nilS],iv code]
abbrev NamMR (P:Program) (g:FuncId) (args:List AVal) (ok:Bool) (n o:Int) (xs ys:List (List Int)) (code:Int):Prop:=Fn P g args (MachRC ok n o xs ys code)
abbrev MachSC (n o:Int) (xs ys:List (List Int)) (rows:List AObj) (res:AVal):Prop :=
  ∃ v w,rows=[.row v 1 true (rws xs),.row w 1 true (rws ys)]∧res=.tup [.st [iv n,iv o,.own 6000 v,.own 6001 w],iv 0]
theorem NamMR.dn {P:Program} {g:FuncId} {args:List AVal} {ok:Bool} {n o:Int} {xs ys:List (List Int)} {code:Int} (h:NamMR P g args ok n o xs ys code) (hok:ok=true) (hc:code=0):Fn P g args (MachSC n o xs ys):=by
  subst hok hc
  refine Con.dnr h ?_
  rintro o' r x ⟨rfl,hR⟩
  unfold MachRC at hR
  rw [if_pos rfl] at hR
  obtain ⟨v,w,ps,qs,rfl,rfl,rfl,_,rfl⟩:=hR
  refine ⟨rfl,v,w,?_,?_⟩
  · simp only [List.map_cons,List.map_nil,AObj.dn,dnL_rwp]
  · simp only [AVal.dn,dnL]
end Go.Ab
namespace Go.Ab
open Go.Proofs
end Go.Ab
namespace Go.Ab
open Go.Proofs
end Go.Ab
namespace Go.Ab
open Go.Proofs
theorem rid3 {m:List Nat} {d n:Nat}:rid m d (n+4) 6003=some (d+3000):=by
  have:=rid_new (m:=m) (d:=d) (nr:=n+4) (i:=3) (by omega)
  simpa [newId] using this
theorem ren_own_r3 {m:List Nat} {d n v:Nat} {s:Nat→Nat}:AVal.ren (rid m d (n+4)) s (.own 6003 v)=.own (d+3000) (s v):=ren_own rid3
theorem gone_four {hp:Nat→AObj} {d:Nat} {o0 o1 o2 o3:AObj}:(∀ i,i<[o0,o1,o2,o3].length→hp (newId d i)=.gone)=(hp d=.gone∧hp (d+1000)=.gone∧hp (d+2000)=.gone∧hp (d+3000)=.gone):=by
  refine propext ⟨fun h=>⟨by simpa [newId] using h 0 (by simp),by simpa [newId] using h 1 (by simp),by simpa [newId] using h 2 (by simp),by simpa [newId] using h 3 (by simp)⟩,fun h i hi=>?_⟩
  have hi':i<4:=by simpa using hi
  have:i=0∨i=1∨i=2∨i=3:=by omega
  rcases this with rfl | rfl | rfl | rfl
  · simpa [newId] using h.1
  · simpa [newId] using h.2.1
  · simpa [newId] using h.2.2.1
  · simpa [newId] using h.2.2.2
theorem callHp_four {hp:Nat→AObj} {d:Nat} {s:Nat→Nat} {o0 o1 o2 o3:AObj}:callHp hp [] d s [] [o0,o1,o2,o3] =
    upd (upd (upd (upd hp d (o0.ren (rid [] d 4) s)) (d+1000) (o1.ren (rid [] d 4) s)) (d+2000) (o2.ren (rid [] d 4) s)) (d+3000) (o3.ren (rid [] d 4) s):=by
  have n1:d+1000≠d:=by omega
  have n2:d+2000≠d:=by omega
  have n3:d+3000≠d:=by omega
  have m1:d+2000≠d+1000:=by omega
  have m2:d+3000≠d+1000:=by omega
  have m3:d+3000≠d+2000:=by omega
  funext n
  by_cases h3:n=d+3000
  · have h1:rid [] d [o0,o1,o2,o3].length 6003=some n:=by rw [h3];exact rid3
    rw [callHp_at (by simp) (by simp) h1,sv_nil]
    simp [upd,h3,outHp]
  by_cases h2:n=d+2000
  · have h1:rid [] d [o0,o1,o2,o3].length 6002=some n:=by rw [h2];exact rid2
    rw [callHp_at (by simp) (by simp) h1,sv_nil]
    simp [upd,h2,outHp,m3.symm]
  by_cases h1':n=d+1000
  · have h1:rid [] d [o0,o1,o2,o3].length 6001=some n:=by rw [h1'];exact rid1
    rw [callHp_at (by simp) (by simp) h1,sv_nil]
    simp [upd,h1',outHp,m2.symm,m1.symm]
  by_cases h0:n=d
  · have h1:rid [] d [o0,o1,o2,o3].length 6000=some n:=by rw [h0];exact rid0
    rw [callHp_at (by simp) (by simp) h1,sv_nil]
    simp [upd,h0,outHp,n1.symm,n2.symm,n3.symm]
  rw [callHp_not]
  · simp [upd,h3,h2,h1',h0]
  · rintro ⟨q,hq⟩
    obtain ⟨i,hi,e⟩:=rid_nil hq
    simp at hi
    unfold newId at e
    have:i=0∨i=1∨i=2∨i=3:=by omega
    rcases this with rfl | rfl | rfl | rfl
    · exact h0 (by simpa using e)
    · exact h1' (by simpa using e)
    · exact h2 (by simpa using e)
    · exact h3 (by simpa using e)
end Go.Ab
