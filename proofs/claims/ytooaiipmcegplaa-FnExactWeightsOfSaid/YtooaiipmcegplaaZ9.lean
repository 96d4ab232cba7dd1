/- Contracts and what they lean on, part 9. Conditions: none. -/
import Derived.Test.YtooaiipmcegplaaZ8
set_option maxRecDepth 100000
set_option maxHeartbeats 4000000
set_option linter.all false
open Nat renaming reduceLeDiff → xx0, reduceMul → xx1, reduceSub → xx2, reduceEqDiff → xx3, reduceAdd → xx4, reduceLT → xx5
open Int renaming reduceToNat → xx6, reduceNeg → xx7, reduceLE → xx8, reduceLT → xx9
namespace Go.Ab
open Go Go.Proofs
def lapQ (e:Nat→Nat→Nat) (L x s t:Nat):Int:=(if t=s then (L:Int) else 0) - sumN x (fun y=>if t=e y s then (1:Int) else 0)
theorem lapQ_succ {e:Nat→Nat→Nat} {L x s t:Nat}:lapQ e L (x+1) s t=lapQ e L x s t - if t=e x s then 1 else 0:=by
  unfold lapQ;show _ - (sumN x _+(if t=e x s then (1:Int) else 0))=_ - _ - _;omega
theorem lapQ_all {e:Nat→Nat→Nat} {s t:Nat}:∀ {L:Nat},lapQ e L L s t=lapE e L s t
  | 0=>by
    show (if t=s then ((0:Nat):Int) else 0) - 0=0
    split <;> rfl
  | L+1=>by
    have:=lapQ_all (e:=e) (s:=s) (t:=t) (L:=L)
    show (if t=s then ((L+1:Nat):Int) else 0) - (sumN L _+if t=e L s then 1 else 0)=lapE e L s t+((if t=s then 1 else 0) - (if t=e L s then 1 else 0))
    rw [← this]
    unfold lapQ
    by_cases h:t=s
    · rw [if_pos h,if_pos h,if_pos h];omega
    · rw [if_neg h,if_neg h,if_neg h];omega
theorem lapQ_rg {e:Nat→Nat→Nat} {L s t:Nat}:∀ {x:Nat},-(x:Int)≤lapQ e L x s t∧lapQ e L x s t≤L
  | 0=>by
    show -((0:Nat):Int)≤(if t=s then (L:Int) else 0) - 0∧(if t=s then (L:Int) else 0) - 0≤_
    split <;> omega
  | x+1=>by
    rw [lapQ_succ]
    have:=lapQ_rg (e:=e) (L:=L) (s:=s) (t:=t) (x:=x)
    split <;> omega
theorem skp_at {w i:Nat} (h:i≠w):skp w (if i≤w then i else i - 1)=i:=by
  unfold skp
  by_cases h1:i≤w
  · rw [if_pos h1,if_pos (by omega)]
  · rw [if_neg h1,if_neg (by omega)];omega
theorem k_l03Trees (n:Int) (next:List (List Int)) (A:Aut n next) (hc:conB n next=true) (w:Nat) (hw:w<n.toNat):Fun Try.prog nz2a [autP n next,iv (w:Int)] (iv (minW n next w)):=by
  refine fun_of mixed czfp rfl ⟨rfl,trivial⟩ ?_
  have n1:=A.n1
  have n2:=A.n2
  have l2:=A.l2
  have hM:=maxLen_le
  obtain ⟨N,hN⟩:∃ N:Nat,n.toNat=N+1:=⟨n.toNat - 1,by omega⟩
  have hnN:n=((N+1:Nat):Int):=by omega
  have hZ:=minW_zm A hc hw
  have hNe:n.toNat - 1=N:=by omega
  have hmw:lead (minM (lapA next) w) N=minW n next w:=by unfold minW;rw [hNe]
  rw [hNe] at hZ
  generalize hQ:finQ _=Q
  simp only [Az5i,Bzb7,yz3,yz1,go_sem,yz0,xx9,xx8,xx6,xx7,xx5,xx0,xx1,xx2,reduceIte,xx3,xx4,reduceCtorEq]
  intro vs0 U0 hN0 vs1 U1 hN1
  simp only [Bzb6,yz3,yz1,go_sem,yz0,xx9,xx8,xx6,xx7,xx5,xx0,xx1,xx2,reduceIte,xx3,xx4,reduceCtorEq]
  intro vs2 U2 hN2
  simp only [Bzb4,yz3,yz1,go_sem,yz0,xx9,xx8,xx6,xx7,xx5,xx0,xx1,xx2,reduceIte,xx3,xx4,reduceCtorEq]
  refine wpD_lp (fun (x:Nat×Nat×List (Nat×List Int))=>N+1 - x.2.1) (fun x=>x.2.1≤N+1∧DJ x.2.2∧x.2.2.map (·.2)=tabC (minM (lapA next) w) (if x.2.1≤w then x.2.1 else x.2.1 - 1) N)
    (fun (x:Nat×Nat×List (Nat×List Int))=>⟨L .any [(0,autP n next),(1,iv w),(5,.own 11 x.1),(6,iv x.2.1)],
      L .gone [(11,.row x.1 1 true (rwp x.2.2)),(73,.gone),(5000,.gone),(5001,.gone)]⟩)
    (_,0,[]) ⟨Nat.zero_le _,by simp [DJ],by simp [tabC]⟩ (by simp only [Bz19,rwp_nil,go_sem,yz0,xx9,xx8,xx6,xx7,xx5,xx0,xx1,xx2,reduceIte,xx3,xx4,reduceCtorEq];try rfl) ?_
  rintro ⟨v5,s,ps⟩ ⟨hs,hdj,hps⟩
  have hs:s≤N+1:=hs
  have hdj:DJ ps:=hdj
  have hps:ps.map (·.2)=tabC (minM (lapA next) w) (if s≤w then s else s - 1) N:=hps
  have hpl:ps.length=if s≤w then s else s - 1:=by
    have:=congrArg List.length hps
    simpa [tabC] using this
  by_cases hlt:(s:Int)<n
  · have hs1:s<N+1:=by omega
    have ws:IntKind.i64.wrap ((s:Int)+1)=((s+1:Nat):Int):=by rw [w64 (by omega)];simp
    simp only [Bz19,Bz58,Bzb3,decide_eq_true hlt,yz3,yz1,go_sem,yz0,xx9,xx8,xx6,xx7,xx5,xx0,xx1,xx2,reduceIte,xx3,xx4,reduceCtorEq]
    intro vs3 U3 hN3 vs4 U4 hN4
    simp only [Bzb2,Bzb0,yz3,yz1,go_sem,yz0,xx9,xx8,xx6,xx7,xx5,xx0,xx1,xx2,reduceIte,xx3,xx4,reduceCtorEq]
    intro vs5 U5 hN5
    refine wpD_lp (fun (x:Nat×Nat)=>N+1 - x.2) (fun x=>x.2≤N+1)
      (fun (x:Nat×Nat)=>⟨L .any [(0,autP n next),(1,iv w),(5,.own 11 v5),(6,iv s),(7,.own 20 x.1),(8,iv x.2)],
        L .gone [(11,.row v5 1 true (rwp ps)),(20,.row x.1 1 true (ints (tabR (fun b=>lapA next s (skp w b)) (if x.2≤w then x.2 else x.2 - 1)))),(66,.gone),(73,.gone),(5000,.gone),(5001,.gone)]⟩)
      (_,0) (Nat.zero_le _) (by simp only [Bz18,Nat.zero_le,if_true,tabR,List.range_zero,List.map_nil,go_sem,yz0,xx9,xx8,xx6,xx7,xx5,xx0,xx1,xx2,reduceIte,xx3,xx4,reduceCtorEq];try rfl) ?_
    rintro ⟨v7,t⟩ ht
    have ht:t≤N+1:=ht
    by_cases htl:(t:Int)<n
    · have ht1:t<N+1:=by omega
      have wt:IntKind.i64.wrap ((t:Int)+1)=((t+1:Nat):Int):=by rw [w64 (by omega)];simp
      simp only [Bz18,Bz59,Bzaz,Bzay,decide_eq_true htl,yz3,yz1,go_sem,yz0,xx9,xx8,xx6,xx7,xx5,xx0,xx1,xx2,reduceIte,xx3,xx4,reduceCtorEq]
      intro vs6 U6 hN6 vs7 U7 hN7 vs8 U8 hN8
      generalize hK:blockQ 3 _=K
      have key:wpD Try.prog Bzb K ⟨L .any [(0,autP n next),(1,iv w),(5,.own 11 v5),(6,iv s),(7,.own 20 v7),(8,iv t),(9,iv (if t=s then (next.length:Int) else 0))],
        L .gone [(11,.row v5 1 true (rwp ps)),(20,.row v7 1 true (ints (tabR (fun b=>lapA next s (skp w b)) (if t≤w then t else t - 1)))),(66,.gone),(73,.gone),(5000,.gone),(5001,.gone)]⟩:=by
        rw [← hK]
        clear hK
        simp only [Bzb,yz3,yz1,go_sem,yz0,xx9,xx8,xx6,xx7,xx5,xx0,xx1,xx2,reduceIte,xx3,xx4,reduceCtorEq]
        intro vs9 U9 hN9
        simp only [Bzaw,yz3,yz1,go_sem,yz0,xx9,xx8,xx6,xx7,xx5,xx0,xx1,xx2,reduceIte,xx3,xx4,reduceCtorEq]
        have hsn:s<n.toNat:=by omega
        refine wpD_lp (fun (x:Nat)=>next.length - x) (fun x=>x≤next.length)
          (fun (x:Nat)=>⟨L .any [(0,autP n next),(1,iv w),(5,.own 11 v5),(6,iv s),(7,.own 20 v7),(8,iv t),(9,iv (lapQ (eN next) next.length x s t)),(10,iv x)],
            L .gone [(11,.row v5 1 true (rwp ps)),(20,.row v7 1 true (ints (tabR (fun b=>lapA next s (skp w b)) (if t≤w then t else t - 1)))),(66,.gone),(73,.gone),(5000,.gone),(5001,.gone)]⟩)
          0 (Nat.zero_le _) (by
            have:lapQ (eN next) next.length 0 s t=if t=s then (next.length:Int) else 0:=by unfold lapQ;show _ - 0=_;omega
            rw [this]
            simp only [Bz17,go_sem,yz0,xx9,xx8,xx6,xx7,xx5,xx0,xx1,xx2,reduceIte,xx3,xx4,reduceCtorEq];try rfl) ?_
        intro x hx
        have hx:x≤next.length:=hx
        by_cases hxl:(x:Int)<next.length
        · have hx1:x<next.length:=by omega
          have wx:IntKind.i64.wrap ((x:Int)+1)=((x+1:Nat):Int):=by rw [w64 (by omega)];simp
          have hrow:=A.row _ (yz2 hx1 [])
          have he:=eN_lt A hx1 hsn
          have hsl:s<(next.getD x []).length:=by have:=hrow.1;omega
          have hev:(next.getD x []).getD s 0=((eN next x s:Nat):Int):=by
            have:=hrow.2 _ (yz2 hsl 0)
            unfold eN;omega
          have hrg:=lapQ_rg (e:=eN next) (L:=next.length) (s:=s) (t:=t) (x:=x)
          simp only [Bz17,Bz5b,Bzav,decide_eq_true hxl,yz3,yz1,go_sem,yz0,xx9,xx8,xx6,xx7,xx5,xx0,xx1,xx2,reduceIte,xx3,xx4,reduceCtorEq]
          intro vs10 U10 hN10 hM10 vs11 U11 hN11
          simp only [rwn_getD hx1,yz4 hsl,hev,yz3,yz1,go_sem,yz0,xx9,xx8,xx6,xx7,xx5,xx0,xx1,xx2,reduceIte,xx3,xx4,reduceCtorEq]
          refine ⟨⟨by omega,hx1⟩,hx1,⟨by omega,hsl⟩,hsl,?_⟩
          by_cases het:eN next x s=t
          · have heq:(((eN next x s:Nat):Int) == (t:Int))=true:=by rw [beq_iff_eq];omega
            have w1:IntKind.i64.wrap (lapQ (eN next) next.length x s t - 1)=lapQ (eN next) next.length (x+1) s t:=by rw [lapQ_succ,if_pos het.symm];exact w64 (by omega)
            simp only [Bz5c,heq,yz3,yz1,go_sem,yz0,xx9,xx8,xx6,xx7,xx5,xx0,xx1,xx2,reduceIte,xx3,xx4,reduceCtorEq]
            intro vs12 U12 hN12
            simp only [Bz5d,w1,wx,yz3,yz1,go_sem,yz0,xx9,xx8,xx6,xx7,xx5,xx0,xx1,xx2,reduceIte,xx3,xx4,reduceCtorEq]
            intro vs13 U13 hN13
            exact ⟨x+1,by omega,by omega,rfl⟩
          · have heq:(((eN next x s:Nat):Int) == (t:Int))=false:=by rw [beq_eq_false_iff_ne];omega
            have w1:lapQ (eN next) next.length x s t=lapQ (eN next) next.length (x+1) s t:=by rw [lapQ_succ,if_neg (fun e=>het e.symm)];omega
            simp only [Bz5c,heq,yz3,yz1,go_sem,yz0,xx9,xx8,xx6,xx7,xx5,xx0,xx1,xx2,reduceIte,xx3,xx4,reduceCtorEq]
            simp only [Bz5d,w1,wx,yz3,yz1,go_sem,yz0,xx9,xx8,xx6,xx7,xx5,xx0,xx1,xx2,reduceIte,xx3,xx4,reduceCtorEq]
            intro vs13 U13 hN13
            exact ⟨x+1,by omega,by omega,rfl⟩
        · obtain rfl:x=next.length:=by omega
          simp only [Bz17,Bz5b,Bzax,lapQ_all,decide_eq_false hxl,yz3,yz1,go_sem,yz0,xx9,xx8,xx6,xx7,xx5,xx0,xx1,xx2,reduceIte,xx3,xx4,reduceCtorEq]
          intro vs10 U10 hN10 hM10 vs11 U11 hN11
          have hlr:(tabR (fun b=>lapA next s (skp w b)) (if t≤w then t else t - 1)).length≤10:=by rw [tabR_len];split <;> omega
          by_cases htw:t=w
          · subst htw
            simp only [Bz5e,bne_self_eq_false,yz3,yz1,go_sem,yz0,xx9,xx8,xx6,xx7,xx5,xx0,xx1,xx2,reduceIte,xx3,xx4,reduceCtorEq]
            simp only [Bz5f,wt,yz3,yz1,go_sem,yz0,xx9,xx8,xx6,xx7,xx5,xx0,xx1,xx2,reduceIte,xx3,xx4,reduceCtorEq]
            intro vs12 U12 hN12
            exact ⟨(v7,t+1),by dsimp only;omega,by dsimp only;omega,by dsimp only;rw [if_pos (Nat.le_refl _),if_neg (by omega)];rfl⟩
          · have hne:(((t:Nat):Int) != (w:Int))=true:=by rw [bne_iff_ne];omega
            simp only [Bz5e,hne,yz3,yz1,go_sem,yz0,xx9,xx8,xx6,xx7,xx5,xx0,xx1,xx2,reduceIte,xx3,xx4,reduceCtorEq]
            intro vs12 U12 hN12
            refine ⟨⟨_,rfl,rfl⟩,by omega,?_⟩
            have hk:tabR (fun b=>lapA next s (skp w b)) (if t≤w then t else t - 1) ++ [lapE (eN next) next.length s t]=tabR (fun b=>lapA next s (skp w b)) (if t+1≤w then t+1 else t+1 - 1):=by
              rw [show (if t+1≤w then t+1 else t+1 - 1)=(if t≤w then t else t - 1)+1 by split <;> split <;> omega,tabR_snoc]
              rw [skp_at htw]
            simp only [Bz5f,wt,hk,yz3,yz1,go_sem,yz0,xx9,xx8,xx6,xx7,xx5,xx0,xx1,xx2,reduceIte,xx3,xx4,reduceCtorEq]
            intro vs13 U13 hN13
            exact ⟨(vs12 3 0,t+1),by dsimp only;omega,by dsimp only;omega,rfl⟩
      by_cases hst:s=t
      · subst hst
        rw [if_pos rfl] at key
        simp only [Bz5a,beq_self_eq_true,yz3,yz1,go_sem,yz0,xx9,xx8,xx6,xx7,xx5,xx0,xx1,xx2,reduceIte,xx3,xx4,reduceCtorEq]
        intro vs9 U9 hN9 hM9
        simp only [Bzb,yz3,yz1,go_sem,yz0,xx9,xx8,xx6,xx7,xx5,xx0,xx1,xx2,reduceIte,xx3,xx4,reduceCtorEq] at key ⊢
        exact key
      · have hne:(((s:Nat):Int) == (t:Int))=false:=by rw [beq_eq_false_iff_ne];omega
        rw [if_neg (fun e=>hst e.symm)] at key
        simp only [Bz5a,hne,yz3,yz1,go_sem,yz0,xx9,xx8,xx6,xx7,xx5,xx0,xx1,xx2,reduceIte,xx3,xx4,reduceCtorEq]
        simp only [Bzb,yz3,yz1,go_sem,yz0,xx9,xx8,xx6,xx7,xx5,xx0,xx1,xx2,reduceIte,xx3,xx4,reduceCtorEq] at key ⊢
        exact key
    · obtain rfl:t=N+1:=by omega
      have hk:(if N+1≤w then N+1 else N+1 - 1)=N:=by rw [if_neg (by omega)];rfl
      rw [hk]
      simp only [Bz18,Bz59,Bzb1,decide_eq_false htl,yz3,yz1,go_sem,yz0,xx9,xx8,xx6,xx7,xx5,xx0,xx1,xx2,reduceIte,xx3,xx4,reduceCtorEq]
      intro vs6 U6 hN6 vs7 U7 hN7
      by_cases hsw:s=w
      · subst hsw
        simp only [Bz5g,bne_self_eq_false,yz3,yz1,wpD_gh,go_sem,yz0,xx9,xx8,xx6,xx7,xx5,xx0,xx1,xx2,reduceIte,xx3,xx4,reduceCtorEq]
        intro _
        refine ⟨[],?_⟩
        simp only [Bz5h,ws,gwp_nil,yz3,yz1,go_sem,yz0,xx9,xx8,xx6,xx7,xx5,xx0,xx1,xx2,reduceIte,xx3,xx4,reduceCtorEq]
        intro vs8 U8 hN8
        refine ⟨(v5,s+1,ps),by dsimp only;omega,⟨by dsimp only;omega,hdj,?_⟩,rfl⟩
        rw [hps,if_pos (Nat.le_refl _)]
        dsimp only
        rw [if_neg (by omega)];rfl
      · have hne:(((s:Nat):Int) != (w:Int))=true:=by rw [bne_iff_ne];omega
        simp only [Bz5g,hne,yz3,yz1,wpD_gh,go_sem,yz0,xx9,xx8,xx6,xx7,xx5,xx0,xx1,xx2,reduceIte,xx3,xx4,reduceCtorEq]
        intro hD
        refine ⟨[],?_⟩
        simp only [gwp_nil,yz3,yz1,go_sem,yz0,xx9,xx8,xx6,xx7,xx5,xx0,xx1,xx2,reduceIte,xx3,xx4,reduceCtorEq]
        have hf:∀ p∈ps,p.2=[]∨p.1≠v7:=fun p hp=>by
          by_cases e:p.2=[]
          · exact .inl e
          · exact .inr (hD 11 v5 1 true (rwp ps) 20 v7 rfl rfl p.1 1 (ints p.2) (List.mem_map.2 ⟨p,hp,rfl⟩) (by simpa using e))
        have hp10:ps.length≤10:=by rw [hpl];split <;> omega
        intro vs8 U8 hN8
        refine ⟨by rw [rwp_len];omega,?_⟩
        simp only [Bz5h,ws,rwp_snoc,yz3,yz1,go_sem,yz0,xx9,xx8,xx6,xx7,xx5,xx0,xx1,xx2,reduceIte,xx3,xx4,reduceCtorEq]
        intro vs9 U9 hN9
        refine ⟨(vs8 3 0,s+1,ps ++ [(v7,tabR (fun b=>lapA next s (skp w b)) N)]),by dsimp only;omega,⟨by dsimp only;omega,hdj.snoc hf,?_⟩,rfl⟩
        have hrow:tabR (fun b=>lapA next s (skp w b)) N=tabR (minM (lapA next) w (if s≤w then s else s - 1)) N:=by
          unfold minM;rw [skp_at hsw]
        dsimp only
        rw [List.map_append,hps,show (if s+1≤w then s+1 else s+1 - 1)=(if s≤w then s else s - 1)+1 by split <;> split <;> omega,tabC_snoc,hrow];rfl
  · obtain rfl:s=N+1:=by omega
    rw [if_neg (show ¬ N+1≤w by omega),Nat.add_sub_cancel] at hps hpl
    have hps:ps.map (·.2)=tabM (minM (lapA next) w) N:=hps
    simp only [Bz19,Bz58,Bzb5,decide_eq_false hlt,yz3,yz1,go_sem,yz0,xx9,xx8,xx6,xx7,xx5,xx0,xx1,xx2,reduceIte,xx3,xx4,reduceCtorEq]
    intro vs6 U6 hN6 vs7 U7 hN7
    refine call_hav (k_l03Minor (minM (lapA next) w) N (by omega) hZ ps hdj hps) ?_ ?_
    · rw [coeHL_cons,coeHL_nil];exact ⟨coeH_own rfl,trivial⟩
    rintro _ rfl
    rw [cl_L,hmw]
    simp only [clT,clO,clV_own,← hQ,Az5i,go_sem,yz0,xx9,xx8,xx6,xx7,xx5,xx0,xx1,xx2,reduceIte,xx3,xx4,reduceCtorEq]
end Go.Ab
namespace Go.Ab
open Go Go.Proofs
theorem k_l01Gcd (a b:Int) (ha:0≤a∧a≤4611686018427387904) (hb:0≤b∧b≤4611686018427387904):Fun Try.prog nz2b [iv a,iv b] (iv (Int.gcd a b)):=by
  refine fun_of mixed czfq rfl ⟨rfl,trivial⟩ ?_
  simp only [Azbd,Bzbc,go_sem,yz0,xx9,xx8,xx6,xx7,xx5,xx0,xx1,xx2,reduceIte,xx3,xx4,reduceCtorEq]
  refine wpD_lo (fun (_,y)=>y.natAbs) (fun (x,y)=>(0≤x∧x≤4611686018427387904)∧(0≤y∧y≤4611686018427387904)∧Int.gcd x y=Int.gcd a b)
    (fun ((x,y):Int×Int)=>⟨L .any [(0,iv x),(1,iv y)],L .gone []⟩) (a,b) ⟨ha,hb,rfl⟩ (by simp only [Bz1a,go_sem,yz0,xx9,xx8,xx6,xx7,xx5,xx0,xx1,xx2,reduceIte,xx3,xx4,reduceCtorEq];try rfl) ?_
  rintro ⟨x,y⟩ ⟨hx,hy,hg⟩
  have hx:0≤x∧x≤4611686018427387904:=hx
  have hy:0≤y∧y≤4611686018427387904:=hy
  have hg:Int.gcd x y=Int.gcd a b:=hg
  by_cases h0:y=0
  · subst h0
    have e0:((0:Int) != 0)=false:=rfl
    simp only [e0,Bz1a,Bz5j,Bzbb,go_sem,yz0,xx9,xx8,xx6,xx7,xx5,xx0,xx1,xx2,reduceIte,xx3,xx4,reduceCtorEq]
    rw [Int.gcd_zero_right] at hg
    rw [← hg]
    refine congrArg (fun z=>AVal.val (Value.int IntKind.i64 z)) ?_
    omega
  · have e0:(y != 0)=true:=by simpa using h0
    simp only [e0,Bz1a,Bz5j,Bzba,Bzb9,Bzb8,go_sem,yz0,xx9,xx8,xx6,xx7,xx5,xx0,xx1,xx2,reduceIte,xx3,xx4,reduceCtorEq]
    rw [if_neg h0]
    have h1:=Int.natAbs_tmod x y
    have h2:x.natAbs % y.natAbs<y.natAbs:=Nat.mod_lt _ (by omega)
    have h3:=Int.tmod_nonneg y hx.1
    exact ⟨rfl,(y,x.tmod y),by dsimp only;omega,⟨hy,⟨h3,by dsimp only;omega⟩,by dsimp only;rw [gcd_tmod];exact hg⟩,rfl⟩
theorem k_l03Weights (n:Int) (next:List (List Int)) (A:Aut n next) (hc:conB n next=true):RowI Try.prog nz20 [autP n next] (fun ys=>ys=wghL n next):=by
  refine rowI_of mixed czfe rfl ?_
  have n1:=A.n1
  have n2:=A.n2
  have hM:=maxLen_le
  obtain ⟨N,hN⟩:∃ N:Nat,n.toNat=N+1:=⟨n.toNat - 1,by omega⟩
  have hnN:n=((N+1:Nat):Int):=by omega
  generalize hQ:finQ _=Q
  simp only [Az4m,Bz8u,go_sem,yz0,xx9,xx8,xx6,xx7,xx5,xx0,xx1,xx2,reduceIte,xx3,xx4,reduceCtorEq]
  intro vs
  simp only [Bz8t,Bz8s,Bz8m,go_sem,yz0,xx9,xx8,xx6,xx7,xx5,xx0,xx1,xx2,reduceIte,xx3,xx4,reduceCtorEq]
  refine wpD_lo (fun (_,k)=>N+1 - k) (fun (_,k)=>k≤N+1)
    (fun ((v3,k):Nat×Nat)=>⟨L .any [(0,autP n next),(3,.own 7 v3),(4,iv (gcdW n next k)),(5,iv k)],
      L .gone [(7,.row v3 1 true (ints (tabR (minW n next) k)))]⟩)
    (_,0) (Nat.zero_le _) (by simp only [Bzw,gcdW,tabR,List.range_zero,List.map_nil,go_sem,yz0,xx9,xx8,xx6,xx7,xx5,xx0,xx1,xx2,reduceIte,xx3,xx4,reduceCtorEq];try rfl) ?_
  rintro ⟨v3,k⟩ hk
  have hk:k≤N+1:=hk
  by_cases hkl:(k:Int)<n
  · have hk1:k<N+1:=by omega
    have wk:IntKind.i64.wrap ((k:Int)+1)=((k+1:Nat):Int):=by rw [w64 (by omega)];simp
    have hmr:=minW_rg A hc (s:=k) (by omega)
    have hgr:=gcdW_rg A hc k (by omega)
    have hbl:k<(tabR (minW n next) (k+1)).length:=by rw [tabR_len];omega
    have hgd:(tabR (minW n next) (k+1)).getD k 0=minW n next k:=tabR_getD (by omega)
    simp only [Bzw,Bz4k,Bz8l,decide_eq_true hkl,go_sem,yz0,xx9,xx8,xx6,xx7,xx5,xx0,xx1,xx2,reduceIte,xx3,xx4,reduceCtorEq]
    intro vs2
    refine yz6 (k_l03Trees n next A hc k (by omega)) qCS trivial ?_
    simp only [go_sem,yz0,xx9,xx8,xx6,xx7,xx5,xx0,xx1,xx2,reduceIte,xx3,xx4,reduceCtorEq]
    refine ⟨⟨_,rfl,rfl⟩,by rw [tabR_len];omega,?_⟩
    rw [← tabR_snoc]
    simp only [Bz8j,yz4 hbl,hgd,go_sem,yz0,xx9,xx8,xx6,xx7,xx5,xx0,xx1,xx2,reduceIte,xx3,xx4,reduceCtorEq]
    intro vs3
    refine ⟨⟨by omega,hbl⟩,hbl,?_⟩
    refine yz6 (k_l01Gcd (gcdW n next k) (minW n next k) (by omega) (by omega)) qCS trivial ?_
    simp only [Bz8k,wk,go_sem,yz0,xx9,xx8,xx6,xx7,xx5,xx0,xx1,xx2,reduceIte,xx3,xx4,reduceCtorEq]
    exact ⟨(vs2 5 0,k+1),by dsimp only;omega,by dsimp only;omega,rfl⟩
  · obtain rfl:k=N+1:=by omega
    have hgr:=gcdW_rg A hc (N+1) (by omega)
    have hg0:¬ gcdW n next (N+1)=0:=by have:=hgr.2.2 (by omega);omega
    simp only [Bzw,Bz4k,Bz8r,Bz8p,decide_eq_false hkl,go_sem,yz0,xx9,xx8,xx6,xx7,xx5,xx0,xx1,xx2,reduceIte,xx3,xx4,reduceCtorEq]
    refine wpD_lo (fun (i:Nat)=>N+1 - i) (fun i=>i≤N+1)
      (fun (i:Nat)=>⟨L .any [(3,.own 7 v3),(4,iv (gcdW n next (N+1))),(6,iv i)],
        L .gone [(7,.row v3 1 true (ints (tabR (fun s=>if s<i then (minW n next s).tdiv (gcdW n next (N+1)) else minW n next s) (N+1))))]⟩)
      0 (Nat.zero_le _) (by
        have:tabR (fun s=>if s<0 then (minW n next s).tdiv (gcdW n next (N+1)) else minW n next s) (N+1)=tabR (minW n next) (N+1):=tabR_congr fun b _=>by rw [if_neg (by omega)]
        rw [this]
        simp only [Bzx,go_sem,yz0,xx9,xx8,xx6,xx7,xx5,xx0,xx1,xx2,reduceIte,xx3,xx4,reduceCtorEq];try rfl) ?_
    intro i hi
    have hi:i≤N+1:=hi
    have hRl:(tabR (fun s=>if s<i then (minW n next s).tdiv (gcdW n next (N+1)) else minW n next s) (N+1)).length=N+1:=tabR_len
    by_cases hil:(i:Int)<((N+1:Nat):Int)
    · have hi1:i<N+1:=by omega
      have wi:IntKind.i64.wrap ((i:Int)+1)=((i+1:Nat):Int):=by rw [w64 (by omega)];simp
      have hmr:=minW_rg A hc (s:=i) (by omega)
      have hset:(tabR (fun s=>if s<i then (minW n next s).tdiv (gcdW n next (N+1)) else minW n next s) (N+1)).set i ((minW n next i).tdiv (gcdW n next (N+1)))=tabR (fun s=>if s<i+1 then (minW n next s).tdiv (gcdW n next (N+1)) else minW n next s) (N+1):=tabR_set fun b _=>by
        by_cases e:b=i
        · subst e;rw [if_pos rfl,if_pos (by omega)]
        · rw [if_neg e]
          by_cases e2:b<i
          · rw [if_pos e2,if_pos (by omega)]
          · rw [if_neg e2,if_neg (by omega)]
      have hg:(tabR (fun s=>if s<i then (minW n next s).tdiv (gcdW n next (N+1)) else minW n next s) (N+1)).getD i 0=minW n next i:=by rw [tabR_getD hi1,if_neg (by omega)]
      have hdv:0≤(minW n next i).tdiv (gcdW n next (N+1))∧(minW n next i).tdiv (gcdW n next (N+1))≤minW n next i:=by
        rw [Int.tdiv_eq_ediv_of_nonneg (by omega)]
        exact ⟨Int.ediv_nonneg (by omega) hgr.1,Int.ediv_le_self _ (by omega)⟩
      have w1:IntKind.i64.wrap ((minW n next i).tdiv (gcdW n next (N+1)))=(minW n next i).tdiv (gcdW n next (N+1)):=w64 (by omega)
      generalize tabR (fun s=>if s<i then (minW n next s).tdiv (gcdW n next (N+1)) else minW n next s) (N+1)=R1 at hset hg hRl ⊢
      have i1:i<R1.length:=by omega
      have hlr:(i:Int)<(R1.length:Int):=by omega
      have hp1:=put_ints (v:=(minW n next i).tdiv (gcdW n next (N+1))) i1
      rw [hset] at hp1
      simp only [Bzx,Bz4l,Bz8o,decide_eq_true hlr,yz4 i1,hg,hg0,w1,if_false,go_sem,yz0,xx9,xx8,xx6,xx7,xx5,xx0,xx1,xx2,reduceIte,xx3,xx4,reduceCtorEq]
      intro hM2
      refine ⟨⟨by omega,i1⟩,i1,⟨by omega,i1⟩,i1,?_⟩
      simp only [hp1,Bz8n,wi,go_sem,yz0,xx9,xx8,xx6,xx7,xx5,xx0,xx1,xx2,reduceIte,xx3,xx4,reduceCtorEq]
      exact ⟨i+1,by omega,by omega,rfl⟩
    · obtain rfl:i=N+1:=by omega
      have hend:tabR (fun s=>if s<N+1 then (minW n next s).tdiv (gcdW n next (N+1)) else minW n next s) (N+1)=wghL n next:=by
        unfold wghL
        rw [hN]
        exact tabR_congr fun b hb=>by rw [if_pos hb]
      rw [hend] at hRl ⊢
      simp only [Bzx,Bz4l,Bz8q,Az4m,← hQ,hRl,decide_eq_false hil,go_sem,yz0,xx9,xx8,xx6,xx7,xx5,xx0,xx1,xx2,reduceIte,xx3,xx4,reduceCtorEq]
      intro hM2
      exact ⟨7,v3,wghL n next,by omega,rfl,by simp only [go_sem,yz0,xx9,xx8,xx6,xx7,xx5,xx0,xx1,xx2,reduceIte,xx3,xx4,reduceCtorEq],rfl⟩
end Go.Ab
namespace Go.Ab
open Go Go.Proofs
theorem k_l01Joined (n:Int) (next:List (List Int)) (A:Aut n next):Fun Try.prog nz1z [autP n next] (bv (conB n next)):=by
  refine fun_of mixed czfd rfl ⟨rfl,trivial⟩ ?_
  have n1:=A.n1
  have n2:=A.n2
  simp only [Az8i,Bz8h,Bz8f,go_sem,yz0,xx9,xx8,xx6,xx7,xx5,xx0,xx1,xx2,reduceIte,xx3,xx4,reduceCtorEq]
  refine wpD_lo (fun s=>n.toNat - s) (fun s=>s≤n.toNat∧((List.range s).all fun (s:Nat)=>!decide (((nrm (reachL n next s)).length:Int)<n))=true)
    (fun s:Nat=>⟨L .any [(0,autP n next),(3,iv s)],L .gone []⟩) 0 ⟨by omega,rfl⟩ (by simp only [Bzv,go_sem,yz0,xx9,xx8,xx6,xx7,xx5,xx0,xx1,xx2,reduceIte,xx3,xx4,reduceCtorEq];try rfl) ?_
  rintro s ⟨hs,ha⟩
  by_cases hlt:(s:Int)<n
  · have ho:=reach_once A (s:=(s:Int)) ⟨by omega,hlt⟩
    have hle:=ho.len n1
    have hnl:=nrm_len_nd ho.nd
    have ws:IntKind.i64.wrap ((s:Int)+1)=((s+1:Nat):Int):=by rw [w64 (by omega)];simp
    simp only [Bzv,Bz4i,Bz8e,decide_eq_true hlt,go_sem,yz0,xx9,xx8,xx6,xx7,xx5,xx0,xx1,xx2,reduceIte,xx3,xx4,reduceCtorEq]
    intro vs2
    refine call_rowI (k_l01Reached n next s A (by omega)) qCS qGN ⟨_,rfl⟩ ?_
    rintro ys v rfl
    simp only [go_sem,yz0,xx9,xx8,xx6,xx7,xx5,xx0,xx1,xx2,reduceIte,xx3,xx4,reduceCtorEq]
    by_cases hd:((nrm (reachL n next s)).length:Int)<n
    · have hne:(((nrm (reachL n next s)).length:Int) != n)=true:=by rw [bne_iff_ne];omega
      simp only [Bz4j,hne,go_sem,yz0,xx9,xx8,xx6,xx7,xx5,xx0,xx1,xx2,reduceIte,xx3,xx4,reduceCtorEq]
      have:conB n next=false:=by
        rw [Bool.eq_false_iff]
        intro h
        have:=List.all_eq_true.1 h s (List.mem_range.2 (by omega))
        rw [decide_eq_true hd] at this;cases this
      rw [this]
    · have hne:(((nrm (reachL n next s)).length:Int) != n)=false:=by
        have:((nrm (reachL n next s)).length:Int)=n:=by omega
        rw [this,bne_self_eq_false]
      simp only [Bz4j,Bz8d,hne,ws,go_sem,yz0,xx9,xx8,xx6,xx7,xx5,xx0,xx1,xx2,reduceIte,xx3,xx4,reduceCtorEq]
      exact ⟨s+1,by omega,⟨by omega,by rw [List.range_succ,List.all_append,ha];simp [decide_eq_false hd]⟩,rfl⟩
  · obtain rfl:s=n.toNat:=by omega
    simp only [Bzv,Bz4i,Bz8g,decide_eq_false hlt,go_sem,yz0,xx9,xx8,xx6,xx7,xx5,xx0,xx1,xx2,reduceIte,xx3,xx4,reduceCtorEq]
    unfold conB
    rw [ha]
def codeW (n:Int) (next:List (List Int)) (set:List Int):Int :=
  if autB n next then (if setB n set then (if conB n next then 0 else 4) else 2) else 1
theorem k_weightCode_1 (n:Int) (next:List (List Int)) (set:List Int) (hn:1≤n∧n≤10) :
    Fun Try.prog nzi [.rp [.ro none 1 (ints set)] 0,autP n next] (bv (setB n set)):=by
  refine fun_of mixed czfs rfl ⟨rfl,trivial⟩ ?_
  simp only [Bzbj,Azbk,go_sem,yz0,xx9,xx8,xx6,xx7,xx5,xx0,xx1,xx2,reduceIte,xx3,xx4,reduceCtorEq]
  intro vs
  refine yz6 (k_isSet set n hn) qCS trivial ?_
  simp only [go_sem,yz0,xx9,xx8,xx6,xx7,xx5,xx0,xx1,xx2,reduceIte,xx3,xx4,reduceCtorEq]
theorem k_weightCode (n:Int) (next:List (List Int)) (set:List Int):Fun Try.prog nz22 [autA n next,.ro none 1 (ints set)] (iv (codeW n next set)):=by
  refine fun_of mixed czfg rfl ⟨rfl,trivial⟩ ?_
  simp only [Az93,Bz92,go_sem,yz0,xx9,xx8,xx6,xx7,xx5,xx0,xx1,xx2,reduceIte,xx3,xx4,reduceCtorEq]
  intro vs vs2
  refine yz6 (k_code n next nzi [.rp [.ro none 1 (ints set)] 0,autP n next] _ ⟨by simp only [go_sem,yz0,xx9,xx8,xx6,xx7,xx5,xx0,xx1,xx2,reduceIte,xx3,xx4,reduceCtorEq],by intros;simp only [rowIs,boxIs,coe_argN,coe_argNs,coe_ro_o,coeL_nil,coeL_cons,coe_any,coe_val,coe_ro,coe_ro_nil,coe_ro_own,coe_st,coe_st_agg,coe_rp,coe_rp_ptr,coe_clo,coe_own0,coe_ptr0,coeL_intsK,coeL_rws,coeL_rwn,L_hit,L_miss,L_nil,xx3,ne_eq,reduceCtorEq,not_false_eq_true,true_and,and_true,and_self,exists_eq_left,exists_eq_right,List.mem_cons,List.not_mem_nil,or_false,AObj.row.injEq,AObj.box.injEq,exists_eq_left',exists_and_left,exists_eq,Nat.zero_lt_one,Nat.lt_add_one,List.map_cons,List.map_nil,AObj.ver,xx5,not_true_eq_false]⟩
    (fun hv=>k_weightCode_1 n next set ⟨(autB_iff.1 hv).n1,(autB_iff.1 hv).n2⟩)) qCS trivial ?_
  cases hv:autB n next with
  | false =>
    have h3:codeI false (setB n set)=1:=by simp [codeI]
    have h4:codeW n next set=1:=by simp [codeW,hv]
    have e0:((1:Int) == 0)=false:=rfl
    simp only [h3,h4,e0,Bzy,Bz9,Bza,go_sem,yz0,xx9,xx8,xx6,xx7,xx5,xx0,xx1,xx2,reduceIte,xx3,xx4,reduceCtorEq]
  | true =>
    have A:=autB_iff.1 hv
    cases hw:setB n set with
    | false =>
      have h3:codeI true false=2:=by simp [codeI]
      have h4:codeW n next set=2:=by simp [codeW,hv,hw]
      have e0:((2:Int) == 0)=false:=rfl
      simp only [h3,h4,e0,Bzy,Bz9,Bza,go_sem,yz0,xx9,xx8,xx6,xx7,xx5,xx0,xx1,xx2,reduceIte,xx3,xx4,reduceCtorEq]
    | true =>
      have h3:codeI true true=0:=by simp [codeI]
      have e0:((0:Int) == 0)=true:=rfl
      simp only [h3,e0,Bzy,go_sem,yz0,xx9,xx8,xx6,xx7,xx5,xx0,xx1,xx2,reduceIte,xx3,xx4,reduceCtorEq]
      intro vs3
      refine yz6 (k_isConnected n next A) qCS trivial ?_
      cases hb:conB n next with
      | false =>
        have h4:codeW n next set=4:=by simp [codeW,hv,hw,hb]
        simp only [h4,Bz9,Bza,go_sem,yz0,xx9,xx8,xx6,xx7,xx5,xx0,xx1,xx2,reduceIte,xx3,xx4,reduceCtorEq]
      | true =>
        have h4:codeW n next set=0:=by simp [codeW,hv,hw,hb]
        simp only [h4,Bz9,Bza,go_sem,yz0,xx9,xx8,xx6,xx7,xx5,xx0,xx1,xx2,reduceIte,xx3,xx4,reduceCtorEq]
theorem codeW_ok {n:Int} {next:List (List Int)} {set:List Int}:codeW n next set=0↔autB n next=true∧setB n set=true∧conB n next=true:=by
  unfold codeW
  cases autB n next <;> cases setB n set <;> cases conB n next <;> simp
theorem setB_nil {n:Int}:setB n []=true:=setB_iff.2 ⟨by simp [SI],by simp⟩
theorem k_WeightsOf (n:Int) (next:List (List Int)):RowT Try.prog nz5 [autA n next] (autB n next && conB n next) (wghL n next) (codeW n next []):=by
  refine con_of mixed czf5 rfl (by simp) ?_
  simp only [Az76,Bz75,go_sem,yz0,xx9,xx8,xx6,xx7,xx5,xx0,xx1,xx2,reduceIte,xx3,xx4,reduceCtorEq]
  intro vs vs2
  refine yz6 (k_weightCode n next []) qCS trivial ?_
  cases hok:(autB n next && conB n next) with
  | false =>
    have h0:(codeW n next [] != 0)=true:=by
      rw [bne_iff_ne]
      intro h
      have:=codeW_ok.1 h
      rw [this.1,this.2.2] at hok;cases hok
    simp only [h0,Bz3v,Bz3u,go_sem,yz0,xx9,xx8,xx6,xx7,xx5,xx0,xx1,xx2,reduceIte,xx3,xx4,reduceCtorEq]
    refine ⟨[],by simp,by simp,by simp,?_⟩
    simp only [Nat.not_lt_zero,range1,ren_val,ren_any,ren_ro,rnNm_n,rnNm_sn,rnNm_o,rnNm_s,ren_st,ren_tup,renL_nil,renL_cons,renL_intsK,renL_rws,renL_rwn,oren_box,oren_row,oren_map,ren_own_e0,ren_own_e1,ren_own_e2,ren_ptr_e0,ren_mp_e0,ren_mp_e1,ren_own_r0,ren_own_r1,ren_own_r2,ren_ptr_r0,ren_mp_r0,ren_mp_r1,List.range_zero,callHp_nil,callHp_one,callHp_two,gone_nil,gone_one,gone_two,AVal.fresh,freshL,yz7,fresh_rws,AObj.fresh,id,Option.isSome_some,or_true,true_or,go_sem,yz0,xx9,xx8,xx6,xx7,xx5,xx0,xx1,xx2,reduceIte,xx3,xx4,reduceCtorEq]
  | true =>
    rw [Bool.and_eq_true] at hok
    have h0:codeW n next []=0:=codeW_ok.2 ⟨hok.1,setB_nil,hok.2⟩
    simp only [h0,Bz3v,Bz3u,Bz74,bne_self_eq_false,go_sem,yz0,xx9,xx8,xx6,xx7,xx5,xx0,xx1,xx2,reduceIte,xx3,xx4,reduceCtorEq]
    intro vs3
    refine call_rowI (k_weights n next (autB_iff.1 hok.1) hok.2) qCS rfl ⟨_,rfl⟩ ?_
    rintro ys v rfl
    simp only [go_sem,yz0,xx9,xx8,xx6,xx7,xx5,xx0,xx1,xx2,reduceIte,xx3,xx4,reduceCtorEq]
    refine ⟨[11],by simp,by simp,by simp,?_⟩
    simp only [range1,List.length_singleton,Nat.not_lt_zero,range1,ren_val,ren_any,ren_ro,rnNm_n,rnNm_sn,rnNm_o,rnNm_s,ren_st,ren_tup,renL_nil,renL_cons,renL_intsK,renL_rws,renL_rwn,oren_box,oren_row,oren_map,ren_own_e0,ren_own_e1,ren_own_e2,ren_ptr_e0,ren_mp_e0,ren_mp_e1,ren_own_r0,ren_own_r1,ren_own_r2,ren_ptr_r0,ren_mp_r0,ren_mp_r1,List.range_zero,callHp_nil,callHp_one,callHp_two,gone_nil,gone_one,gone_two,AVal.fresh,freshL,yz7,fresh_rws,AObj.fresh,id,Option.isSome_some,or_true,true_or,go_sem,yz0,xx9,xx8,xx6,xx7,xx5,xx0,xx1,xx2,reduceIte,xx3,xx4,reduceCtorEq]
    exact ⟨v,rfl,rfl⟩
theorem k_specWeightsOf (n:Int) (next:List (List Int)):RowC2 Try.prog nzh [autA n next] (if autB n next && conB n next then wghL n next else []) (codeW n next []):=by
  refine con_of mixed czf3 rfl (by simp) ?_
  simp only [Az6y,Bz6x,go_sem,yz0,xx9,xx8,xx6,xx7,xx5,xx0,xx1,xx2,reduceIte,xx3,xx4,reduceCtorEq]
  intro vs vs2
  refine yz6 (k_l01Ok n next) qCS trivial ?_
  cases hv:autB n next with
  | false =>
    have h4:codeW n next []=1:=by simp [codeW,hv]
    simp only [Bz3s,h4,go_sem,yz0,xx9,xx8,xx6,xx7,xx5,xx0,xx1,xx2,reduceIte,xx3,xx4,reduceCtorEq]
    intro vs3
    refine ⟨[6],by simp,by simp,by simp,?_⟩
    simp only [range1,List.length_singleton,Bool.false_and,Bool.false_eq_true,if_false,Nat.not_lt_zero,range1,ren_val,ren_any,ren_ro,rnNm_n,rnNm_sn,rnNm_o,rnNm_s,ren_st,ren_tup,renL_nil,renL_cons,renL_intsK,renL_rws,renL_rwn,oren_box,oren_row,oren_map,ren_own_e0,ren_own_e1,ren_own_e2,ren_ptr_e0,ren_mp_e0,ren_mp_e1,ren_own_r0,ren_own_r1,ren_own_r2,ren_ptr_r0,ren_mp_r0,ren_mp_r1,List.range_zero,callHp_nil,callHp_one,callHp_two,gone_nil,gone_one,gone_two,AVal.fresh,freshL,yz7,fresh_rws,AObj.fresh,id,Option.isSome_some,or_true,true_or,go_sem,yz0,xx9,xx8,xx6,xx7,xx5,xx0,xx1,xx2,reduceIte,xx3,xx4,reduceCtorEq]
    exact ⟨_,rfl,rfl⟩
  | true =>
    have A:=autB_iff.1 hv
    simp only [Bz3s,Bz6w,go_sem,yz0,xx9,xx8,xx6,xx7,xx5,xx0,xx1,xx2,reduceIte,xx3,xx4,reduceCtorEq]
    intro vs3
    refine yz6 (k_l01Joined n next A) qCS trivial ?_
    cases hb:conB n next with
    | false =>
      have h4:codeW n next []=4:=by simp [codeW,hv,hb,setB_nil]
      simp only [Bz3t,h4,go_sem,yz0,xx9,xx8,xx6,xx7,xx5,xx0,xx1,xx2,reduceIte,xx3,xx4,reduceCtorEq]
      intro vs4
      refine ⟨[9],by simp,by simp,by simp,?_⟩
      simp only [range1,List.length_singleton,Bool.and_false,Bool.false_eq_true,if_false,Nat.not_lt_zero,range1,ren_val,ren_any,ren_ro,rnNm_n,rnNm_sn,rnNm_o,rnNm_s,ren_st,ren_tup,renL_nil,renL_cons,renL_intsK,renL_rws,renL_rwn,oren_box,oren_row,oren_map,ren_own_e0,ren_own_e1,ren_own_e2,ren_ptr_e0,ren_mp_e0,ren_mp_e1,ren_own_r0,ren_own_r1,ren_own_r2,ren_ptr_r0,ren_mp_r0,ren_mp_r1,List.range_zero,callHp_nil,callHp_one,callHp_two,gone_nil,gone_one,gone_two,AVal.fresh,freshL,yz7,fresh_rws,AObj.fresh,id,Option.isSome_some,or_true,true_or,go_sem,yz0,xx9,xx8,xx6,xx7,xx5,xx0,xx1,xx2,reduceIte,xx3,xx4,reduceCtorEq]
      exact ⟨_,rfl,rfl⟩
    | true =>
      have h4:codeW n next []=0:=codeW_ok.2 ⟨hv,setB_nil,hb⟩
      simp only [Bz3t,Bz6v,h4,go_sem,yz0,xx9,xx8,xx6,xx7,xx5,xx0,xx1,xx2,reduceIte,xx3,xx4,reduceCtorEq]
      intro vs4
      refine call_rowI (k_l03Weights n next A hb) qCS rfl ⟨_,rfl⟩ ?_
      rintro ys v rfl
      simp only [go_sem,yz0,xx9,xx8,xx6,xx7,xx5,xx0,xx1,xx2,reduceIte,xx3,xx4,reduceCtorEq]
      refine ⟨[10],by simp,by simp,by simp,?_⟩
      simp only [range1,List.length_singleton,Bool.and_true,if_true,Nat.not_lt_zero,range1,ren_val,ren_any,ren_ro,rnNm_n,rnNm_sn,rnNm_o,rnNm_s,ren_st,ren_tup,renL_nil,renL_cons,renL_intsK,renL_rws,renL_rwn,oren_box,oren_row,oren_map,ren_own_e0,ren_own_e1,ren_own_e2,ren_ptr_e0,ren_mp_e0,ren_mp_e1,ren_own_r0,ren_own_r1,ren_own_r2,ren_ptr_r0,ren_mp_r0,ren_mp_r1,List.range_zero,callHp_nil,callHp_one,callHp_two,gone_nil,gone_one,gone_two,AVal.fresh,freshL,yz7,fresh_rws,AObj.fresh,id,Option.isSome_some,or_true,true_or,go_sem,yz0,xx9,xx8,xx6,xx7,xx5,xx0,xx1,xx2,reduceIte,xx3,xx4,reduceCtorEq]
      exact ⟨v,rfl,rfl⟩
end Go.Ab
namespace Go.Ab
open Go.Proofs
theorem law_WeightsOf (n:Int) (next:List (List Int)) (ok:Bool) (ws zs:List Int) (cc:Int) (KS:RowC2 Try.prog nzh [.st [iv n,.ro none 1 (rwn next)]] ws cc) (KI:RowT Try.prog nz5 [.st [iv n,.ro none 1 (rwn next)]] ok zs cc)
    (h1:ok=true→ws=zs) (h2:ok=false→ws=[]) (hz:ok=true→(zs.length:Int)≤1000000000) :
    Fun Try.prog nz1s [.st [iv n,.ro (some (some 0)) 1 (rwo next)]] (bv true):=by
  refine fun_of mixed czf1 rfl ⟨rfl,trivial⟩ ?_
  simp only [Az6r,Bz6q,Bz6p,yz3,yz1,go_sem,yz0,xx9,xx8,xx6,xx7,xx5,xx0,xx1,xx2,reduceIte,xx3,xx4,reduceCtorEq]
  rintro vs1 U1 - vs2 U2 - vs3 U3 -
  refine yz6 (k_szAutomaton n next 1048576 (by omega)) qCO trivial ?_
  by_cases hsz0:(szLL next 1048576)<0
  · simp only [Bz3p,Bz2y,decide_eq_true hsz0,yz3,yz1,go_sem,yz0,xx9,xx8,xx6,xx7,xx5,xx0,xx1,xx2,reduceIte,xx3,xx4,reduceCtorEq]
    try simp
  obtain ⟨hsa_next,hsb_next,hsc_next⟩:=szLL_ge (xss:=next) (l:=1048576) (by omega)
  have htot_next:=szLL_tot (ps:=next.map fun x=>(0,x)) (l:=1048576) (by rw [List.map_map];simp only [Function.comp_def,List.map_id'];omega) (by omega)
  have hb_next:next.length * 24≤140737488355328:=by omega
  have hc_next:∀ xs∈next,xs.length * 8≤140737488355328:=fun xs hx=>by have:=hsb_next xs hx;omega
  have hd_next:∀ xs∈next,(xs.length:Int)≤1000000000:=fun xs hx=>by have:=hsb_next xs hx;omega
  simp only [Bz3p,Bz2y,Bz6o,decide_eq_false hsz0,yz3,yz1,go_sem,yz0,xx9,xx8,xx6,xx7,xx5,xx0,xx1,xx2,reduceIte,xx3,xx4,reduceCtorEq]
  rintro vs4 U4 - vs5 U5 -
  refine call_aut (k_toAutomaton n next hb_next hc_next) qCO rfl ?_
  intro v1
  try simp only [yz3,yz1,go_sem,yz0,xx9,xx8,xx6,xx7,xx5,xx0,xx1,xx2,reduceIte,xx3,xx4,reduceCtorEq]
  refine call_rowC2 KS qCS rfl ?_
  intro v2
  simp only [Bz6n,yz3,yz1,go_sem,yz0,xx9,xx8,xx6,xx7,xx5,xx0,xx1,xx2,reduceIte,xx3,xx4,reduceCtorEq]
  rintro vs6 U6 hN6
  refine call_autN (fun x y e=>(hN6.inj _ _ _ _ e).2) (k_toAutomatonN n next hb_next hc_next) qCO rfl ?_
  intro v3 ps_next hps_next hdj_next
  clear hN6
  have htt_next:totL ps_next≤1048576:=by have h:=szLL_tot (ps:=ps_next) (l:=1048576) (by rw [hps_next];omega) (by omega);omega
  have htn_next:=totL_nn ps_next
  have hdp_next:∀ p∈ps_next,(p.2.length:Int)≤1000000000:=fun p hp=>hd_next p.2 (by rw [← hps_next];exact List.mem_map_of_mem hp)
  simp only [Bz6m,yz3,yz1,go_sem,yz0,xx9,xx8,xx6,xx7,xx5,xx0,xx1,xx2,reduceIte,xx3,xx4,reduceCtorEq]
  rintro vs7 U7 -
  cases ok with
  | true =>
    obtain rfl:=h1 rfl
    have hz:=hz rfl
    refine call_rowT KI (by simp only [← hps_next,coeL_rwp_t,rowIs,boxIs,coe_argN,coe_argNs,coe_ro_o,coeL_nil,coeL_cons,coe_any,coe_val,coe_ro,coe_ro_nil,coe_ro_own,coe_st,coe_st_agg,coe_rp,coe_rp_ptr,coe_clo,coe_own0,coe_ptr0,coeL_intsK,coeL_rws,coeL_rwn,L_hit,L_miss,L_nil,xx3,ne_eq,reduceCtorEq,not_false_eq_true,true_and,and_true,and_self,exists_eq_left,exists_eq_right,List.mem_cons,List.not_mem_nil,or_false,AObj.row.injEq,AObj.box.injEq,exists_eq_left',exists_and_left,exists_eq,Nat.zero_lt_one,Nat.lt_add_one,List.map_cons,List.map_nil,AObj.ver,xx5,not_true_eq_false]) rfl (fun _ v4=>?_) (fun h=>by cases h)
    simp only [Bz3o,yz3,yz1,go_sem,yz0,xx9,xx8,xx6,xx7,xx5,xx0,xx1,xx2,reduceIte,xx3,xx4,reduceCtorEq]
    rintro vs8 U8 -
    refine yz6 (k_eqInt64S ws ws) qCS trivial ?_
    simp only [Bz2z,Bz3n,decide_true,Bool.and_self,bne_self_eq_false,yz3,yz1,go_sem,yz0,xx9,xx8,xx6,xx7,xx5,xx0,xx1,xx2,reduceIte,xx3,xx4,reduceCtorEq]
    rintro vs9 U9 -
    refine call_aut (k_toAutomaton n next hb_next hc_next) qCO rfl ?_
    intro v5
    try simp only [yz3,yz1,go_sem,yz0,xx9,xx8,xx6,xx7,xx5,xx0,xx1,xx2,reduceIte,xx3,xx4,reduceCtorEq]
    refine yz6 (k_eqAutomaton n n next next) (by simp only [← hps_next,coeL_rwp_t,rowIs,boxIs,coe_argN,coe_argNs,coe_ro_o,coeL_nil,coeL_cons,coe_any,coe_val,coe_ro,coe_ro_nil,coe_ro_own,coe_st,coe_st_agg,coe_rp,coe_rp_ptr,coe_clo,coe_own0,coe_ptr0,coeL_intsK,coeL_rws,coeL_rwn,L_hit,L_miss,L_nil,xx3,ne_eq,reduceCtorEq,not_false_eq_true,true_and,and_true,and_self,exists_eq_left,exists_eq_right,List.mem_cons,List.not_mem_nil,or_false,AObj.row.injEq,AObj.box.injEq,exists_eq_left',exists_and_left,exists_eq,Nat.zero_lt_one,Nat.lt_add_one,List.map_cons,List.map_nil,AObj.ver,xx5,not_true_eq_false]) trivial ?_
    simp only [Bz30,Bz3m,Bz3l,decide_true,Bool.and_self,bne_self_eq_false,yz3,yz1,go_sem,yz0,xx9,xx8,xx6,xx7,xx5,xx0,xx1,xx2,reduceIte,xx3,xx4,reduceCtorEq]
    rintro vs10 U10 - vs11 U11 -
    refine call_hav (k_markAutomaton n ps_next hdj_next 1 (by omega) hdp_next) ?_ ?_
    · rw [coeHL_cons,coeHL_cons,coeHL_nil,coeH_val,coeH_st,coeHL_cons,coeHL_cons,coeHL_nil,coeH_val]
      refine ⟨⟨rfl,?_,trivial⟩,rfl,trivial⟩
      exact coeH_own (nn:=true) qWS
    rintro x ⟨k1,rfl,hk1a,hk1b⟩
    have hkn1:¬ (k1<0):=by omega
    simp only [Bz3k,cl_L,clT,clO,clV_any,clV_val,clV_own,clV_ptr,clV_st,clV_o,clL_ints,clL_rwo,clL_cons,clL_nil,clR_row,clR_box,clR_gone,decide_eq_false hkn1,yz3,yz1,go_sem,yz0,xx9,xx8,xx6,xx7,xx5,xx0,xx1,xx2,reduceIte,xx3,xx4,reduceCtorEq]
    rintro vs12 U12 -
    refine yz6 (k_eqInt64S ws ws) qCS trivial ?_
    simp only [Bz31,Bz3j,Bz3i,decide_true,Bool.and_self,bne_self_eq_false,yz3,yz1,go_sem,yz0,xx9,xx8,xx6,xx7,xx5,xx0,xx1,xx2,reduceIte,xx3,xx4,reduceCtorEq]
    rintro vs13 U13 - vs14 U14 -
    refine call_mark (k_markInt64S ws true 1 (by omega) (by omega)) qWS rfl ?_
    simp only [Bz3h,Bz3g,yz3,yz1,go_sem,yz0,xx9,xx8,xx6,xx7,xx5,xx0,xx1,xx2,reduceIte,xx3,xx4,reduceCtorEq]
    rintro vs15 U15 - vs16 U16 -
    refine yz6 (k_held (seqI 1 ws.length) 1 (by omega) (by rw [seqI_len];omega) (by rw [seqI_len])) qCS trivial ?_
    have hneg:¬ ((1:Int)+ws.length<0):=by omega
    simp only [Bz3f,Bz32,Bz3e,Bz33,Bz3d,seqI_len,bne_self_eq_false,decide_eq_false hneg,yz3,yz1,go_sem,yz0,xx9,xx8,xx6,xx7,xx5,xx0,xx1,xx2,reduceIte,xx3,xx4,reduceCtorEq]
    rintro vs17 U17 - vs18 U18 - vs19 U19 -
    refine call_aut (k_toAutomaton n next hb_next hc_next) qCO rfl ?_
    intro v6
    try simp only [yz3,yz1,go_sem,yz0,xx9,xx8,xx6,xx7,xx5,xx0,xx1,xx2,reduceIte,xx3,xx4,reduceCtorEq]
    refine call_rowT KI qCS rfl (fun _ v7=>?_) (fun h=>by cases h)
    simp only [Bz3c,yz3,yz1,go_sem,yz0,xx9,xx8,xx6,xx7,xx5,xx0,xx1,xx2,reduceIte,xx3,xx4,reduceCtorEq]
    rintro vs20 U20 -
    refine yz6 (k_eqInt64S ws ws) qCS trivial ?_
    simp only [Bz34,Bz3b,Bz3a,decide_true,Bool.and_self,bne_self_eq_false,yz3,yz1,go_sem,yz0,xx9,xx8,xx6,xx7,xx5,xx0,xx1,xx2,reduceIte,xx3,xx4,reduceCtorEq]
    rintro vs21 U21 - vs22 U22 -
    refine yz6 (k_held (seqI 1 ws.length) 1 (by omega) (by rw [seqI_len];omega) (by rw [seqI_len])) qCS trivial ?_
    simp only [Bz39,Bz35,Bz38,Bz36,Bz37,seqI_len,bne_self_eq_false,decide_eq_false hneg,yz3,yz1,go_sem,yz0,xx9,xx8,xx6,xx7,xx5,xx0,xx1,xx2,reduceIte,xx3,xx4,reduceCtorEq]
    try simp
  | false =>
    obtain rfl:=h2 rfl
    refine call_rowT KI (by simp only [← hps_next,coeL_rwp_t,rowIs,boxIs,coe_argN,coe_argNs,coe_ro_o,coeL_nil,coeL_cons,coe_any,coe_val,coe_ro,coe_ro_nil,coe_ro_own,coe_st,coe_st_agg,coe_rp,coe_rp_ptr,coe_clo,coe_own0,coe_ptr0,coeL_intsK,coeL_rws,coeL_rwn,L_hit,L_miss,L_nil,xx3,ne_eq,reduceCtorEq,not_false_eq_true,true_and,and_true,and_self,exists_eq_left,exists_eq_right,List.mem_cons,List.not_mem_nil,or_false,AObj.row.injEq,AObj.box.injEq,exists_eq_left',exists_and_left,exists_eq,Nat.zero_lt_one,Nat.lt_add_one,List.map_cons,List.map_nil,AObj.ver,xx5,not_true_eq_false]) rfl (fun h=>by cases h) (fun _=>?_)
    simp only [Bz3o,yz3,yz1,go_sem,yz0,xx9,xx8,xx6,xx7,xx5,xx0,xx1,xx2,reduceIte,xx3,xx4,reduceCtorEq]
    rintro vs8 U8 -
    refine yz6 (k_eqInt64S [] []) (by simp only [List.map_nil,rowIs,boxIs,coe_argN,coe_argNs,coe_ro_o,coeL_nil,coeL_cons,coe_any,coe_val,coe_ro,coe_ro_nil,coe_ro_own,coe_st,coe_st_agg,coe_rp,coe_rp_ptr,coe_clo,coe_own0,coe_ptr0,coeL_intsK,coeL_rws,coeL_rwn,L_hit,L_miss,L_nil,xx3,ne_eq,reduceCtorEq,not_false_eq_true,true_and,and_true,and_self,exists_eq_left,exists_eq_right,List.mem_cons,List.not_mem_nil,or_false,AObj.row.injEq,AObj.box.injEq,exists_eq_left',exists_and_left,exists_eq,Nat.zero_lt_one,Nat.lt_add_one,List.map_cons,List.map_nil,AObj.ver,xx5,not_true_eq_false]) trivial ?_
    simp only [Bz2z,Bz3n,decide_true,Bool.and_self,bne_self_eq_false,yz3,yz1,go_sem,yz0,xx9,xx8,xx6,xx7,xx5,xx0,xx1,xx2,reduceIte,xx3,xx4,reduceCtorEq]
    rintro vs9 U9 -
    refine call_aut (k_toAutomaton n next hb_next hc_next) qCO rfl ?_
    intro v4
    try simp only [yz3,yz1,go_sem,yz0,xx9,xx8,xx6,xx7,xx5,xx0,xx1,xx2,reduceIte,xx3,xx4,reduceCtorEq]
    refine yz6 (k_eqAutomaton n n next next) (by simp only [← hps_next,coeL_rwp_t,rowIs,boxIs,coe_argN,coe_argNs,coe_ro_o,coeL_nil,coeL_cons,coe_any,coe_val,coe_ro,coe_ro_nil,coe_ro_own,coe_st,coe_st_agg,coe_rp,coe_rp_ptr,coe_clo,coe_own0,coe_ptr0,coeL_intsK,coeL_rws,coeL_rwn,L_hit,L_miss,L_nil,xx3,ne_eq,reduceCtorEq,not_false_eq_true,true_and,and_true,and_self,exists_eq_left,exists_eq_right,List.mem_cons,List.not_mem_nil,or_false,AObj.row.injEq,AObj.box.injEq,exists_eq_left',exists_and_left,exists_eq,Nat.zero_lt_one,Nat.lt_add_one,List.map_cons,List.map_nil,AObj.ver,xx5,not_true_eq_false]) trivial ?_
    simp only [Bz30,Bz3m,Bz3l,decide_true,Bool.and_self,bne_self_eq_false,yz3,yz1,go_sem,yz0,xx9,xx8,xx6,xx7,xx5,xx0,xx1,xx2,reduceIte,xx3,xx4,reduceCtorEq]
    rintro vs10 U10 - vs11 U11 -
    refine call_hav (k_markAutomaton n ps_next hdj_next 1 (by omega) hdp_next) ?_ ?_
    · rw [coeHL_cons,coeHL_cons,coeHL_nil,coeH_val,coeH_st,coeHL_cons,coeHL_cons,coeHL_nil,coeH_val]
      refine ⟨⟨rfl,?_,trivial⟩,rfl,trivial⟩
      exact coeH_own (nn:=true) qWS
    rintro x ⟨k2,rfl,hk2a,hk2b⟩
    have hkn2:¬ (k2<0):=by omega
    simp only [Bz3k,cl_L,clT,clO,clV_any,clV_val,clV_own,clV_ptr,clV_st,clV_o,clL_ints,clL_rwo,clL_cons,clL_nil,clR_row,clR_box,clR_gone,decide_eq_false hkn2,yz3,yz1,go_sem,yz0,xx9,xx8,xx6,xx7,xx5,xx0,xx1,xx2,reduceIte,xx3,xx4,reduceCtorEq]
    rintro vs12 U12 -
    refine yz6 (k_eqInt64S [] []) (by simp only [List.map_nil,rowIs,boxIs,coe_argN,coe_argNs,coe_ro_o,coeL_nil,coeL_cons,coe_any,coe_val,coe_ro,coe_ro_nil,coe_ro_own,coe_st,coe_st_agg,coe_rp,coe_rp_ptr,coe_clo,coe_own0,coe_ptr0,coeL_intsK,coeL_rws,coeL_rwn,L_hit,L_miss,L_nil,xx3,ne_eq,reduceCtorEq,not_false_eq_true,true_and,and_true,and_self,exists_eq_left,exists_eq_right,List.mem_cons,List.not_mem_nil,or_false,AObj.row.injEq,AObj.box.injEq,exists_eq_left',exists_and_left,exists_eq,Nat.zero_lt_one,Nat.lt_add_one,List.map_cons,List.map_nil,AObj.ver,xx5,not_true_eq_false]) trivial ?_
    simp only [Bz31,Bz3j,Bz3i,decide_true,Bool.and_self,bne_self_eq_false,yz3,yz1,go_sem,yz0,xx9,xx8,xx6,xx7,xx5,xx0,xx1,xx2,reduceIte,xx3,xx4,reduceCtorEq]
    rintro vs13 U13 - vs14 U14 -
    refine yz6 (k_markNil 1) qCS trivial ?_
    simp only [Bz3h,Bz3g,yz3,yz1,go_sem,yz0,xx9,xx8,xx6,xx7,xx5,xx0,xx1,xx2,reduceIte,xx3,xx4,reduceCtorEq]
    rintro vs15 U15 - vs16 U16 -
    refine yz6 k_heldNil qCS trivial ?_
    simp only [Bz3f,Bz32,Bz3e,Bz33,Bz3d,bne_self_eq_false,dec10,yz3,yz1,go_sem,yz0,xx9,xx8,xx6,xx7,xx5,xx0,xx1,xx2,reduceIte,xx3,xx4,reduceCtorEq]
    rintro vs17 U17 - vs18 U18 - vs19 U19 -
    refine call_aut (k_toAutomaton n next hb_next hc_next) qCO rfl ?_
    intro v5
    try simp only [yz3,yz1,go_sem,yz0,xx9,xx8,xx6,xx7,xx5,xx0,xx1,xx2,reduceIte,xx3,xx4,reduceCtorEq]
    refine call_rowT KI qCS rfl (fun h=>by cases h) (fun _=>?_)
    simp only [Bz3c,yz3,yz1,go_sem,yz0,xx9,xx8,xx6,xx7,xx5,xx0,xx1,xx2,reduceIte,xx3,xx4,reduceCtorEq]
    rintro vs20 U20 -
    refine yz6 (k_eqInt64S [] []) (by simp only [List.map_nil,rowIs,boxIs,coe_argN,coe_argNs,coe_ro_o,coeL_nil,coeL_cons,coe_any,coe_val,coe_ro,coe_ro_nil,coe_ro_own,coe_st,coe_st_agg,coe_rp,coe_rp_ptr,coe_clo,coe_own0,coe_ptr0,coeL_intsK,coeL_rws,coeL_rwn,L_hit,L_miss,L_nil,xx3,ne_eq,reduceCtorEq,not_false_eq_true,true_and,and_true,and_self,exists_eq_left,exists_eq_right,List.mem_cons,List.not_mem_nil,or_false,AObj.row.injEq,AObj.box.injEq,exists_eq_left',exists_and_left,exists_eq,Nat.zero_lt_one,Nat.lt_add_one,List.map_cons,List.map_nil,AObj.ver,xx5,not_true_eq_false]) trivial ?_
    simp only [Bz34,Bz3b,Bz3a,decide_true,Bool.and_self,bne_self_eq_false,yz3,yz1,go_sem,yz0,xx9,xx8,xx6,xx7,xx5,xx0,xx1,xx2,reduceIte,xx3,xx4,reduceCtorEq]
    rintro vs21 U21 - vs22 U22 -
    refine yz6 k_heldNil qCS trivial ?_
    simp only [Bz39,Bz35,Bz38,Bz36,Bz37,bne_self_eq_false,dec10,yz3,yz1,go_sem,yz0,xx9,xx8,xx6,xx7,xx5,xx0,xx1,xx2,reduceIte,xx3,xx4,reduceCtorEq]
    try simp
theorem k_FnExactWeightsOf (n:Int) (next:List (List Int)):Fun Try.prog nz1s [.st [iv n,.ro (some (some 0)) 1 (rwo next)]] (bv true):=by
  refine law_WeightsOf n next _ _ _ _ (k_specWeightsOf n next) (k_WeightsOf n next) (fun h=>by rw [if_pos h]) (fun h=>by rw [h];rfl) fun h=>?_
  simp only [Bool.and_eq_true] at h
  have n2:=(autB_iff.1 h.1).n2
  simp only [wghL,List.length_map,List.length_range]
  omega
end Go.Ab
namespace Go.Ab
open Go
variable {P:Program}
theorem arg_mach {t:TypeId} {A:AVal} {fs:Array Field} {f1 f2 f3 f4:Field} (h:P.underlying t=some (.struct fs)) (hfs:fs.toList=[f1,f2,f3,f4]) (ht1:P.underlying f1.type=some (.int .i64)) (ht2:P.underlying f2.type=some (.int .i64))
    {e f:TypeId} (h2:P.underlying f3.type=some (.slice e)) (h3:P.underlying f4.type=some (.slice e)) (h1:P.cellsOf e=1) (he:P.underlying e=some (.slice f)) (hf1:P.cellsOf f=1) (hf:P.underlying f=some (.int .i64))
    (hA:ArgShp P t A):∃ n o x y,A=.st [iv n,iv o,.ro (some (some 0)) 1 (rwo x),.ro (some (some 0)) 1 (rwo y)]:=by
  obtain ⟨As,rfl,hF⟩:=arg_struct h hA
  rw [hfs] at hF
  cases hF with
  | cons hA1 hF =>
    cases hF with
    | cons hA2 hF =>
      cases hF with
      | cons hA3 hF =>
        cases hF with
        | cons hA4 hF =>
          cases hF
          obtain ⟨n,rfl⟩:=shp_int ht1 hA1
          obtain ⟨o,rfl⟩:=shp_int ht2 hA2
          obtain ⟨x,rfl⟩:=shp_rows h2 h1 he hf1 hf hA3
          obtain ⟨y,rfl⟩:=shp_rows h3 h1 he hf1 hf hA4
          exact ⟨n,o,x,y,rfl⟩
end Go.Ab
