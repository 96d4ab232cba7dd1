/- Contracts and what they lean on, part 9. Conditions: none. -/
import Derived.Test.YtooaiipmcegplaaZ8
set_option maxRecDepth 100000
set_option maxHeartbeats 4000000
set_option linter.all false
open Nat renaming reduceLeDiff → xx0, reduceMul → xx1, reduceSub → xx2, reduceEqDiff → xx3, reduceAdd → xx4, reduceLT → xx5
open Int renaming reduceToNat → xx6, reduceNeg → xx7, reduceLE → xx8, reduceLT → xx9
namespace Go.Ab
open Go Go.Proofs
def lapQ (e:Nat→Nat→Nat) (L x s t:Nat):Int:=(if t=s then (L:Int) else 0) - sumN x (fun y=>if t=e y s then (1:Int) else 0)
theorem lapQ_succ {e:Nat→Nat→Nat} {L x s t:Nat}:lapQ e L (x+1) s t=lapQ e L x s t - if t=e x s then 1 else 0:=by
  unfold lapQ;show _ - (sumN x _+(if t=e x s then (1:Int) else 0))=_ - _ - _;omega
theorem lapQ_all {e:Nat→Nat→Nat} {s t:Nat}:∀ {L:Nat},lapQ e L L s t=lapE e L s t
  | 0=>by
    show (if t=s then ((0:Nat):Int) else 0) - 0=0
    split <;> rfl
  | L+1=>by
    have:=lapQ_all (e:=e) (s:=s) (t:=t) (L:=L)
    show (if t=s then ((L+1:Nat):Int) else 0) - (sumN L _+if t=e L s then 1 else 0)=lapE e L s t+((if t=s then 1 else 0) - (if t=e L s then 1 else 0))
    rw [← this]
    unfold lapQ
    by_cases h:t=s
    · rw [if_pos h,if_pos h,if_pos h];omega
    · rw [if_neg h,if_neg h,if_neg h];omega
theorem lapQ_rg {e:Nat→Nat→Nat} {L s t:Nat}:∀ {x:Nat},-(x:Int)≤lapQ e L x s t∧lapQ e L x s t≤L
  | 0=>by
    show -((0:Nat):Int)≤(if t=s then (L:Int) else 0) - 0∧(if t=s then (L:Int) else 0) - 0≤_
    split <;> omega
  | x+1=>by
    rw [lapQ_succ]
    have:=lapQ_rg (e:=e) (L:=L) (s:=s) (t:=t) (x:=x)
    split <;> omega
theorem skp_at {w i:Nat} (h:i≠w):skp w (if i≤w then i else i - 1)=i:=by
  unfold skp
  by_cases h1:i≤w
  · rw [if_pos h1,if_pos (by omega)]
  · rw [if_neg h1,if_neg (by omega)];omega
theorem k_l03Trees (n:Int) (next:List (List Int)) (A:Aut n next) (hc:conB n next=true) (w:Nat) (hw:w<n.toNat):Fun Try.prog nz28 [autP n next,iv (w:Int)] (iv (minW n next w)):=by
  refine fun_of mixed czfa rfl ⟨rfl,trivial⟩ ?_
  have n1:=A.n1
  have n2:=A.n2
  have l2:=A.l2
  have hM:=maxLen_le
  obtain ⟨N,hN⟩:∃ N:Nat,n.toNat=N+1:=⟨n.toNat - 1,by omega⟩
  have hnN:n=((N+1:Nat):Int):=by omega
  have hZ:=minW_zm A hc hw
  have hNe:n.toNat - 1=N:=by omega
  have hmw:lead (minM (lapA next) w) N=minW n next w:=by unfold minW;rw [hNe]
  rw [hNe] at hZ
  generalize hQ:finQ _=Q
  simp only [Az4m,Bzao,yz6,yz1,go_sem,yz0,xx9,xx8,xx6,xx7,xx5,xx0,xx1,xx2,reduceIte,xx3,xx4,reduceCtorEq]
  intro vs0 U0 hN0 vs1 U1 hN1
  simp only [Bzan,yz6,yz1,go_sem,yz0,xx9,xx8,xx6,xx7,xx5,xx0,xx1,xx2,reduceIte,xx3,xx4,reduceCtorEq]
  intro vs2 U2 hN2
  simp only [Bzal,yz6,yz1,go_sem,yz0,xx9,xx8,xx6,xx7,xx5,xx0,xx1,xx2,reduceIte,xx3,xx4,reduceCtorEq]
  refine wpD_lp (fun (x:Nat×Nat×List (Nat×List Int))=>N+1 - x.2.1) (fun x=>x.2.1≤N+1∧DJ x.2.2∧x.2.2.map (·.2)=tabC (minM (lapA next) w) (if x.2.1≤w then x.2.1 else x.2.1 - 1) N)
    (fun (x:Nat×Nat×List (Nat×List Int))=>⟨L .any [(0,autP n next),(1,iv w),(5,.own 11 x.1),(6,iv x.2.1)],
      L .gone [(11,.row x.1 1 true (rwp x.2.2)),(73,.gone),(5000,.gone),(5001,.gone)]⟩)
    (_,0,[]) ⟨Nat.zero_le _,by simp [DJ],by simp [tabC]⟩ (by simp only [Bz15,rwp_nil,go_sem,yz0,xx9,xx8,xx6,xx7,xx5,xx0,xx1,xx2,reduceIte,xx3,xx4,reduceCtorEq];try rfl) ?_
  rintro ⟨v5,s,ps⟩ ⟨hs,hdj,hps⟩
  have hs:s≤N+1:=hs
  have hdj:DJ ps:=hdj
  have hps:ps.map (·.2)=tabC (minM (lapA next) w) (if s≤w then s else s - 1) N:=hps
  have hpl:ps.length=if s≤w then s else s - 1:=by
    have:=congrArg List.length hps
    simpa [tabC] using this
  by_cases hlt:(s:Int)<n
  · have hs1:s<N+1:=by omega
    have ws:IntKind.i64.wrap ((s:Int)+1)=((s+1:Nat):Int):=by rw [w64 (by omega)];simp
    simp only [Bz15,Bz4c,Bzak,decide_eq_true hlt,yz6,yz1,go_sem,yz0,xx9,xx8,xx6,xx7,xx5,xx0,xx1,xx2,reduceIte,xx3,xx4,reduceCtorEq]
    intro vs3 U3 hN3 vs4 U4 hN4
    simp only [Bzaj,Bzah,yz6,yz1,go_sem,yz0,xx9,xx8,xx6,xx7,xx5,xx0,xx1,xx2,reduceIte,xx3,xx4,reduceCtorEq]
    intro vs5 U5 hN5
    refine wpD_lp (fun (x:Nat×Nat)=>N+1 - x.2) (fun x=>x.2≤N+1)
      (fun (x:Nat×Nat)=>⟨L .any [(0,autP n next),(1,iv w),(5,.own 11 v5),(6,iv s),(7,.own 20 x.1),(8,iv x.2)],
        L .gone [(11,.row v5 1 true (rwp ps)),(20,.row x.1 1 true (ints (tabR (fun b=>lapA next s (skp w b)) (if x.2≤w then x.2 else x.2 - 1)))),(66,.gone),(73,.gone),(5000,.gone),(5001,.gone)]⟩)
      (_,0) (Nat.zero_le _) (by simp only [Bz14,Nat.zero_le,if_true,tabR,List.range_zero,List.map_nil,go_sem,yz0,xx9,xx8,xx6,xx7,xx5,xx0,xx1,xx2,reduceIte,xx3,xx4,reduceCtorEq];try rfl) ?_
    rintro ⟨v7,t⟩ ht
    have ht:t≤N+1:=ht
    by_cases htl:(t:Int)<n
    · have ht1:t<N+1:=by omega
      have wt:IntKind.i64.wrap ((t:Int)+1)=((t+1:Nat):Int):=by rw [w64 (by omega)];simp
      simp only [Bz14,Bz4d,Bzag,Bzaf,decide_eq_true htl,yz6,yz1,go_sem,yz0,xx9,xx8,xx6,xx7,xx5,xx0,xx1,xx2,reduceIte,xx3,xx4,reduceCtorEq]
      intro vs6 U6 hN6 vs7 U7 hN7 vs8 U8 hN8
      generalize hK:blockQ 3 _=K
      have key:wpD Try.prog Bz7 K ⟨L .any [(0,autP n next),(1,iv w),(5,.own 11 v5),(6,iv s),(7,.own 20 v7),(8,iv t),(9,iv (if t=s then (next.length:Int) else 0))],
        L .gone [(11,.row v5 1 true (rwp ps)),(20,.row v7 1 true (ints (tabR (fun b=>lapA next s (skp w b)) (if t≤w then t else t - 1)))),(66,.gone),(73,.gone),(5000,.gone),(5001,.gone)]⟩:=by
        rw [← hK]
        clear hK
        simp only [Bz7,yz6,yz1,go_sem,yz0,xx9,xx8,xx6,xx7,xx5,xx0,xx1,xx2,reduceIte,xx3,xx4,reduceCtorEq]
        intro vs9 U9 hN9
        simp only [Bzad,yz6,yz1,go_sem,yz0,xx9,xx8,xx6,xx7,xx5,xx0,xx1,xx2,reduceIte,xx3,xx4,reduceCtorEq]
        have hsn:s<n.toNat:=by omega
        refine wpD_lp (fun (x:Nat)=>next.length - x) (fun x=>x≤next.length)
          (fun (x:Nat)=>⟨L .any [(0,autP n next),(1,iv w),(5,.own 11 v5),(6,iv s),(7,.own 20 v7),(8,iv t),(9,iv (lapQ (eN next) next.length x s t)),(10,iv x)],
            L .gone [(11,.row v5 1 true (rwp ps)),(20,.row v7 1 true (ints (tabR (fun b=>lapA next s (skp w b)) (if t≤w then t else t - 1)))),(66,.gone),(73,.gone),(5000,.gone),(5001,.gone)]⟩)
          0 (Nat.zero_le _) (by
            have:lapQ (eN next) next.length 0 s t=if t=s then (next.length:Int) else 0:=by unfold lapQ;show _ - 0=_;omega
            rw [this]
            simp only [Bz13,go_sem,yz0,xx9,xx8,xx6,xx7,xx5,xx0,xx1,xx2,reduceIte,xx3,xx4,reduceCtorEq];try rfl) ?_
        intro x hx
        have hx:x≤next.length:=hx
        by_cases hxl:(x:Int)<next.length
        · have hx1:x<next.length:=by omega
          have wx:IntKind.i64.wrap ((x:Int)+1)=((x+1:Nat):Int):=by rw [w64 (by omega)];simp
          have hrow:=A.row _ (yz3 hx1 [])
          have he:=eN_lt A hx1 hsn
          have hsl:s<(next.getD x []).length:=by have:=hrow.1;omega
          have hev:(next.getD x []).getD s 0=((eN next x s:Nat):Int):=by
            have:=hrow.2 _ (yz3 hsl 0)
            unfold eN;omega
          have hrg:=lapQ_rg (e:=eN next) (L:=next.length) (s:=s) (t:=t) (x:=x)
          simp only [Bz13,Bz4f,Bzac,decide_eq_true hxl,yz6,yz1,go_sem,yz0,xx9,xx8,xx6,xx7,xx5,xx0,xx1,xx2,reduceIte,xx3,xx4,reduceCtorEq]
          intro vs10 U10 hN10 hM10 vs11 U11 hN11
          simp only [rwn_getD hx1,yz2 hsl,hev,yz6,yz1,go_sem,yz0,xx9,xx8,xx6,xx7,xx5,xx0,xx1,xx2,reduceIte,xx3,xx4,reduceCtorEq]
          refine ⟨⟨by omega,hx1⟩,hx1,⟨by omega,hsl⟩,hsl,?_⟩
          by_cases het:eN next x s=t
          · have heq:(((eN next x s:Nat):Int) == (t:Int))=true:=by rw [beq_iff_eq];omega
            have w1:IntKind.i64.wrap (lapQ (eN next) next.length x s t - 1)=lapQ (eN next) next.length (x+1) s t:=by rw [lapQ_succ,if_pos het.symm];exact w64 (by omega)
            simp only [Bz4g,heq,yz6,yz1,go_sem,yz0,xx9,xx8,xx6,xx7,xx5,xx0,xx1,xx2,reduceIte,xx3,xx4,reduceCtorEq]
            intro vs12 U12 hN12
            simp only [Bz4h,w1,wx,yz6,yz1,go_sem,yz0,xx9,xx8,xx6,xx7,xx5,xx0,xx1,xx2,reduceIte,xx3,xx4,reduceCtorEq]
            intro vs13 U13 hN13
            exact ⟨x+1,by omega,by omega,rfl⟩
          · have heq:(((eN next x s:Nat):Int) == (t:Int))=false:=by rw [beq_eq_false_iff_ne];omega
            have w1:lapQ (eN next) next.length x s t=lapQ (eN next) next.length (x+1) s t:=by rw [lapQ_succ,if_neg (fun e=>het e.symm)];omega
            simp only [Bz4g,heq,yz6,yz1,go_sem,yz0,xx9,xx8,xx6,xx7,xx5,xx0,xx1,xx2,reduceIte,xx3,xx4,reduceCtorEq]
            simp only [Bz4h,w1,wx,yz6,yz1,go_sem,yz0,xx9,xx8,xx6,xx7,xx5,xx0,xx1,xx2,reduceIte,xx3,xx4,reduceCtorEq]
            intro vs13 U13 hN13
            exact ⟨x+1,by omega,by omega,rfl⟩
        · obtain rfl:x=next.length:=by omega
          simp only [Bz13,Bz4f,Bzae,lapQ_all,decide_eq_false hxl,yz6,yz1,go_sem,yz0,xx9,xx8,xx6,xx7,xx5,xx0,xx1,xx2,reduceIte,xx3,xx4,reduceCtorEq]
          intro vs10 U10 hN10 hM10 vs11 U11 hN11
          have hlr:(tabR (fun b=>lapA next s (skp w b)) (if t≤w then t else t - 1)).length≤10:=by rw [tabR_len];split <;> omega
          by_cases htw:t=w
          · subst htw
            simp only [Bz4i,bne_self_eq_false,yz6,yz1,go_sem,yz0,xx9,xx8,xx6,xx7,xx5,xx0,xx1,xx2,reduceIte,xx3,xx4,reduceCtorEq]
            simp only [Bz4j,wt,yz6,yz1,go_sem,yz0,xx9,xx8,xx6,xx7,xx5,xx0,xx1,xx2,reduceIte,xx3,xx4,reduceCtorEq]
            intro vs12 U12 hN12
            exact ⟨(v7,t+1),by dsimp only;omega,by dsimp only;omega,by dsimp only;rw [if_pos (Nat.le_refl _),if_neg (by omega)];rfl⟩
          · have hne:(((t:Nat):Int) != (w:Int))=true:=by rw [bne_iff_ne];omega
            simp only [Bz4i,hne,yz6,yz1,go_sem,yz0,xx9,xx8,xx6,xx7,xx5,xx0,xx1,xx2,reduceIte,xx3,xx4,reduceCtorEq]
            intro vs12 U12 hN12
            refine ⟨⟨_,rfl,rfl⟩,by omega,?_⟩
            have hk:tabR (fun b=>lapA next s (skp w b)) (if t≤w then t else t - 1) ++ [lapE (eN next) next.length s t]=tabR (fun b=>lapA next s (skp w b)) (if t+1≤w then t+1 else t+1 - 1):=by
              rw [show (if t+1≤w then t+1 else t+1 - 1)=(if t≤w then t else t - 1)+1 by split <;> split <;> omega,tabR_snoc]
              rw [skp_at htw]
            simp only [Bz4j,wt,hk,yz6,yz1,go_sem,yz0,xx9,xx8,xx6,xx7,xx5,xx0,xx1,xx2,reduceIte,xx3,xx4,reduceCtorEq]
            intro vs13 U13 hN13
            exact ⟨(vs12 3 0,t+1),by dsimp only;omega,by dsimp only;omega,rfl⟩
      by_cases hst:s=t
      · subst hst
        rw [if_pos rfl] at key
        simp only [Bz4e,beq_self_eq_true,yz6,yz1,go_sem,yz0,xx9,xx8,xx6,xx7,xx5,xx0,xx1,xx2,reduceIte,xx3,xx4,reduceCtorEq]
        intro vs9 U9 hN9 hM9
        simp only [Bz7,yz6,yz1,go_sem,yz0,xx9,xx8,xx6,xx7,xx5,xx0,xx1,xx2,reduceIte,xx3,xx4,reduceCtorEq] at key ⊢
        exact key
      · have hne:(((s:Nat):Int) == (t:Int))=false:=by rw [beq_eq_false_iff_ne];omega
        rw [if_neg (fun e=>hst e.symm)] at key
        simp only [Bz4e,hne,yz6,yz1,go_sem,yz0,xx9,xx8,xx6,xx7,xx5,xx0,xx1,xx2,reduceIte,xx3,xx4,reduceCtorEq]
        simp only [Bz7,yz6,yz1,go_sem,yz0,xx9,xx8,xx6,xx7,xx5,xx0,xx1,xx2,reduceIte,xx3,xx4,reduceCtorEq] at key ⊢
        exact key
    · obtain rfl:t=N+1:=by omega
      have hk:(if N+1≤w then N+1 else N+1 - 1)=N:=by rw [if_neg (by omega)];rfl
      rw [hk]
      simp only [Bz14,Bz4d,Bzai,decide_eq_false htl,yz6,yz1,go_sem,yz0,xx9,xx8,xx6,xx7,xx5,xx0,xx1,xx2,reduceIte,xx3,xx4,reduceCtorEq]
      intro vs6 U6 hN6 vs7 U7 hN7
      by_cases hsw:s=w
      · subst hsw
        simp only [Bz4k,bne_self_eq_false,yz6,yz1,wpD_gh,go_sem,yz0,xx9,xx8,xx6,xx7,xx5,xx0,xx1,xx2,reduceIte,xx3,xx4,reduceCtorEq]
        intro _
        refine ⟨[],?_⟩
        simp only [Bz4l,ws,gwp_nil,yz6,yz1,go_sem,yz0,xx9,xx8,xx6,xx7,xx5,xx0,xx1,xx2,reduceIte,xx3,xx4,reduceCtorEq]
        intro vs8 U8 hN8
        refine ⟨(v5,s+1,ps),by dsimp only;omega,⟨by dsimp only;omega,hdj,?_⟩,rfl⟩
        rw [hps,if_pos (Nat.le_refl _)]
        dsimp only
        rw [if_neg (by omega)];rfl
      · have hne:(((s:Nat):Int) != (w:Int))=true:=by rw [bne_iff_ne];omega
        simp only [Bz4k,hne,yz6,yz1,wpD_gh,go_sem,yz0,xx9,xx8,xx6,xx7,xx5,xx0,xx1,xx2,reduceIte,xx3,xx4,reduceCtorEq]
        intro hD
        refine ⟨[],?_⟩
        simp only [gwp_nil,yz6,yz1,go_sem,yz0,xx9,xx8,xx6,xx7,xx5,xx0,xx1,xx2,reduceIte,xx3,xx4,reduceCtorEq]
        have hf:∀ p∈ps,p.2=[]∨p.1≠v7:=fun p hp=>by
          by_cases e:p.2=[]
          · exact .inl e
          · exact .inr (hD 11 v5 1 true (rwp ps) 20 v7 rfl rfl p.1 1 (ints p.2) (List.mem_map.2 ⟨p,hp,rfl⟩) (by simpa using e))
        have hp10:ps.length≤10:=by rw [hpl];split <;> omega
        intro vs8 U8 hN8
        refine ⟨by rw [rwp_len];omega,?_⟩
        simp only [Bz4l,ws,rwp_snoc,yz6,yz1,go_sem,yz0,xx9,xx8,xx6,xx7,xx5,xx0,xx1,xx2,reduceIte,xx3,xx4,reduceCtorEq]
        intro vs9 U9 hN9
        refine ⟨(vs8 3 0,s+1,ps ++ [(v7,tabR (fun b=>lapA next s (skp w b)) N)]),by dsimp only;omega,⟨by dsimp only;omega,hdj.snoc hf,?_⟩,rfl⟩
        have hrow:tabR (fun b=>lapA next s (skp w b)) N=tabR (minM (lapA next) w (if s≤w then s else s - 1)) N:=by
          unfold minM;rw [skp_at hsw]
        dsimp only
        rw [List.map_append,hps,show (if s+1≤w then s+1 else s+1 - 1)=(if s≤w then s else s - 1)+1 by split <;> split <;> omega,tabC_snoc,hrow];rfl
  · obtain rfl:s=N+1:=by omega
    rw [if_neg (show ¬ N+1≤w by omega),Nat.add_sub_cancel] at hps hpl
    have hps:ps.map (·.2)=tabM (minM (lapA next) w) N:=hps
    simp only [Bz15,Bz4c,Bzam,decide_eq_false hlt,yz6,yz1,go_sem,yz0,xx9,xx8,xx6,xx7,xx5,xx0,xx1,xx2,reduceIte,xx3,xx4,reduceCtorEq]
    intro vs6 U6 hN6 vs7 U7 hN7
    refine call_hav (k_l03Minor (minM (lapA next) w) N (by omega) hZ ps hdj hps) ?_ ?_
    · rw [coeHL_cons,coeHL_nil];exact ⟨coeH_own rfl,trivial⟩
    rintro _ rfl
    rw [cl_L,hmw]
    simp only [clT,clO,clV_own,← hQ,Az4m,go_sem,yz0,xx9,xx8,xx6,xx7,xx5,xx0,xx1,xx2,reduceIte,xx3,xx4,reduceCtorEq]
end Go.Ab
namespace Go.Ab
open Go Go.Proofs
theorem k_l01Gcd (a b:Int) (ha:0≤a∧a≤4611686018427387904) (hb:0≤b∧b≤4611686018427387904):Fun Try.prog nz29 [iv a,iv b] (iv (Int.gcd a b)):=by
  refine fun_of mixed czfb rfl ⟨rfl,trivial⟩ ?_
  simp only [Azau,Bzat,go_sem,yz0,xx9,xx8,xx6,xx7,xx5,xx0,xx1,xx2,reduceIte,xx3,xx4,reduceCtorEq]
  refine wpD_lo (fun (_,y)=>y.natAbs) (fun (x,y)=>(0≤x∧x≤4611686018427387904)∧(0≤y∧y≤4611686018427387904)∧Int.gcd x y=Int.gcd a b)
    (fun ((x,y):Int×Int)=>⟨L .any [(0,iv x),(1,iv y)],L .gone []⟩) (a,b) ⟨ha,hb,rfl⟩ (by simp only [Bz16,go_sem,yz0,xx9,xx8,xx6,xx7,xx5,xx0,xx1,xx2,reduceIte,xx3,xx4,reduceCtorEq];try rfl) ?_
  rintro ⟨x,y⟩ ⟨hx,hy,hg⟩
  have hx:0≤x∧x≤4611686018427387904:=hx
  have hy:0≤y∧y≤4611686018427387904:=hy
  have hg:Int.gcd x y=Int.gcd a b:=hg
  by_cases h0:y=0
  · subst h0
    have e0:((0:Int) != 0)=false:=rfl
    simp only [e0,Bz16,Bz4n,Bzas,go_sem,yz0,xx9,xx8,xx6,xx7,xx5,xx0,xx1,xx2,reduceIte,xx3,xx4,reduceCtorEq]
    rw [Int.gcd_zero_right] at hg
    rw [← hg]
    refine congrArg (fun z=>AVal.val (Value.int IntKind.i64 z)) ?_
    omega
  · have e0:(y != 0)=true:=by simpa using h0
    simp only [e0,Bz16,Bz4n,Bzar,Bzaq,Bzap,go_sem,yz0,xx9,xx8,xx6,xx7,xx5,xx0,xx1,xx2,reduceIte,xx3,xx4,reduceCtorEq]
    rw [if_neg h0]
    have h1:=Int.natAbs_tmod x y
    have h2:x.natAbs % y.natAbs<y.natAbs:=Nat.mod_lt _ (by omega)
    have h3:=Int.tmod_nonneg y hx.1
    exact ⟨rfl,(y,x.tmod y),by dsimp only;omega,⟨hy,⟨h3,by dsimp only;omega⟩,by dsimp only;rw [gcd_tmod];exact hg⟩,rfl⟩
theorem k_l03Weights (n:Int) (next:List (List Int)) (A:Aut n next) (hc:conB n next=true):RowI Try.prog nz1w [autP n next] (fun ys=>ys=wghL n next):=by
  refine rowI_of mixed czex rfl ?_
  have n1:=A.n1
  have n2:=A.n2
  have hM:=maxLen_le
  obtain ⟨N,hN⟩:∃ N:Nat,n.toNat=N+1:=⟨n.toNat - 1,by omega⟩
  have hnN:n=((N+1:Nat):Int):=by omega
  generalize hQ:finQ _=Q
  simp only [Az3r,Bz7z,go_sem,yz0,xx9,xx8,xx6,xx7,xx5,xx0,xx1,xx2,reduceIte,xx3,xx4,reduceCtorEq]
  intro vs
  simp only [Bz7y,Bz7x,Bz7r,go_sem,yz0,xx9,xx8,xx6,xx7,xx5,xx0,xx1,xx2,reduceIte,xx3,xx4,reduceCtorEq]
  refine wpD_lo (fun (_,k)=>N+1 - k) (fun (_,k)=>k≤N+1)
    (fun ((v3,k):Nat×Nat)=>⟨L .any [(0,autP n next),(3,.own 7 v3),(4,iv (gcdW n next k)),(5,iv k)],
      L .gone [(7,.row v3 1 true (ints (tabR (minW n next) k)))]⟩)
    (_,0) (Nat.zero_le _) (by simp only [Bzq,gcdW,tabR,List.range_zero,List.map_nil,go_sem,yz0,xx9,xx8,xx6,xx7,xx5,xx0,xx1,xx2,reduceIte,xx3,xx4,reduceCtorEq];try rfl) ?_
  rintro ⟨v3,k⟩ hk
  have hk:k≤N+1:=hk
  by_cases hkl:(k:Int)<n
  · have hk1:k<N+1:=by omega
    have wk:IntKind.i64.wrap ((k:Int)+1)=((k+1:Nat):Int):=by rw [w64 (by omega)];simp
    have hmr:=minW_rg A hc (s:=k) (by omega)
    have hgr:=gcdW_rg A hc k (by omega)
    have hbl:k<(tabR (minW n next) (k+1)).length:=by rw [tabR_len];omega
    have hgd:(tabR (minW n next) (k+1)).getD k 0=minW n next k:=tabR_getD (by omega)
    simp only [Bzq,Bz3p,Bz7q,decide_eq_true hkl,go_sem,yz0,xx9,xx8,xx6,xx7,xx5,xx0,xx1,xx2,reduceIte,xx3,xx4,reduceCtorEq]
    intro vs2
    refine yz5 (k_l03Trees n next A hc k (by omega)) qCS trivial ?_
    simp only [go_sem,yz0,xx9,xx8,xx6,xx7,xx5,xx0,xx1,xx2,reduceIte,xx3,xx4,reduceCtorEq]
    refine ⟨⟨_,rfl,rfl⟩,by rw [tabR_len];omega,?_⟩
    rw [← tabR_snoc]
    simp only [Bz7o,yz2 hbl,hgd,go_sem,yz0,xx9,xx8,xx6,xx7,xx5,xx0,xx1,xx2,reduceIte,xx3,xx4,reduceCtorEq]
    intro vs3
    refine ⟨⟨by omega,hbl⟩,hbl,?_⟩
    refine yz5 (k_l01Gcd (gcdW n next k) (minW n next k) (by omega) (by omega)) qCS trivial ?_
    simp only [Bz7p,wk,go_sem,yz0,xx9,xx8,xx6,xx7,xx5,xx0,xx1,xx2,reduceIte,xx3,xx4,reduceCtorEq]
    exact ⟨(vs2 5 0,k+1),by dsimp only;omega,by dsimp only;omega,rfl⟩
  · obtain rfl:k=N+1:=by omega
    have hgr:=gcdW_rg A hc (N+1) (by omega)
    have hg0:¬ gcdW n next (N+1)=0:=by have:=hgr.2.2 (by omega);omega
    simp only [Bzq,Bz3p,Bz7w,Bz7u,decide_eq_false hkl,go_sem,yz0,xx9,xx8,xx6,xx7,xx5,xx0,xx1,xx2,reduceIte,xx3,xx4,reduceCtorEq]
    refine wpD_lo (fun (i:Nat)=>N+1 - i) (fun i=>i≤N+1)
      (fun (i:Nat)=>⟨L .any [(3,.own 7 v3),(4,iv (gcdW n next (N+1))),(6,iv i)],
        L .gone [(7,.row v3 1 true (ints (tabR (fun s=>if s<i then (minW n next s).tdiv (gcdW n next (N+1)) else minW n next s) (N+1))))]⟩)
      0 (Nat.zero_le _) (by
        have:tabR (fun s=>if s<0 then (minW n next s).tdiv (gcdW n next (N+1)) else minW n next s) (N+1)=tabR (minW n next) (N+1):=tabR_congr fun b _=>by rw [if_neg (by omega)]
        rw [this]
        simp only [Bzr,go_sem,yz0,xx9,xx8,xx6,xx7,xx5,xx0,xx1,xx2,reduceIte,xx3,xx4,reduceCtorEq];try rfl) ?_
    intro i hi
    have hi:i≤N+1:=hi
    have hRl:(tabR (fun s=>if s<i then (minW n next s).tdiv (gcdW n next (N+1)) else minW n next s) (N+1)).length=N+1:=tabR_len
    by_cases hil:(i:Int)<((N+1:Nat):Int)
    · have hi1:i<N+1:=by omega
      have wi:IntKind.i64.wrap ((i:Int)+1)=((i+1:Nat):Int):=by rw [w64 (by omega)];simp
      have hmr:=minW_rg A hc (s:=i) (by omega)
      have hset:(tabR (fun s=>if s<i then (minW n next s).tdiv (gcdW n next (N+1)) else minW n next s) (N+1)).set i ((minW n next i).tdiv (gcdW n next (N+1)))=tabR (fun s=>if s<i+1 then (minW n next s).tdiv (gcdW n next (N+1)) else minW n next s) (N+1):=tabR_set fun b _=>by
        by_cases e:b=i
        · subst e;rw [if_pos rfl,if_pos (by omega)]
        · rw [if_neg e]
          by_cases e2:b<i
          · rw [if_pos e2,if_pos (by omega)]
          · rw [if_neg e2,if_neg (by omega)]
      have hg:(tabR (fun s=>if s<i then (minW n next s).tdiv (gcdW n next (N+1)) else minW n next s) (N+1)).getD i 0=minW n next i:=by rw [tabR_getD hi1,if_neg (by omega)]
      have hdv:0≤(minW n next i).tdiv (gcdW n next (N+1))∧(minW n next i).tdiv (gcdW n next (N+1))≤minW n next i:=by
        rw [Int.tdiv_eq_ediv_of_nonneg (by omega)]
        exact ⟨Int.ediv_nonneg (by omega) hgr.1,Int.ediv_le_self _ (by omega)⟩
      have w1:IntKind.i64.wrap ((minW n next i).tdiv (gcdW n next (N+1)))=(minW n next i).tdiv (gcdW n next (N+1)):=w64 (by omega)
      generalize tabR (fun s=>if s<i then (minW n next s).tdiv (gcdW n next (N+1)) else minW n next s) (N+1)=R1 at hset hg hRl ⊢
      have i1:i<R1.length:=by omega
      have hlr:(i:Int)<(R1.length:Int):=by omega
      have hp1:=put_ints (v:=(minW n next i).tdiv (gcdW n next (N+1))) i1
      rw [hset] at hp1
      simp only [Bzr,Bz3q,Bz7t,decide_eq_true hlr,yz2 i1,hg,hg0,w1,if_false,go_sem,yz0,xx9,xx8,xx6,xx7,xx5,xx0,xx1,xx2,reduceIte,xx3,xx4,reduceCtorEq]
      intro hM2
      refine ⟨⟨by omega,i1⟩,i1,⟨by omega,i1⟩,i1,?_⟩
      simp only [hp1,Bz7s,wi,go_sem,yz0,xx9,xx8,xx6,xx7,xx5,xx0,xx1,xx2,reduceIte,xx3,xx4,reduceCtorEq]
      exact ⟨i+1,by omega,by omega,rfl⟩
    · obtain rfl:i=N+1:=by omega
      have hend:tabR (fun s=>if s<N+1 then (minW n next s).tdiv (gcdW n next (N+1)) else minW n next s) (N+1)=wghL n next:=by
        unfold wghL
        rw [hN]
        exact tabR_congr fun b hb=>by rw [if_pos hb]
      rw [hend] at hRl ⊢
      simp only [Bzr,Bz3q,Bz7v,Az3r,← hQ,hRl,decide_eq_false hil,go_sem,yz0,xx9,xx8,xx6,xx7,xx5,xx0,xx1,xx2,reduceIte,xx3,xx4,reduceCtorEq]
      intro hM2
      exact ⟨7,v3,wghL n next,by omega,rfl,by simp only [go_sem,yz0,xx9,xx8,xx6,xx7,xx5,xx0,xx1,xx2,reduceIte,xx3,xx4,reduceCtorEq],rfl⟩
end Go.Ab
namespace Go.Ab
open Go Go.Proofs
theorem k_l01Joined (n:Int) (next:List (List Int)) (A:Aut n next):Fun Try.prog nz1v [autP n next] (bv (conB n next)):=by
  refine fun_of mixed czew rfl ⟨rfl,trivial⟩ ?_
  have n1:=A.n1
  have n2:=A.n2
  simp only [Az7n,Bz7m,Bz7k,go_sem,yz0,xx9,xx8,xx6,xx7,xx5,xx0,xx1,xx2,reduceIte,xx3,xx4,reduceCtorEq]
  refine wpD_lo (fun s=>n.toNat - s) (fun s=>s≤n.toNat∧((List.range s).all fun (s:Nat)=>!decide (((nrm (reachL n next s)).length:Int)<n))=true)
    (fun s:Nat=>⟨L .any [(0,autP n next),(3,iv s)],L .gone []⟩) 0 ⟨by omega,rfl⟩ (by simp only [Bzp,go_sem,yz0,xx9,xx8,xx6,xx7,xx5,xx0,xx1,xx2,reduceIte,xx3,xx4,reduceCtorEq];try rfl) ?_
  rintro s ⟨hs,ha⟩
  by_cases hlt:(s:Int)<n
  · have ho:=reach_once A (s:=(s:Int)) ⟨by omega,hlt⟩
    have hle:=ho.len n1
    have hnl:=nrm_len_nd ho.nd
    have ws:IntKind.i64.wrap ((s:Int)+1)=((s+1:Nat):Int):=by rw [w64 (by omega)];simp
    simp only [Bzp,Bz3n,Bz7j,decide_eq_true hlt,go_sem,yz0,xx9,xx8,xx6,xx7,xx5,xx0,xx1,xx2,reduceIte,xx3,xx4,reduceCtorEq]
    intro vs2
    refine call_rowI (k_l01Reached n next s A (by omega)) qCS qGN ⟨_,rfl⟩ ?_
    rintro ys v rfl
    simp only [go_sem,yz0,xx9,xx8,xx6,xx7,xx5,xx0,xx1,xx2,reduceIte,xx3,xx4,reduceCtorEq]
    by_cases hd:((nrm (reachL n next s)).length:Int)<n
    · have hne:(((nrm (reachL n next s)).length:Int) != n)=true:=by rw [bne_iff_ne];omega
      simp only [Bz3o,hne,go_sem,yz0,xx9,xx8,xx6,xx7,xx5,xx0,xx1,xx2,reduceIte,xx3,xx4,reduceCtorEq]
      have:conB n next=false:=by
        rw [Bool.eq_false_iff]
        intro h
        have:=List.all_eq_true.1 h s (List.mem_range.2 (by omega))
        rw [decide_eq_true hd] at this;cases this
      rw [this]
    · have hne:(((nrm (reachL n next s)).length:Int) != n)=false:=by
        have:((nrm (reachL n next s)).length:Int)=n:=by omega
        rw [this,bne_self_eq_false]
      simp only [Bz3o,Bz7i,hne,ws,go_sem,yz0,xx9,xx8,xx6,xx7,xx5,xx0,xx1,xx2,reduceIte,xx3,xx4,reduceCtorEq]
      exact ⟨s+1,by omega,⟨by omega,by rw [List.range_succ,List.all_append,ha];simp [decide_eq_false hd]⟩,rfl⟩
  · obtain rfl:s=n.toNat:=by omega
    simp only [Bzp,Bz3n,Bz7l,decide_eq_false hlt,go_sem,yz0,xx9,xx8,xx6,xx7,xx5,xx0,xx1,xx2,reduceIte,xx3,xx4,reduceCtorEq]
    unfold conB
    rw [ha]
def codeW (n:Int) (next:List (List Int)) (set:List Int):Int :=
  if autB n next then (if setB n set then (if conB n next then 0 else 4) else 2) else 1
theorem k_weightCode_1 (n:Int) (next:List (List Int)) (set:List Int) (hn:1≤n∧n≤10) :
    Fun Try.prog nzf [.rp [.ro none 1 (ints set)] 0,autP n next] (bv (setB n set)):=by
  refine fun_of mixed czfd rfl ⟨rfl,trivial⟩ ?_
  simp only [Bzb0,Azb1,go_sem,yz0,xx9,xx8,xx6,xx7,xx5,xx0,xx1,xx2,reduceIte,xx3,xx4,reduceCtorEq]
  intro vs
  refine yz5 (k_isSet set n hn) qCS trivial ?_
  simp only [go_sem,yz0,xx9,xx8,xx6,xx7,xx5,xx0,xx1,xx2,reduceIte,xx3,xx4,reduceCtorEq]
theorem k_weightCode (n:Int) (next:List (List Int)) (set:List Int):Fun Try.prog nz1y [autA n next,.ro none 1 (ints set)] (iv (codeW n next set)):=by
  refine fun_of mixed czez rfl ⟨rfl,trivial⟩ ?_
  simp only [Az88,Bz87,go_sem,yz0,xx9,xx8,xx6,xx7,xx5,xx0,xx1,xx2,reduceIte,xx3,xx4,reduceCtorEq]
  intro vs vs2
  refine yz5 (k_code n next nzf [.rp [.ro none 1 (ints set)] 0,autP n next] _ ⟨by simp only [go_sem,yz0,xx9,xx8,xx6,xx7,xx5,xx0,xx1,xx2,reduceIte,xx3,xx4,reduceCtorEq],by intros;simp only [rowIs,boxIs,coe_argN,coe_argNs,coe_ro_o,coeL_nil,coeL_cons,coe_any,coe_val,coe_ro,coe_ro_nil,coe_ro_own,coe_st,coe_st_agg,coe_rp,coe_rp_ptr,coe_clo,coe_own0,coe_ptr0,coeL_intsK,coeL_rws,coeL_rwn,L_hit,L_miss,L_nil,xx3,ne_eq,reduceCtorEq,not_false_eq_true,true_and,and_true,and_self,exists_eq_left,exists_eq_right,List.mem_cons,List.not_mem_nil,or_false,AObj.row.injEq,AObj.box.injEq,exists_eq_left',exists_and_left,exists_eq,Nat.zero_lt_one,Nat.lt_add_one,List.map_cons,List.map_nil,AObj.ver,xx5,not_true_eq_false]⟩
    (fun hv=>k_weightCode_1 n next set ⟨(autB_iff.1 hv).n1,(autB_iff.1 hv).n2⟩)) qCS trivial ?_
  cases hv:autB n next with
  | false =>
    have h3:codeI false (setB n set)=1:=by simp [codeI]
    have h4:codeW n next set=1:=by simp [codeW,hv]
    have e0:((1:Int) == 0)=false:=rfl
    simp only [h3,h4,e0,Bzs,Bz5,Bz6,go_sem,yz0,xx9,xx8,xx6,xx7,xx5,xx0,xx1,xx2,reduceIte,xx3,xx4,reduceCtorEq]
  | true =>
    have A:=autB_iff.1 hv
    cases hw:setB n set with
    | false =>
      have h3:codeI true false=2:=by simp [codeI]
      have h4:codeW n next set=2:=by simp [codeW,hv,hw]
      have e0:((2:Int) == 0)=false:=rfl
      simp only [h3,h4,e0,Bzs,Bz5,Bz6,go_sem,yz0,xx9,xx8,xx6,xx7,xx5,xx0,xx1,xx2,reduceIte,xx3,xx4,reduceCtorEq]
    | true =>
      have h3:codeI true true=0:=by simp [codeI]
      have e0:((0:Int) == 0)=true:=rfl
      simp only [h3,e0,Bzs,go_sem,yz0,xx9,xx8,xx6,xx7,xx5,xx0,xx1,xx2,reduceIte,xx3,xx4,reduceCtorEq]
      intro vs3
      refine yz5 (k_isConnected n next A) qCS trivial ?_
      cases hb:conB n next with
      | false =>
        have h4:codeW n next set=4:=by simp [codeW,hv,hw,hb]
        simp only [h4,Bz5,Bz6,go_sem,yz0,xx9,xx8,xx6,xx7,xx5,xx0,xx1,xx2,reduceIte,xx3,xx4,reduceCtorEq]
      | true =>
        have h4:codeW n next set=0:=by simp [codeW,hv,hw,hb]
        simp only [h4,Bz5,Bz6,go_sem,yz0,xx9,xx8,xx6,xx7,xx5,xx0,xx1,xx2,reduceIte,xx3,xx4,reduceCtorEq]
theorem codeW_ok {n:Int} {next:List (List Int)} {set:List Int}:codeW n next set=0↔autB n next=true∧setB n set=true∧conB n next=true:=by
  unfold codeW
  cases autB n next <;> cases setB n set <;> cases conB n next <;> simp
end Go.Ab
namespace Go.Ab
open Go Go.Proofs
def hvy (ws set:List Int):Int:=(set.map fun s=>ws.getD s.toNat 0).sum
theorem hvy_nil {ws:List Int}:hvy ws []=0:=rfl
theorem hvy_take {ws set:List Int} {i:Nat} (h:i<set.length):hvy ws (set.take (i+1))=hvy ws (set.take i)+ws.getD (set.getD i 0).toNat 0:=by
  have e:set.getD i 0=set[i]:=by rw [List.getD_eq_getElem?_getD,List.getElem?_eq_getElem h];rfl
  unfold hvy
  rw [List.take_succ_eq_append_getElem h,List.map_append,List.sum_append,e]
  simp
theorem hvy_rg {ws:List Int} (hw:∀ x∈ws,0≤x∧x≤19683):∀ {set:List Int},(∀ s∈set,0≤s∧s<ws.length)→0≤hvy ws set∧hvy ws set≤19683 * set.length
  | [],_=>by rw [hvy_nil];simp
  | s :: set,h=>by
    have h1:=hvy_rg hw (set:=set) fun x hx=>h x (List.mem_cons_of_mem _ hx)
    have h2:=h s (List.mem_cons_self ..)
    have h3:=hw _ (yz3 (show s.toNat<ws.length by omega) 0)
    have e:hvy ws (s :: set)=ws.getD s.toNat 0+hvy ws set:=by simp [hvy]
    rw [e,List.length_cons]
    omega
theorem k_weigh (ws set:List Int) (hw:∀ x∈ws,0≤x∧x≤19683) (hs:∀ s∈set,0≤s∧s<ws.length) (hl:set.length≤1000000):Fun Try.prog nz23 [.ro none 1 (ints ws),.ro none 1 (ints set)] (iv (hvy ws set)):=by
  refine fun_of mixed czf4 rfl ⟨rfl,trivial⟩ ?_
  simp only [Az9m,Bz9l,Bz9k,go_sem,yz0,xx9,xx8,xx6,xx7,xx5,xx0,xx1,xx2,reduceIte,xx3,xx4,reduceCtorEq]
  intro hM
  simp only [Bz9i,go_sem,yz0,xx9,xx8,xx6,xx7,xx5,xx0,xx1,xx2,reduceIte,xx3,xx4,reduceCtorEq]
  refine wpD_lo (fun (i:Nat)=>set.length - i) (fun i=>i≤set.length)
    (fun (i:Nat)=>⟨L .any [(0,.ro none 1 (ints ws)),(5,iv (hvy ws (set.take i))),(8,.ro none 1 (ints set)),(9,iv set.length),(10,iv i)],L .gone []⟩)
    0 (Nat.zero_le _) (by simp only [Bzz,List.take_zero,hvy_nil,go_sem,yz0,xx9,xx8,xx6,xx7,xx5,xx0,xx1,xx2,reduceIte,xx3,xx4,reduceCtorEq];try rfl) ?_
  intro i hi
  have hi:i≤set.length:=hi
  by_cases hlt:(i:Int)<set.length
  · have hlt1:i<set.length:=by omega
    have wi:IntKind.i64.wrap ((i:Int)+1)=((i+1:Nat):Int):=by rw [w64 (by omega)];simp
    have hsi:=hs _ (yz3 hlt1 0)
    have hsl:(set.getD i 0).toNat<ws.length:=by omega
    have hsn:(((set.getD i 0).toNat:Nat):Int)=set.getD i 0:=by omega
    have hrg:=hvy_rg hw (set:=set.take (i+1)) fun x hx=>hs x (List.mem_of_mem_take hx)
    have hlen:(set.take (i+1)).length≤1000000:=by rw [List.length_take];omega
    have hst:=hvy_take (ws:=ws) hlt1
    have w1:IntKind.i64.wrap (hvy ws (set.take i)+ws.getD (set.getD i 0).toNat 0)=hvy ws (set.take (i+1)):=by rw [← hst];exact w64 (by omega)
    simp only [Bzz,Bz43,Bz9h,decide_eq_true hlt,yz2 hlt1,go_sem,yz0,xx9,xx8,xx6,xx7,xx5,xx0,xx1,xx2,reduceIte,xx3,xx4,reduceCtorEq]
    refine ⟨⟨by omega,hlt1⟩,hlt1,?_⟩
    simp only [Bz9f,yz2 hsl,w1,go_sem,yz0,xx9,xx8,xx6,xx7,xx5,xx0,xx1,xx2,reduceIte,xx3,xx4,reduceCtorEq]
    refine ⟨⟨by omega,hsl⟩,hsl,?_⟩
    simp only [Bz9g,wi,go_sem,yz0,xx9,xx8,xx6,xx7,xx5,xx0,xx1,xx2,reduceIte,xx3,xx4,reduceCtorEq]
    exact ⟨i+1,by omega,by omega,rfl⟩
  · obtain rfl:i=set.length:=by omega
    simp only [Bzz,Bz43,Bz9j,decide_eq_false hlt,List.take_length,go_sem,yz0,xx9,xx8,xx6,xx7,xx5,xx0,xx1,xx2,reduceIte,xx3,xx4,reduceCtorEq]
theorem k_l03Heavy (ws set:List Int) (hw:∀ x∈ws,0≤x∧x≤19683) (hs:∀ s∈set,0≤s∧s<ws.length) (hl:set.length≤1000000):Fun Try.prog nz22 [.ro none 1 (ints ws),.ro none 1 (ints set)] (iv (hvy ws set)):=by
  refine fun_of mixed czf3 rfl ⟨rfl,trivial⟩ ?_
  simp only [Az9e,Bz9d,Bz9c,Bz9a,go_sem,yz0,xx9,xx8,xx6,xx7,xx5,xx0,xx1,xx2,reduceIte,xx3,xx4,reduceCtorEq]
  refine wpD_lo (fun (i:Nat)=>set.length - i) (fun i=>i≤set.length)
    (fun (i:Nat)=>⟨L .any [(0,.ro none 1 (ints ws)),(1,.ro none 1 (ints set)),(5,iv (hvy ws (set.take i))),(6,iv i)],L .gone []⟩)
    0 (Nat.zero_le _) (by simp only [Bzy,List.take_zero,hvy_nil,go_sem,yz0,xx9,xx8,xx6,xx7,xx5,xx0,xx1,xx2,reduceIte,xx3,xx4,reduceCtorEq];try rfl) ?_
  intro i hi
  have hi:i≤set.length:=hi
  by_cases hlt:(i:Int)<set.length
  · have hlt1:i<set.length:=by omega
    have wi:IntKind.i64.wrap ((i:Int)+1)=((i+1:Nat):Int):=by rw [w64 (by omega)];simp
    have hsi:=hs _ (yz3 hlt1 0)
    have hsl:(set.getD i 0).toNat<ws.length:=by omega
    have hrg:=hvy_rg hw (set:=set.take (i+1)) fun x hx=>hs x (List.mem_of_mem_take hx)
    have hlen:(set.take (i+1)).length≤1000000:=by rw [List.length_take];omega
    have hst:=hvy_take (ws:=ws) hlt1
    have w1:IntKind.i64.wrap (hvy ws (set.take i)+ws.getD (set.getD i 0).toNat 0)=hvy ws (set.take (i+1)):=by rw [← hst];exact w64 (by omega)
    simp only [Bzy,Bz42,Bz99,decide_eq_true hlt,yz2 hlt1,yz2 hsl,w1,go_sem,yz0,xx9,xx8,xx6,xx7,xx5,xx0,xx1,xx2,reduceIte,xx3,xx4,reduceCtorEq]
    intro hM
    refine ⟨⟨by omega,hlt1⟩,hlt1,⟨by omega,hsl⟩,hsl,?_⟩
    simp only [Bz98,wi,go_sem,yz0,xx9,xx8,xx6,xx7,xx5,xx0,xx1,xx2,reduceIte,xx3,xx4,reduceCtorEq]
    exact ⟨i+1,by omega,by omega,rfl⟩
  · obtain rfl:i=set.length:=by omega
    simp only [Bzy,Bz42,Bz9b,decide_eq_false hlt,List.take_length,go_sem,yz0,xx9,xx8,xx6,xx7,xx5,xx0,xx1,xx2,reduceIte,xx3,xx4,reduceCtorEq]
    try (intro hM;rfl)
theorem wghL_len {n:Int} {next:List (List Int)}:(wghL n next).length=n.toNat:=by simp [wghL]
theorem wghL_rg {n:Int} {next:List (List Int)} (A:Aut n next) (hc:conB n next=true):∀ x∈wghL n next,0≤x∧x≤19683:=by
  intro x hx
  unfold wghL at hx
  obtain ⟨s,hs,rfl⟩:=List.mem_map.1 hx
  have h1:=minW_rg A hc (List.mem_range.1 hs)
  have h2:=gcdW_rg A hc n.toNat (Nat.le_refl _)
  rw [Int.tdiv_eq_ediv_of_nonneg (by omega)]
  exact ⟨Int.ediv_nonneg (by omega) h2.1,Int.le_trans (Int.ediv_le_self _ (by omega)) h1.2⟩
def wosV (n:Int) (next:List (List Int)) (set:List Int):Int:=if autB n next && (setB n set && conB n next) then hvy (wghL n next) set else 0
theorem set_le {n:Int} {set:List Int} (n2:n≤10) (h:setB n set=true):(∀ s∈set,0≤s∧s<n)∧set.length≤1000000:=by
  have Z:=setB_iff.1 h
  refine ⟨fun s hs=>by have:=Z.2 s hs;omega,?_⟩
  rcases SI_len Z.1 Z.2 with h8 | h8
  · omega
  · rw [h8];simp
theorem k_WeightOfSet (n:Int) (next:List (List Int)) (set:List Int):Fun2 Try.prog nz1s [autA n next,.ro none 1 (ints set)] (.int .i64 (wosV n next set)) (.int .i64 (codeW n next set)):=by
  refine fun2_of mixed czet rfl ?_
  simp only [Az74,Bz73,go_sem,yz0,xx9,xx8,xx6,xx7,xx5,xx0,xx1,xx2,reduceIte,xx3,xx4,reduceCtorEq]
  intro vs vs2
  refine yz5 (k_weightCode n next set) qCS trivial ?_
  cases hok:(autB n next && (setB n set && conB n next)) with
  | false =>
    have h0:(codeW n next set != 0)=true:=by
      rw [bne_iff_ne]
      intro h
      have:=codeW_ok.1 h
      rw [this.1,this.2.1,this.2.2] at hok;cases hok
    have hv:wosV n next set=0:=by unfold wosV;rw [hok];rfl
    simp only [h0,hv,Bz3e,Bz3d,go_sem,yz0,xx9,xx8,xx6,xx7,xx5,xx0,xx1,xx2,reduceIte,xx3,xx4,reduceCtorEq]
    try simp
  | true =>
    have hv:wosV n next set=hvy (wghL n next) set:=by unfold wosV;rw [hok];rfl
    rw [Bool.and_eq_true,Bool.and_eq_true] at hok
    have A:=autB_iff.1 hok.1
    have h0:codeW n next set=0:=codeW_ok.2 ⟨hok.1,hok.2.1,hok.2.2⟩
    have hz:=set_le A.n2 hok.2.1
    simp only [h0,hv,Bz3e,Bz3d,Bz72,bne_self_eq_false,go_sem,yz0,xx9,xx8,xx6,xx7,xx5,xx0,xx1,xx2,reduceIte,xx3,xx4,reduceCtorEq]
    intro vs3
    refine call_rowI (k_weights n next A hok.2.2) qCS rfl ⟨_,rfl⟩ ?_
    rintro ys v rfl
    simp only [go_sem,yz0,xx9,xx8,xx6,xx7,xx5,xx0,xx1,xx2,reduceIte,xx3,xx4,reduceCtorEq]
    refine yz5 (k_weigh (wghL n next) set (wghL_rg A hok.2.2) (fun s hs=>by have:=hz.1 s hs;rw [wghL_len];omega) hz.2) qCS trivial ?_
    simp only [go_sem,yz0,xx9,xx8,xx6,xx7,xx5,xx0,xx1,xx2,reduceIte,xx3,xx4,reduceCtorEq]
    try simp
theorem k_specWeightOfSet (n:Int) (next:List (List Int)) (set:List Int):Fun2 Try.prog nz1r [autA n next,.ro none 1 (ints set)] (.int .i64 (wosV n next set)) (.int .i64 (codeW n next set)):=by
  refine fun2_of mixed czer rfl ?_
  simp only [Az6v,Bz6u,go_sem,yz0,xx9,xx8,xx6,xx7,xx5,xx0,xx1,xx2,reduceIte,xx3,xx4,reduceCtorEq]
  intro vs vs2
  refine yz5 (k_l01Ok n next) qCS trivial ?_
  cases hv:autB n next with
  | false =>
    have h4:codeW n next set=1:=by simp [codeW,hv]
    have h5:wosV n next set=0:=by simp [wosV,hv]
    simp only [Bz38,h4,h5,go_sem,yz0,xx9,xx8,xx6,xx7,xx5,xx0,xx1,xx2,reduceIte,xx3,xx4,reduceCtorEq]
    try simp
  | true =>
    have A:=autB_iff.1 hv
    simp only [Bz38,Bz6t,go_sem,yz0,xx9,xx8,xx6,xx7,xx5,xx0,xx1,xx2,reduceIte,xx3,xx4,reduceCtorEq]
    intro vs3
    refine yz5 (k_l01Set n next set ⟨A.n1,A.n2⟩) qCS trivial ?_
    cases hw:setB n set with
    | false =>
      have h4:codeW n next set=2:=by simp [codeW,hv,hw]
      have h5:wosV n next set=0:=by simp [wosV,hw]
      simp only [Bz39,h4,h5,go_sem,yz0,xx9,xx8,xx6,xx7,xx5,xx0,xx1,xx2,reduceIte,xx3,xx4,reduceCtorEq]
      try simp
    | true =>
      simp only [Bz39,Bz6s,go_sem,yz0,xx9,xx8,xx6,xx7,xx5,xx0,xx1,xx2,reduceIte,xx3,xx4,reduceCtorEq]
      intro vs4
      refine yz5 (k_l01Joined n next A) qCS trivial ?_
      cases hb:conB n next with
      | false =>
        have h4:codeW n next set=4:=by simp [codeW,hv,hw,hb]
        have h5:wosV n next set=0:=by simp [wosV,hb]
        simp only [Bz3a,h4,h5,go_sem,yz0,xx9,xx8,xx6,xx7,xx5,xx0,xx1,xx2,reduceIte,xx3,xx4,reduceCtorEq]
        try simp
      | true =>
        have h4:codeW n next set=0:=codeW_ok.2 ⟨hv,hw,hb⟩
        have h5:wosV n next set=hvy (wghL n next) set:=by simp [wosV,hv,hw,hb]
        have hz:=set_le A.n2 hw
        simp only [Bz3a,Bz6r,h4,h5,go_sem,yz0,xx9,xx8,xx6,xx7,xx5,xx0,xx1,xx2,reduceIte,xx3,xx4,reduceCtorEq]
        intro vs5
        refine call_rowI (k_l03Weights n next A hb) qCS rfl ⟨_,rfl⟩ ?_
        rintro ys v rfl
        simp only [go_sem,yz0,xx9,xx8,xx6,xx7,xx5,xx0,xx1,xx2,reduceIte,xx3,xx4,reduceCtorEq]
        refine yz5 (k_l03Heavy (wghL n next) set (wghL_rg A hb) (fun s hs=>by have:=hz.1 s hs;rw [wghL_len];omega) hz.2) qCS trivial ?_
        simp only [go_sem,yz0,xx9,xx8,xx6,xx7,xx5,xx0,xx1,xx2,reduceIte,xx3,xx4,reduceCtorEq]
        try simp
end Go.Ab
namespace Go.Ab
open Go.Proofs
theorem k_FnExactWeightOfSet (n:Int) (next:List (List Int)) (set:List Int):Fun Try.prog nz5t [.st [iv n,.ro (some (some 0)) 1 (rwo next)],.ro (some (some 0)) 1 (ints set)] (bv true):=by
  refine fun_of mixed czem rfl ⟨rfl,trivial⟩ ?_
  simp only [Az68,Bz67,go_sem,yz0,xx9,xx8,xx6,xx7,xx5,xx0,xx1,xx2,reduceIte,xx3,xx4,reduceCtorEq]
  intro vs hM
  by_cases hlw:1048576<(set.length:Int)
  · simp only [Bz2x,decide_eq_true hlw,go_sem,yz0,xx9,xx8,xx6,xx7,xx5,xx0,xx1,xx2,reduceIte,xx3,xx4,reduceCtorEq]
  simp only [Bz2x,Bz66,Bz65,decide_eq_false hlw,go_sem,yz0,xx9,xx8,xx6,xx7,xx5,xx0,xx1,xx2,reduceIte,xx3,xx4,reduceCtorEq]
  intro vs2
  refine yz5 (k_szAutomaton n next 1048576 (by omega)) qCO trivial ?_
  by_cases hsz:szLL next 1048576<0
  · simp only [Bz2z,Bz2y,decide_eq_true hsz,go_sem,yz0,xx9,xx8,xx6,xx7,xx5,xx0,xx1,xx2,reduceIte,xx3,xx4,reduceCtorEq]
  obtain ⟨hs1,hs2,_⟩:=szLL_ge (xss:=next) (l:=1048576) (by omega)
  have hb1:next.length * 24≤140737488355328:=by omega
  have hb2:∀ xs∈next,xs.length * 8≤140737488355328:=fun xs hx=>by have:=hs2 xs hx;omega
  have hb3:set.length * 8≤140737488355328:=by omega
  simp only [Bz2z,Bz2y,Bz64,decide_eq_false hsz,go_sem,yz0,xx9,xx8,xx6,xx7,xx5,xx0,xx1,xx2,reduceIte,xx3,xx4,reduceCtorEq]
  intro vs3
  refine call_aut (k_toAutomaton n next hb1 hb2) qCO rfl ?_
  intro v1
  simp only [go_sem,yz0,xx9,xx8,xx6,xx7,xx5,xx0,xx1,xx2,reduceIte,xx3,xx4,reduceCtorEq]
  refine call_rowI (k_toInt64S set hb3) qCI rfl ⟨_,rfl⟩ ?_
  rintro ys v2 rfl
  simp only [go_sem,yz0,xx9,xx8,xx6,xx7,xx5,xx0,xx1,xx2,reduceIte,xx3,xx4,reduceCtorEq]
  refine call_fun2 (k_specWeightOfSet n next ys) qCS ?_
  simp only [Bz63,go_sem,yz0,xx9,xx8,xx6,xx7,xx5,xx0,xx1,xx2,reduceIte,xx3,xx4,reduceCtorEq]
  intro vs4
  refine call_aut (k_toAutomaton n next hb1 hb2) qCO rfl ?_
  intro v3
  simp only [Bz62,go_sem,yz0,xx9,xx8,xx6,xx7,xx5,xx0,xx1,xx2,reduceIte,xx3,xx4,reduceCtorEq]
  intro vs5
  refine call_rowI (k_toInt64S ys hb3) qCI rfl ⟨_,rfl⟩ ?_
  rintro ws v4 rfl
  simp only [Bz61,go_sem,yz0,xx9,xx8,xx6,xx7,xx5,xx0,xx1,xx2,reduceIte,xx3,xx4,reduceCtorEq]
  intro vs6
  refine call_fun2 (k_WeightOfSet n next ws) qCS ?_
  simp only [Bz60,Bz5u,Bz5z,beq_self_eq_true,bne_self_eq_false,Bool.not_true,Bool.false_or,go_sem,yz0,xx9,xx8,xx6,xx7,xx5,xx0,xx1,xx2,reduceIte,xx3,xx4,reduceCtorEq]
  intro vs7
  refine call_aut (k_toAutomaton n next hb1 hb2) qCO rfl ?_
  intro v5
  simp only [go_sem,yz0,xx9,xx8,xx6,xx7,xx5,xx0,xx1,xx2,reduceIte,xx3,xx4,reduceCtorEq]
  refine yz5 (k_eqAutomaton n n next next) qCS trivial ?_
  simp only [Bz5v,Bz5y,decide_true,Bool.and_self,go_sem,yz0,xx9,xx8,xx6,xx7,xx5,xx0,xx1,xx2,reduceIte,xx3,xx4,reduceCtorEq]
  intro vs8
  refine call_rowI (k_toInt64S ws hb3) qCI rfl ⟨_,rfl⟩ ?_
  rintro us v6 rfl
  simp only [go_sem,yz0,xx9,xx8,xx6,xx7,xx5,xx0,xx1,xx2,reduceIte,xx3,xx4,reduceCtorEq]
  refine yz5 (k_eqInt64S us us) qCS trivial ?_
  simp only [Bz5w,Bz5x,decide_true,go_sem,yz0,xx9,xx8,xx6,xx7,xx5,xx0,xx1,xx2,reduceIte,xx3,xx4,reduceCtorEq]
end Go.Ab
namespace Go.Ab
open Go
variable {P:Program}
theorem arg_mach {t:TypeId} {A:AVal} {fs:Array Field} {f1 f2 f3 f4:Field} (h:P.underlying t=some (.struct fs)) (hfs:fs.toList=[f1,f2,f3,f4]) (ht1:P.underlying f1.type=some (.int .i64)) (ht2:P.underlying f2.type=some (.int .i64))
    {e f:TypeId} (h2:P.underlying f3.type=some (.slice e)) (h3:P.underlying f4.type=some (.slice e)) (h1:P.cellsOf e=1) (he:P.underlying e=some (.slice f)) (hf1:P.cellsOf f=1) (hf:P.underlying f=some (.int .i64))
    (hA:ArgShp P t A):∃ n o x y,A=.st [iv n,iv o,.ro (some (some 0)) 1 (rwo x),.ro (some (some 0)) 1 (rwo y)]:=by
  obtain ⟨As,rfl,hF⟩:=arg_struct h hA
  rw [hfs] at hF
  cases hF with
  | cons hA1 hF =>
    cases hF with
    | cons hA2 hF =>
      cases hF with
      | cons hA3 hF =>
        cases hF with
        | cons hA4 hF =>
          cases hF
          obtain ⟨n,rfl⟩:=shp_int ht1 hA1
          obtain ⟨o,rfl⟩:=shp_int ht2 hA2
          obtain ⟨x,rfl⟩:=shp_rows h2 h1 he hf1 hf hA3
          obtain ⟨y,rfl⟩:=shp_rows h3 h1 he hf1 hf hA4
          exact ⟨n,o,x,y,rfl⟩
end Go.Ab
