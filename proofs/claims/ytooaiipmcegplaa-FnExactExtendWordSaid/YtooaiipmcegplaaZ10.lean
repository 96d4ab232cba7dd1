/- Contracts and what they lean on, part 10. Conditions: none. -/
import Derived.Test.YtooaiipmcegplaaZ9
set_option maxRecDepth 100000
set_option maxHeartbeats 4000000
set_option linter.all false
open Nat renaming reduceLeDiff → xx0, reduceMul → xx1, reduceSub → xx2, reduceEqDiff → xx3, reduceAdd → xx4, reduceLT → xx5
open Int renaming reduceToNat → xx6, reduceNeg → xx7, reduceLE → xx8, reduceLT → xx9
namespace Go.Ab
open Go Go.Proofs
theorem tw_L {l:List (Nat×AVal)} {h:List (Nat×AObj)} {t q n m k':Nat} {cs':List AVal} :
    St.tw ⟨L .any l,L .gone h⟩ t q n m k' cs'=⟨L .any ((t,.own q m) :: woT n l),L .gone ((q,.row m k' true (woL n cs')) :: woO n h)⟩:=by
  unfold St.tw
  congr 1
  · funext x
    simp only [L]
    split
    · rfl
    · exact (woT_eq l x).symm
  · funext x
    simp only [L]
    split
    · rfl
    · exact (woO_eq h x).symm
theorem gwp_tw {gs:List GStep} {K:St→Prop} {l:List (Nat×AVal)} {h:List (Nat×AObj)} {t q n k':Nat} {cs':List AVal} (hr:L .any l t=.ro (some (some (n+1))) k' cs')
    (hne:cs'≠[]) (hq:L .gone h q=.gone)
    (hk:∀ m,gwp gs K ⟨L .any ((t,.own q m) :: woT n l),L .gone ((q,.row m k' true (woL n cs')) :: woO n h)⟩):gwp (.tw t q :: gs) K ⟨L .any l,L .gone h⟩ :=
  ⟨n,k',cs',hr,hne,hq,fun m=>by rw [tw_L];exact hk m⟩
def freeN (seen:Nat→Bool) (M:Nat):Nat:=((List.range M).filter fun k=>!seen k).length
theorem filter_less {p q:Nat→Bool}:∀ {l:List Nat},(∀ x∈l,q x=true→p x=true)→(∃ x∈l,p x=true∧q x=false)→(l.filter q).length<(l.filter p).length
  | [],_,⟨x,hx,_⟩=>by cases hx
  | a :: l,h,⟨x,hx,h1,h2⟩=>by
    have hle:∀ {l:List Nat},(∀ x∈l,q x=true→p x=true)→(l.filter q).length≤(l.filter p).length:=by
      intro l
      induction l with
      | nil=>intro _;exact Nat.le_refl _
      | cons b l ih =>
        intro h
        have h3:=ih fun x hx=>h x (List.mem_cons_of_mem _ hx)
        have h4:=h b (List.mem_cons_self ..)
        cases hq:q b with
        | true=>rw [List.filter_cons_of_pos hq,List.filter_cons_of_pos (h4 hq),List.length_cons,List.length_cons];omega
        | false =>
          rw [List.filter_cons_of_neg (by simp [hq])]
          cases hp:p b with
          | true=>rw [List.filter_cons_of_pos hp,List.length_cons];omega
          | false=>rw [List.filter_cons_of_neg (by simp [hp])];exact h3
    have h3:=hle fun x hx=>h x (List.mem_cons_of_mem _ hx)
    rcases List.mem_cons.1 hx with rfl | hx
    · rw [List.filter_cons_of_neg (by simp [h2]),List.filter_cons_of_pos h1,List.length_cons];omega
    · have h4:=filter_less (l:=l) (fun x hx=>h x (List.mem_cons_of_mem _ hx)) ⟨x,hx,h1,h2⟩
      cases hq:q a with
      | true=>rw [List.filter_cons_of_pos hq,List.filter_cons_of_pos (h a (List.mem_cons_self ..) hq),List.length_cons,List.length_cons];omega
      | false =>
        rw [List.filter_cons_of_neg (by simp [hq])]
        cases hp:p a with
        | true=>rw [List.filter_cons_of_pos hp,List.length_cons];omega
        | false=>rw [List.filter_cons_of_neg (by simp [hp])];exact h4
theorem free_next {bk:Nat→Nat→Nat} {K M:Nat} {seen:Nat→Bool} {L:List (Nat×List Int)} (hb:∀ x f,bk x f<M) (hne:nextL bk K seen L≠[]):freeN (seeL seen (nextL bk K seen L)) M<freeN seen M:=by
  have hm:=nextL_min (bk:=bk) (K:=K) (seen:=seen) (L:=L)
  generalize nextL bk K seen L=A at hm hne
  cases A with
  | nil=>exact absurd rfl hne
  | cons p A =>
    obtain ⟨h1,h2,_⟩:=hm.sub p (List.mem_cons_self ..)
    obtain ⟨q,_,x,_,rfl⟩:=candL_mem.1 h1
    refine filter_less (fun y _ hy=>?_) ⟨bk x q.1,List.mem_range.2 (hb _ _),by rw [h2];rfl,by simp [seeL]⟩
    unfold seeL at hy
    cases h:seen y with
    | false=>rfl
    | true=>rw [h] at hy;simp at hy
theorem bitsN_SIX {f:Nat}:SI (bitsTo f 10):=by
  rw [bitsTo_eq]
  unfold SI
  rw [List.pairwise_map]
  unfold bitsN
  exact (List.Pairwise.filter _ List.pairwise_lt_range).imp fun h=>by omega
theorem or_bitsX:∀ (set:List Int) (o t:Nat),(set.foldl (fun o s=>o ||| 2 ^ s.toNat) o).testBit t=(o.testBit t || set.any fun s=>s.toNat == t)
  | [],o,t=>by simp
  | s :: set,o,t=>by
    rw [List.foldl_cons,or_bitsX set,Nat.testBit_or,Nat.testBit_two_pow,List.any_cons,Bool.or_assoc]
    congr 1
theorem set_bitsX {n:Int} {set:List Int} (hn:n≤10) (hs:setB n set=true):maskN set<2 ^ n.toNat∧bitsTo (maskN set) 10=set:=by
  have h:=setB_iff.1 hs
  have hlt:maskN set<2 ^ n.toNat:=by
    apply Nat.lt_pow_two_of_testBit
    intro i hi
    rw [Bool.eq_false_iff]
    intro hc
    unfold maskN at hc
    rw [or_bitsX,Nat.zero_testBit,Bool.false_or,List.any_eq_true] at hc
    obtain ⟨s,h1,h2⟩:=hc
    have h3:=h.2 s h1
    have:s.toNat=i:=by simpa using h2
    omega
  refine ⟨hlt,SI_ext bitsN_SIX h.1 fun x=>?_⟩
  rw [mem_bitsTo]
  unfold maskN
  rw [or_bitsX,Nat.zero_testBit,Bool.false_or,List.any_eq_true]
  constructor
  · rintro ⟨h1,h2,s,h3,h4⟩
    have h5:=h.2 s h3
    have:s.toNat=x.toNat:=by simpa using h4
    rw [show x=s by omega];exact h3
  · intro hx
    have h5:=h.2 x hx
    exact ⟨by omega,by omega,x,hx,by simp⟩
def hvB (n:Int) (next:List (List Int)) (set:List Int) (f:Nat):Bool:=decide (hvy (wghL n next) (bitsTo f 10) > hvy (wghL n next) set)
def extV (n:Int) (next:List (List Int)) (set:List Int):Option (List Int):=extR (bkA n next) next.length (hvB n next set) 1026 (fun k=>k == maskN set) [(maskN set,[])]
def codeX (n:Int) (next:List (List Int)) (set:List Int):Int:=if codeW n next set=0 then (if (extV n next set).isSome then 0 else 6) else codeW n next set
def wordX (n:Int) (next:List (List Int)) (set:List Int):List Int:=if codeW n next set=0 then (extV n next set).getD [] else []
theorem wpD_lm2 {P:Program} {Q:AEx→St→Prop} {σ:St} {a:AC} {α:Type} {ts hs:List Nat} {p q p' q':Nat} (m:α→Nat) (inv:α→Prop) (S:α→St) (x0:α) (h0:inv x0) (hS:∀ u u',((σ.mv p q u).mv p' q' u').keep ts hs=S x0)
    (h:∀ x,inv x→wpD P a (loopQ (fun σ'=>∃ k,k<m x∧∀ u u',∃ y,m y=k∧inv y∧((σ'.mv p q u).mv p' q' u').keep ts hs=S y) Q) (S x)):wpD P (.loop (.mv p q (.mv p' q' (.kp ts hs a)))) Q σ:=by
  refine ⟨fun n σ=>∀ u u',∃ x,m x=n∧inv x∧((σ.mv p q u).mv p' q' u').keep ts hs=S x,⟨m x0,fun u u'=>⟨x0,rfl,h0,hS u u'⟩⟩,?_⟩
  intro n σ' hI u u'
  obtain ⟨x,rfl,hx,hS⟩:=hI u u'
  show wpD P a _ (((σ'.mv p q u).mv p' q' u').keep ts hs)
  rw [hS]
  refine wpD_mono _ _ _ _ (fun e σ'' he=>?_) (h x hx)
  cases e with
  | normal =>
    obtain ⟨k,h1,h2⟩:=he
    exact ⟨k,h1,h2⟩
  | exit i=>exact he
  | ret=>exact he
theorem mvL_rwp {a v b m:Nat} {ps:List (Nat×List Int)}:mvL a v b m (rwp ps)=rwp ps:=by
  simp only [mvL_eq,rwp,List.map_map]
  exact List.map_congr_left fun xs _=>by simp [AVal.mv,ints,mvL_eq]
theorem mvL_bls {a v b m:Nat} {xs:List Bool}:mvL a v b m (bls xs)=bls xs:=by
  simp only [mvL_eq,bls,List.map_map]
  exact List.map_congr_left fun xs _=>by simp [AVal.mv]
structure ExI (n:Int) (next:List (List Int)) (set:List Int) (f:Nat) (seen:Nat→Bool) (Lv:List (Nat×List Int)) (ps:List (Nat×List Int)):Prop where
  ps:ps.map (·.2)=wrdL Lv
  val:extR (bkA n next) next.length (hvB n next set) f seen Lv=extV n next set
  free:Lv≠[]→freeN seen (2 ^ n.toNat)<f
  key:∀ p∈Lv,p.1<2 ^ n.toNat
  nd:(Lv.map (·.1)).Nodup
  hv:∀ p∈Lv,hvB n next set p.1=true→p.2≠[]
  len:∀ p∈Lv,p.2.length+freeN seen (2 ^ n.toNat)≤1024
theorem freeN_le {seen:Nat→Bool} {M:Nat}:freeN seen M≤M:=by
  unfold freeN
  have:=List.length_filter_le (fun k=>!seen k) (List.range M)
  rwa [List.length_range] at this
theorem ExI.begin {n:Int} {next:List (List Int)} {set:List Int} (v:Nat) (n2:n≤10) (hw:setB n set=true):ExI n next set 1026 (fun k=>k == maskN set) [(maskN set,[])] [(v,[])]:=by
  have hN:2 ^ n.toNat≤1024:=Nat.pow_le_pow_right (n:=2) (by omega) (show n.toNat≤10 by omega)
  have hf:=freeN_le (seen:=fun k=>k == maskN set) (M:=2 ^ n.toNat)
  have hb:=set_bitsX n2 hw
  refine ⟨rfl,rfl,fun _=>by omega,fun p hp=>?_,by simp,fun p hp h=>?_,fun p hp=>?_⟩
  · obtain rfl:=List.mem_singleton.1 hp;exact hb.1
  · obtain rfl:=List.mem_singleton.1 hp
    unfold hvB at h
    rw [hb.2] at h
    exact absurd (of_decide_eq_true h) (Int.lt_irrefl _)
  · obtain rfl:=List.mem_singleton.1 hp
    show 0+_≤1024
    omega
theorem sub_lenX {l:List Nat} (h:l.Nodup):∀ (m:List Nat),(∀ x∈l,x∈m)→l.length≤m.length:=by
  induction l with
  | nil=>intros;simp
  | cons a l ih =>
    intro m hm
    have hn:=List.nodup_cons.1 h
    have ha:=hm a (by simp)
    have h2:=ih hn.2 (m.erase a) fun x hx=>(List.mem_erase_of_ne (fun e=>hn.1 (by rw [← e];exact hx))).2 (hm x (by simp [hx]))
    rw [List.length_erase_of_mem ha] at h2
    have:=List.length_pos_of_mem ha
    rw [List.length_cons];omega
theorem ExI.lvlen {n:Int} {next:List (List Int)} {set:List Int} {f:Nat} {seen:Nat→Bool} {Lv ps:List (Nat×List Int)} (h:ExI n next set f seen Lv ps) (n2:n≤10):Lv.length≤1024:=by
  have hN:2 ^ n.toNat≤1024:=Nat.pow_le_pow_right (n:=2) (by omega) (show n.toNat≤10 by omega)
  have h2:=sub_lenX h.nd (List.range (2 ^ n.toNat)) fun x hx=>by
    obtain ⟨p,hp,rfl⟩:=List.mem_map.1 hx
    exact List.mem_range.2 (h.key p hp)
  rw [List.length_map,List.length_range] at h2
  omega
theorem ExI.next {n:Int} {next:List (List Int)} {set:List Int} {f:Nat} {seen:Nat→Bool} {Lv ps:List (Nat×List Int)} (h:ExI n next set f seen Lv ps) (hne:Lv≠[]) (hb:bestL (hvB n next set) Lv=none)
    {ps':List (Nat×List Int)} (hps:ps'.map (·.2)=wrdL (nextL (bkA n next) next.length seen Lv)) :
    ExI n next set (f - 1) (seeL seen (nextL (bkA n next) next.length seen Lv)) (nextL (bkA n next) next.length seen Lv) ps'∧f - 1<f:=by
  have hf:=h.free hne
  have hM:=nextL_min (bk:=bkA n next) (K:=next.length) (seen:=seen) (L:=Lv)
  have hfr:nextL (bkA n next) next.length seen Lv≠[]→freeN (seeL seen (nextL (bkA n next) next.length seen Lv)) (2 ^ n.toNat)<freeN seen (2 ^ n.toNat):=fun hn=>free_next (fun x f=>bkA_ltn) hn
  have hv:=h.val
  obtain ⟨f',rfl⟩:∃ f',f=f'+1:=⟨f - 1,by omega⟩
  refine ⟨⟨hps,?_,fun hn=>by have:=hfr hn;omega,fun p hp=>?_,hM.nd,fun p hp _=>?_,fun p hp=>?_⟩,by omega⟩
  · rw [Nat.add_sub_cancel,← hv]
    cases Lv with
    | nil=>exact absurd rfl hne
    | cons p Lv =>
      simp only [extR,hb]
  · obtain ⟨h1,_,_⟩:=hM.sub p hp
    obtain ⟨q,hq,x,hx,rfl⟩:=candL_mem.1 h1
    exact bkA_ltn
  · obtain ⟨h1,_,_⟩:=hM.sub p hp
    obtain ⟨q,hq,x,hx,rfl⟩:=candL_mem.1 h1
    simp
  · have hn:nextL (bkA n next) next.length seen Lv≠[]:=fun e=>by rw [e] at hp;cases hp
    have h3:=hfr hn
    obtain ⟨h1,_,_⟩:=hM.sub p hp
    obtain ⟨q,hq,x,hx,rfl⟩:=candL_mem.1 h1
    have:=h.len q hq
    show q.2.length+1+_≤1024
    omega
theorem bestL_snoc {hv:Nat→Bool} {L:List (Nat×List Int)} {p:Nat×List Int}:bestL hv (L ++ [p])=if hv p.1=true then stepW (bestL hv L) p.2 else bestL hv L:=by
  unfold bestL
  rw [List.filter_append,List.map_append]
  cases h:hv p.1 with
  | true=>rw [show [p].filter (fun p=>hv p.1)=[p] by simp [h],if_pos rfl];exact leastW_snoc
  | false=>rw [show [p].filter (fun p=>hv p.1)=[] by simp [h],if_neg (by simp)];simp
theorem coeL_blsX {hp:Nat→AObj} {m:List Nat} {len:Bool}:∀ {xs:List Bool},CoeL hp m len (bls xs) (bls xs)
  | []=>by simp [bls,CoeL]
  | x :: xs=>by
    have h:=coeL_blsX (hp:=hp) (m:=m) (len:=len) (xs:=xs)
    simp only [bls,List.map_cons,CoeL] at h ⊢
    exact ⟨_,_,rfl,by simp [Coe],h⟩
theorem call_deep {σ:St} {d:Nat} {s:Nat→Nat} {K:St→Prop} {r v:Nat} {X Y Z:AVal} {n:Int} {next:List (List Int)} {Lv:List (Nat×List Int)} {seen:Nat→Bool}
    (A:Aut n next) (hk:∀ p∈Lv,p.1<1024) (hl:Lv.length≤1024) (hw:∀ p∈Lv,p.2.length≤4000)
    (hr:σ.hp r=.row v 1 true (bls (tabB seen (2 ^ n.toNat)))) (hco:CoeL σ.hp [r] true [autP n next,.ro none 1 (ints (keyL Lv)),.ro none 1 (rwn (wrdL Lv))] [X,Y,Z]) (hd:σ.hp d=.gone) (hd2:σ.hp (d+1000)=.gone)
    (hK:∀ v' w' ps',ps'.map (·.2)=wrdL (nextL (bkA n next) next.length seen Lv)→K (St.put ⟨σ.tm,upd (upd (upd σ.hp r (.row v 1 true (bls (tabB (seeL seen (nextL (bkA n next) next.length seen Lv)) (2 ^ n.toNat))))) d (.row v' 1 true (ints (keyL (nextL (bkA n next) next.length seen Lv))))) (d+1000) (.row w' 1 true (rwp ps'))⟩
      (some d) (.tup [.own d v',.own (d+1000) w']))):wpCall Try.prog false σ nz14 [X,Y,Z,.own r v] (some d) s K:=by
  have hne:d≠r:=fun e=>by rw [e,hr] at hd;cases hd
  have hne2:d+1000≠r:=fun e=>by rw [e,hr] at hd2;cases hd2
  rw [yz8,yz8,yz8] at hco
  obtain ⟨c1,c2,c3,_⟩:=hco
  refine .inl ⟨[r],_,_,false,_,k_l03Deeper n next A Lv seen hk hl hw,⟨by simp,rfl,by simp,by simp [hr],?_⟩,?_,(fun e=>by cases e),?_⟩
  · intro j B r' hB hr'
    cases j with
    | succ j=>simp at hB
    | zero =>
      simp at hB hr';subst hB;subst hr'
      simp only [ObjCoe,hr]
      exact ⟨trivial,v,_,rfl,coeL_blsX⟩
  · rw [yz8,yz8,yz8,yz8,coe_own0,hr,coeL_nil];exact ⟨c1,c2,c3,rfl,trivial⟩
  · rintro outs rows res ⟨rfl,v',w',ps',rfl,hps,rfl⟩
    refine ⟨rfl,by simp,by rw [Option.getD_some,gone_two];exact ⟨hd,hd2⟩,?_⟩
    rw [Option.getD_some,callHp_mrr hne hne2]
    have h0:sv σ.hp [r] s 0=v:=by simp [sv,hr,AObj.ver]
    have e2:([AObj.row v' 1 true (ints (keyL (nextL (bkA n next) next.length seen Lv))),AObj.row w' 1 true (rwp ps')]:List AObj).length=2:=rfl
    simp only [oren_row,renL_rwp,renL_blsQ,ren_tup,renL_cons,renL_nil,yz9,ren_val,e2,yza,yzc,h0]
    exact hK _ _ _ (by rw [List.map_map];exact hps)
def besA (v:Nat):Option (Nat×List Int)→AVal
  | none=>.own 41 v
  | some (u,w)=>.ro (some (some (u+1))) 1 (ints w)
theorem k_specExtendWord (n:Int) (next:List (List Int)) (set:List Int):RowC2 Try.prog nz10 [autA n next,.ro none 1 (ints set)] (wordX n next set) (codeX n next set):=by
  refine con_of mixed czna rfl (by simp) ?_
  generalize hQ:finQ _=Q
  simp only [Az4,Bzc1,yz2,yz1,go_sem,yz0,xx9,xx8,xx6,xx7,xx5,xx0,xx1,xx2,reduceIte,xx3,xx4,reduceCtorEq]
  intro vs0 U0 hN0 vs1 U1 hN1
  refine yz4 (k_l01Ok n next) qCS trivial ?_
  cases hv:autB n next with
  | false =>
    have h4:codeW n next set=1:=by simp [codeW,hv]
    have h5:codeX n next set=1:=by unfold codeX;rw [h4];rfl
    have h6:wordX n next set=[]:=by unfold wordX;rw [h4];rfl
    simp only [Bz67,h5,h6,yz2,yz1,go_sem,yz0,xx9,xx8,xx6,xx7,xx5,xx0,xx1,xx2,reduceIte,xx3,xx4,reduceCtorEq]
    intro vs2 U2 hN2
    simp only [← hQ,Az4,go_sem,yz0,xx9,xx8,xx6,xx7,xx5,xx0,xx1,xx2,reduceIte,xx3,xx4,reduceCtorEq]
    refine ⟨[14],by simp,by simp,by simp,?_⟩
    simp only [range1,List.length_singleton,h5,h6,Nat.not_lt_zero,range1,ren_val,ren_any,ren_ro,rnNm_n,rnNm_sn,rnNm_o,rnNm_s,ren_st,ren_tup,renL_nil,renL_cons,yz9,renL_rws,renL_rwn,oren_box,oren_row,oren_map,yzf,yzh,yzk,yzi,ren_mp_e0,ren_mp_e1,yza,yzc,yzj,yzg,ren_mp_r0,ren_mp_r1,List.range_zero,yzd,yzb,yze,gone_nil,gone_one,gone_two,AVal.fresh,freshL,yz7,fresh_rws,AObj.fresh,id,Option.isSome_some,or_true,true_or,go_sem,yz0,xx9,xx8,xx6,xx7,xx5,xx0,xx1,xx2,reduceIte,xx3,xx4,reduceCtorEq]
    exact ⟨_,rfl,rfl⟩
  | true =>
    have A:=autB_iff.1 hv
    simp only [Bz67,Bzc0,yz2,yz1,go_sem,yz0,xx9,xx8,xx6,xx7,xx5,xx0,xx1,xx2,reduceIte,xx3,xx4,reduceCtorEq]
    intro vs2 U2 hN2
    refine yz4 (k_l01Set n next set ⟨A.n1,A.n2⟩) qCS trivial ?_
    cases hw:setB n set with
    | false =>
      have h4:codeW n next set=2:=by simp [codeW,hv,hw]
      have h5:codeX n next set=2:=by unfold codeX;rw [h4];rfl
      have h6:wordX n next set=[]:=by unfold wordX;rw [h4];rfl
      simp only [Bz68,yz2,yz1,go_sem,yz0,xx9,xx8,xx6,xx7,xx5,xx0,xx1,xx2,reduceIte,xx3,xx4,reduceCtorEq]
      intro vs3 U3 hN3
      simp only [← hQ,Az4,go_sem,yz0,xx9,xx8,xx6,xx7,xx5,xx0,xx1,xx2,reduceIte,xx3,xx4,reduceCtorEq]
      refine ⟨[18],by simp,by simp,by simp,?_⟩
      simp only [range1,List.length_singleton,h5,h6,Nat.not_lt_zero,range1,ren_val,ren_any,ren_ro,rnNm_n,rnNm_sn,rnNm_o,rnNm_s,ren_st,ren_tup,renL_nil,renL_cons,yz9,renL_rws,renL_rwn,oren_box,oren_row,oren_map,yzf,yzh,yzk,yzi,ren_mp_e0,ren_mp_e1,yza,yzc,yzj,yzg,ren_mp_r0,ren_mp_r1,List.range_zero,yzd,yzb,yze,gone_nil,gone_one,gone_two,AVal.fresh,freshL,yz7,fresh_rws,AObj.fresh,id,Option.isSome_some,or_true,true_or,go_sem,yz0,xx9,xx8,xx6,xx7,xx5,xx0,xx1,xx2,reduceIte,xx3,xx4,reduceCtorEq]
      exact ⟨_,rfl,rfl⟩
    | true =>
      simp only [Bz68,Bzbz,yz2,yz1,go_sem,yz0,xx9,xx8,xx6,xx7,xx5,xx0,xx1,xx2,reduceIte,xx3,xx4,reduceCtorEq]
      intro vs3 U3 hN3
      refine yz4 (k_l01Joined n next A) qCS trivial ?_
      cases hb:conB n next with
      | false =>
        have h4:codeW n next set=4:=by simp [codeW,hv,hw,hb]
        have h5:codeX n next set=4:=by unfold codeX;rw [h4];rfl
        have h6:wordX n next set=[]:=by unfold wordX;rw [h4];rfl
        simp only [Bz69,yz2,yz1,go_sem,yz0,xx9,xx8,xx6,xx7,xx5,xx0,xx1,xx2,reduceIte,xx3,xx4,reduceCtorEq]
        intro vs4 U4 hN4
        simp only [← hQ,Az4,go_sem,yz0,xx9,xx8,xx6,xx7,xx5,xx0,xx1,xx2,reduceIte,xx3,xx4,reduceCtorEq]
        refine ⟨[21],by simp,by simp,by simp,?_⟩
        simp only [range1,List.length_singleton,h5,h6,Nat.not_lt_zero,range1,ren_val,ren_any,ren_ro,rnNm_n,rnNm_sn,rnNm_o,rnNm_s,ren_st,ren_tup,renL_nil,renL_cons,yz9,renL_rws,renL_rwn,oren_box,oren_row,oren_map,yzf,yzh,yzk,yzi,ren_mp_e0,ren_mp_e1,yza,yzc,yzj,yzg,ren_mp_r0,ren_mp_r1,List.range_zero,yzd,yzb,yze,gone_nil,gone_one,gone_two,AVal.fresh,freshL,yz7,fresh_rws,AObj.fresh,id,Option.isSome_some,or_true,true_or,go_sem,yz0,xx9,xx8,xx6,xx7,xx5,xx0,xx1,xx2,reduceIte,xx3,xx4,reduceCtorEq]
        exact ⟨_,rfl,rfl⟩
      | true =>
        have h4:codeW n next set=0:=codeW_ok.2 ⟨hv,hw,hb⟩
        simp only [Bz69,Bzby,yz2,yz1,go_sem,yz0,xx9,xx8,xx6,xx7,xx5,xx0,xx1,xx2,reduceIte,xx3,xx4,reduceCtorEq]
        intro vs4 U4 hN4
        refine call_rowI (k_l03Weights n next A hb) qCS rfl ⟨_,rfl⟩ ?_
        rintro ys v rfl
        simp only [Bzbx,yz2,yz1,go_sem,yz0,xx9,xx8,xx6,xx7,xx5,xx0,xx1,xx2,reduceIte,xx3,xx4,reduceCtorEq]
        intro vs5 U5 hN5
        have n1:=A.n1
        have n2:=A.n2
        have Z:=setB_iff.1 hw
        have hm10:∀ s∈set,0≤s∧s<10:=fun s hs=>by have:=Z.2 s hs;omega
        refine yz4 (k_l02Bits set hm10) qCS trivial ?_
        have h64:IntKind.u64.wrap n=n:=by rw [show n=((n.toNat:Nat):Int) by omega];exact u64w (by omega)
        have hn0:¬ n<0:=by omega
        have hsl:=i_shl (b:=n.toNat) (by omega)
        have hN:2 ^ n.toNat≤1024:=Nat.pow_le_pow_right (n:=2) (by omega) (show n.toNat≤10 by omega)
        simp only [go_sem,yz0,xx9,xx8,xx6,xx7,xx5,xx0,xx1,xx2,reduceIte,xx3,xx4,reduceCtorEq]
        refine ⟨⟨_,rfl,rfl⟩,?_⟩
        simp only [Bzbw,yz2,yz1,go_sem,yz0,xx9,xx8,xx6,xx7,xx5,xx0,xx1,xx2,reduceIte,xx3,xx4,reduceCtorEq]
        intro vs6 U6 hN6
        simp only [Bzbv,h64,hn0,hsl,yz2,yz1,go_sem,yz0,xx9,xx8,xx6,xx7,xx5,xx0,xx1,xx2,reduceIte,xx3,xx4,reduceCtorEq]
        intro vs7 U7 hN7
        have hp2:=Nat.two_pow_pos n.toNat
        refine ⟨⟨by omega,by omega,by omega,by omega⟩,?_⟩
        have hrep:(List.replicate (2 ^ n.toNat) [AVal.val (Value.bool false)]).flatten=bls (tabB (fun _=>false) (2 ^ n.toNat)):=by
          rw [List.flatten_replicate_singleton]
          refine List.ext_getElem (by simp [bls,tabB]) fun k h1 h2=>?_
          simp [bls,tabB]
        have hml:maskN set<2 ^ n.toNat:=fold_ltn set 0 (fun s hs=>by have:=Z.2 s hs;omega) hp2
        have hbl:maskN set<(tabB (fun _=>false) (2 ^ n.toNat)).length:=by rw [tabB_len];exact hml
        have hst:=bls_set (b:=true) hbl
        have hkeys:[AVal.val (.int .i64 ((maskN set:Nat):Int))]=ints (keyL [(maskN set,[])]):=rfl
        rw [tabB_set] at hst
        rw [hrep,hkeys]
        simp only [Bzbu,bls_len,hst,yz2,yz1,go_sem,yz0,xx9,xx8,xx6,xx7,xx5,xx0,xx1,xx2,reduceIte,xx3,xx4,reduceCtorEq]
        intro vs8 U8 hN8
        refine ⟨⟨by omega,hbl⟩,hbl,?_⟩
        simp only [Bzbt,Bool.false_or,yz2,yz1,go_sem,yz0,xx9,xx8,xx6,xx7,xx5,xx0,xx1,xx2,reduceIte,xx3,xx4,reduceCtorEq]
        have hw1:=wghL_rg A hb
        have hz:=set_le n2 hw
        refine wpD_lm2 (fun (_,_,f,_,_,_)=>f) (fun (_,_,f,seen,Lv,ps)=>ExI n next set f seen Lv ps)
          (fun ((v7,v8,f,seen,Lv,ps):Nat×Nat×Nat×(Nat→Bool)×List (Nat×List Int)×List (Nat×List Int))=>⟨L .any [(1,.ro none 1 (ints set)),(2,.ptr 2 (vs0 0 0) 0),(6,.own 22 v),(7,.own 25 v7),(8,.own 27 v8),(9,.own 32 (vs7 4 0))],
            L .gone [(2,.box (vs0 0 0) [iv n,.ro none 1 (rwn next)]),(22,.row v 1 true (ints (wghL n next))),(25,.row v7 1 true (ints (keyL Lv))),(27,.row v8 1 true (rwp ps)),(32,.row (vs7 4 0) 1 true (bls (tabB seen (2 ^ n.toNat)))),(84,.gone),(1084,.gone),(5000,.gone),(5001,.gone),(901,.gone)]⟩)
          (_,_,1026,_,[(maskN set,[])],[(vs6 0 0,[])]) (ExI.begin (vs6 0 0) n2 hw) (fun u u'=>by simp only [Bzbr,List.map_cons,List.map_nil,rwp,mvL_rwp,mvL_bls,yz2,yz1,go_sem,yz0,xx9,xx8,xx6,xx7,xx5,xx0,xx1,xx2,reduceIte,xx3,xx4,reduceCtorEq];rfl) ?_
        rintro ⟨v7,v8,f,seen,Lv,ps⟩ hI
        have hI:ExI n next set f seen Lv ps:=hI
        have hLl:=hI.lvlen n2
        generalize hR:loopQ _ _=R
        by_cases hne:Lv=[]
        · subst hne
          have hcx:codeX n next set=6:=by unfold codeX;rw [if_pos h4,← hI.val];cases f <;> rfl
          have hwx:wordX n next set=[]:=by unfold wordX;rw [if_pos h4,← hI.val];cases f <;> rfl
          have hd0:decide ((0:Int)<((0:Nat):Int))=false:=by decide
          simp only [← hR,hd0,Bz6a,List.map_nil,List.length_nil,yz2,yz1,go_sem,yz0,xx9,xx8,xx6,xx7,xx5,xx0,xx1,xx2,reduceIte,xx3,xx4,reduceCtorEq]
          intro vs9 U9 hN9 hM9
          simp only [← hQ,hcx,hwx,Az4,Bzbs,yz2,yz1,go_sem,yz0,xx9,xx8,xx6,xx7,xx5,xx0,xx1,xx2,reduceIte,xx3,xx4,reduceCtorEq]
          intro vs10 U10 hN10
          refine ⟨[87],by simp,by simp,by simp,?_⟩
          simp only [range1,List.length_singleton,Nat.not_lt_zero,range1,ren_val,ren_any,ren_ro,rnNm_n,rnNm_sn,rnNm_o,rnNm_s,ren_st,ren_tup,renL_nil,renL_cons,yz9,renL_rws,renL_rwn,oren_box,oren_row,oren_map,yzf,yzh,yzk,yzi,ren_mp_e0,ren_mp_e1,yza,yzc,yzj,yzg,ren_mp_r0,ren_mp_r1,List.range_zero,yzd,yzb,yze,gone_nil,gone_one,gone_two,AVal.fresh,freshL,yz7,fresh_rws,AObj.fresh,id,Option.isSome_some,or_true,true_or,go_sem,yz0,xx9,xx8,xx6,xx7,xx5,xx0,xx1,xx2,reduceIte,xx3,xx4,reduceCtorEq]
          exact ⟨_,rfl,rfl⟩
        · have hl0:0<Lv.length:=List.length_pos_iff.2 hne
          have hkl:(keyL Lv).length=Lv.length:=by simp
          have hgt:decide ((0:Int)<(Lv.length:Int))=true:=decide_eq_true (by omega)
          simp only [hkl,hgt,Bz6a,Bzbq,yz2,yz1,go_sem,yz0,xx9,xx8,xx6,xx7,xx5,xx0,xx1,xx2,reduceIte,xx3,xx4,reduceCtorEq]
          intro vs9 U9 hN9 hM9 vs10 U10 hN10
          simp only [Bzbp,Bzbo,yz2,yz1,go_sem,yz0,xx9,xx8,xx6,xx7,xx5,xx0,xx1,xx2,reduceIte,xx3,xx4,reduceCtorEq]
          intro vs11 U11 hN11
          generalize vs10 0 0=v41
          refine wpD_lp (fun (i,_)=>Lv.length - i) (fun (i,b)=>i≤Lv.length∧b.map (·.2)=bestL (hvB n next set) (Lv.take i)∧∀ u w,b=some (u,w)→w≠[])
            (fun ((i,b):Nat×Option (Nat×List Int))=>⟨L .any [(1,.ro none 1 (ints set)),(2,.ptr 2 (vs0 0 0) 0),(6,.own 22 v),(7,.own 25 v7),(8,.own 27 v8),(9,.own 32 (vs7 4 0)),(10,besA v41 b),(11,iv i)],
            L .gone [(2,.box (vs0 0 0) [iv n,.ro none 1 (rwn next)]),(22,.row v 1 true (ints (wghL n next))),(25,.row v7 1 true (ints (keyL Lv))),(27,.row v8 1 true (rwp ps)),(32,.row (vs7 4 0) 1 true (bls (tabB seen (2 ^ n.toNat)))),(41,.row v41 1 true []),(84,.gone),(1084,.gone),(5000,.gone),(5001,.gone),(901,.gone)]⟩)
            (0,none) ⟨Nat.zero_le _,rfl,fun u w h=>by cases h⟩ (by simp only [Bzh,besA,yz2,yz1,go_sem,yz0,xx9,xx8,xx6,xx7,xx5,xx0,xx1,xx2,reduceIte,xx3,xx4,reduceCtorEq];try rfl) ?_
          rintro ⟨i,b⟩ ⟨hi,hbs,hbn⟩
          have hi:i≤Lv.length:=hi
          have hbs:b.map (·.2)=bestL (hvB n next set) (Lv.take i):=hbs
          have hbn:∀ u w,b=some (u,w)→w≠[]:=hbn
          have hpl:ps.length=Lv.length:=by have:=congrArg List.length hI.ps;simpa using this
          generalize hR2:loopQ _ _=R2
          by_cases hlt:(i:Int)<Lv.length
          · have hlt1:i<Lv.length:=by omega
            obtain ⟨g,w,hg⟩:∃ g w,Lv[i]=(g,w):=⟨_,_,rfl⟩
            have hgw:(g,w)∈Lv:=hg ▸ List.getElem_mem hlt1
            have hgk:g<2 ^ n.toNat:=hI.key _ hgw
            have hg1:g<1024:=by omega
            have htk:Lv.take (i+1)=Lv.take i ++ [(g,w)]:=by rw [List.take_succ_eq_append_getElem hlt1,hg]
            have hk1:i<(keyL Lv).length:=by rw [hkl];exact hlt1
            have hk2:(keyL Lv).getD i 0=(g:Int):=by
              rw [List.getD_eq_getElem?_getD,List.getElem?_map,List.getElem?_eq_getElem hlt1,hg];rfl
            have hp1:i<ps.length:=by omega
            have hp2:(ps.getD i (0,[])).2=w:=by
              have this:(ps.map (·.2)).getD i []=(wrdL Lv).getD i []:=by rw [hI.ps]
              rw [List.getD_eq_getElem?_getD,List.getD_eq_getElem?_getD,List.getElem?_map,List.getElem?_map,List.getElem?_eq_getElem hlt1,List.getElem?_eq_getElem hp1,hg] at this
              rw [List.getD_eq_getElem?_getD,List.getElem?_eq_getElem hp1];exact this
            have hpg:=rwp_getD hp1
            rw [hp2] at hpg
            generalize (ps.getD i (0,[])).1=u at hpg
            have hbb:∀ s∈bitsTo g 10,0≤s∧s<n:=fun s hs=>by
              obtain ⟨q1,q2,q3⟩:=mem_bitsTo.1 hs
              by_cases e:s.toNat<n.toNat
              · omega
              · have:=Nat.testBit_lt_two_pow (Nat.lt_of_lt_of_le hgk (Nat.pow_le_pow_right (n:=2) (by omega) (show n.toNat≤s.toNat by omega)))
                rw [q3] at this;cases this
            have wi:IntKind.i64.wrap ((i:Int)+1)=((i+1:Nat):Int):=by rw [w64 (by omega)];simp
            have hbl:=bestL_snoc (hv:=hvB n next set) (L:=Lv.take i) (p:=(g,w))
            rw [← htk] at hbl
            simp only [hkl,decide_eq_true hlt,Bzh,Bz1k,Bzbn,yz3 hk1,hk2,yz2,yz1,go_sem,yz0,xx9,xx8,xx6,xx7,xx5,xx0,xx1,xx2,reduceIte,xx3,xx4,reduceCtorEq]
            intro vs12 U12 hN12 hM12 vs13 U13 hN13
            refine ⟨⟨by omega,hlt1⟩,hlt1,?_⟩
            refine call_rowI (k_l02Set g hg1) qCS rfl ⟨_,rfl⟩ ?_
            rintro ys v53 rfl
            simp only [yz2,yz1,go_sem,yz0,xx9,xx8,xx6,xx7,xx5,xx0,xx1,xx2,reduceIte,xx3,xx4,reduceCtorEq]
            refine yz4 (k_l03Heavy (wghL n next) (bitsTo g 10) hw1 (fun s hs=>by have:=hbb s hs;rw [wghL_len];omega) (Nat.le_trans bitsTo_len (by omega))) qCS trivial ?_
            simp only [yz2,yz1,go_sem,yz0,xx9,xx8,xx6,xx7,xx5,xx0,xx1,xx2,reduceIte,xx3,xx4,reduceCtorEq]
            refine yz4 (k_l03Heavy (wghL n next) set hw1 (fun s hs=>by have:=hz.1 s hs;rw [wghL_len];omega) hz.2) qCS trivial ?_
            have hh:decide (hvy (wghL n next) (bitsTo g 10) > hvy (wghL n next) set)=hvB n next set g:=rfl
            cases hv:hvB n next set g with
            | false =>
              have hh2:decide (hvy (wghL n next) set<hvy (wghL n next) (bitsTo g 10))=false:=hh.trans hv
              rw [if_neg (by rw [hv];simp)] at hbl
              simp only [hh2,Bz9,Bza,wi,yz2,yz1,go_sem,yz0,xx9,xx8,xx6,xx7,xx5,xx0,xx1,xx2,reduceIte,xx3,xx4,reduceCtorEq]
              intros
              rw [← hR2]
              exact ⟨(i+1,b),by show Lv.length - (i+1)<Lv.length - i;omega,⟨by show i+1≤_;omega,by rw [hbl];exact hbs,hbn⟩,rfl⟩
            | true =>
              have hh2:decide (hvy (wghL n next) set<hvy (wghL n next) (bitsTo g 10))=true:=hh.trans hv
              rw [if_pos hv,← hbs] at hbl
              have hwn:w≠[]:=hI.hv _ hgw hv
              cases b with
              | none =>
                have e0:((((0:Nat):Int)) == 0)=true:=rfl
                simp only [hh2,besA,e0,hpg,Bz9,Bza,wi,List.length_nil,yz2,yz1,go_sem,yz0,xx9,xx8,xx6,xx7,xx5,xx0,xx1,xx2,reduceIte,xx3,xx4,reduceCtorEq]
                intro hM13 vs14 U14 hN14
                refine ⟨⟨by omega,by rw [rwp_len];omega⟩,by rw [rwp_len];omega,?_⟩
                intros
                rw [← hR2]
                exact ⟨(i+1,some (u,w)),by show Lv.length - (i+1)<Lv.length - i;omega,⟨by show i+1≤_;omega,by rw [hbl];rfl,fun u' w' e=>by cases e;exact hwn⟩,rfl⟩
              | some b =>
                obtain ⟨u2,w2⟩:=b
                have hw2:w2≠[]:=hbn u2 w2 rfl
                have hw3:0<w2.length:=List.length_pos_iff.2 hw2
                have e0:(((w2.length:Nat):Int) == 0)=false:=by rw [beq_eq_false_iff_ne];omega
                simp only [hh2,besA,e0,hpg,Bz9,Bza,wi,List.length_nil,yz2,yz1,go_sem,yz0,xx9,xx8,xx6,xx7,xx5,xx0,xx1,xx2,reduceIte,xx3,xx4,reduceCtorEq]
                intro hM13
                refine ⟨⟨by omega,by rw [rwp_len];omega⟩,by rw [rwp_len];omega,?_⟩
                refine yz4 (k_l03Before w w2) qCS trivial ?_
                by_cases hc:cmpL w w2<0
                · have hst:stepW (some w2) w=some w:=by simp only [stepW];rw [if_pos hc]
                  simp only [decide_eq_true hc,hpg,Bz9,Bza,wi,yz2,yz1,go_sem,yz0,xx9,xx8,xx6,xx7,xx5,xx0,xx1,xx2,reduceIte,xx3,xx4,reduceCtorEq]
                  intro vs14 U14 hN14
                  refine ⟨⟨by omega,by rw [rwp_len];omega⟩,by rw [rwp_len];omega,?_⟩
                  intros
                  rw [← hR2]
                  exact ⟨(i+1,some (u,w)),by show Lv.length - (i+1)<Lv.length - i;omega,⟨by show i+1≤_;omega,by rw [hbl];exact hst.symm,fun u' w' e=>by cases e;exact hwn⟩,rfl⟩
                · have hst:stepW (some w2) w=some w2:=by simp only [stepW];rw [if_neg hc]
                  simp only [decide_eq_false hc,hpg,Bz9,Bza,wi,yz2,yz1,go_sem,yz0,xx9,xx8,xx6,xx7,xx5,xx0,xx1,xx2,reduceIte,xx3,xx4,reduceCtorEq]
                  intros
                  rw [← hR2]
                  exact ⟨(i+1,some (u2,w2)),by show Lv.length - (i+1)<Lv.length - i;omega,⟨by show i+1≤_;omega,by rw [hbl];exact hst.symm,hbn⟩,rfl⟩
          · obtain rfl:i=Lv.length:=by omega
            rw [List.take_length] at hbs
            cases b with
            | none =>
              have hbs:none=bestL (hvB n next set) Lv:=hbs
              have e0:decide ((0:Int)<((0:Nat):Int))=false:=by decide
              simp only [hkl,decide_eq_false hlt,← hR2,besA,e0,Bzh,Bz1k,Bz6d,Bz6b,Bz6c,List.length_nil,yz2,yz1,wpD_gh,go_sem,yz0,xx9,xx8,xx6,xx7,xx5,xx0,xx1,xx2,reduceIte,xx3,xx4,reduceCtorEq]
              intro vs15 U15 hN15 hM15 vs16 U16 hN16 hM16 hD
              refine ⟨[],?_⟩
              simp only [gwp_nil,yz2,yz1,wpD_gh,go_sem,yz0,xx9,xx8,xx6,xx7,xx5,xx0,xx1,xx2,reduceIte,xx3,xx4,reduceCtorEq]
              intro vs17 U17 hN17
              refine call_deep (r:=32) A (fun p hp=>by have:=hI.key p hp;omega) hLl (fun p hp=>by have:=hI.len p hp;omega) rfl (by rw [← hI.ps];simp only [coeL_rwp_t,rowIs,boxIs,coe_argN,coe_argNs,coe_ro_o,coeL_nil,yz8,coe_any,coe_val,coe_ro,coe_ro_nil,coe_ro_own,coe_st,coe_st_agg,coe_rp,coe_rp_ptr,coe_clo,coe_own0,coe_ptr0,coeL_intsK,coeL_rws,coeL_rwn,L_hit,L_miss,L_nil,xx3,ne_eq,reduceCtorEq,not_false_eq_true,true_and,and_true,and_self,exists_eq_left,exists_eq_right,List.mem_cons,List.not_mem_nil,or_false,AObj.row.injEq,AObj.box.injEq,exists_eq_left',exists_and_left,exists_eq,Nat.zero_lt_one,Nat.lt_add_one,List.map_cons,List.map_nil,AObj.ver,xx5,not_true_eq_false]) rfl rfl ?_
              intro v' w' ps' hps'
              obtain ⟨hI2,hlt2⟩:=hI.next hne hbs.symm hps'
              simp only [← hR,yz2,yz1,go_sem,yz0,xx9,xx8,xx6,xx7,xx5,xx0,xx1,xx2,reduceIte,xx3,xx4,reduceCtorEq]
              refine ⟨f - 1,hlt2,fun u u'=>⟨(u,u',f - 1,_,_,ps'),rfl,hI2,?_⟩⟩
              simp only [mvL_rwp,mvL_bls,yz2,yz1,go_sem,yz0,xx9,xx8,xx6,xx7,xx5,xx0,xx1,xx2,reduceIte,xx3,xx4,reduceCtorEq]
              rfl
            | some b =>
              obtain ⟨u2,w2⟩:=b
              have hbs:some w2=bestL (hvB n next set) Lv:=hbs
              have hw2:w2≠[]:=hbn u2 w2 rfl
              have hw3:0<w2.length:=List.length_pos_iff.2 hw2
              have e0:decide ((0:Int)<((w2.length:Nat):Int))=true:=decide_eq_true (by omega)
              simp only [hkl,decide_eq_false hlt,← hR2,besA,e0,Bzh,Bz1k,Bz6d,Bz6b,Bz6c,List.length_nil,yz2,yz1,wpD_gh,go_sem,yz0,xx9,xx8,xx6,xx7,xx5,xx0,xx1,xx2,reduceIte,xx3,xx4,reduceCtorEq]
              intro vs15 U15 hN15 hM15 vs16 U16 hN16 hM16 hD
              refine ⟨[.tw 10 901],gwp_tw (n:=u2) rfl (by simpa using hw2) rfl fun m1=>?_⟩
              have hex:extR (bkA n next) next.length (hvB n next set) f seen Lv=some w2:=by
                have h1:=hI.free hne
                obtain ⟨f',rfl⟩:∃ f',f=f'+1:=⟨f - 1,by omega⟩
                cases Lv with
                | nil=>exact absurd rfl hne
                | cons p Lv=>simp only [extR,← hbs]
              have hcx:codeX n next set=0:=by unfold codeX;rw [if_pos h4,← hI.val,hex];rfl
              have hwx:wordX n next set=w2:=by unfold wordX;rw [if_pos h4,← hI.val,hex];rfl
              simp only [← hR,woT,woO,woL_cons,woL_nil,woV_val,woV_own,wo_ptr,wo_o,woL_ints,wo_st,woO_row,woO_box,woO_gone,wo_any,gwp_nil,yz2,yz1,wpD_gh,go_sem,yz0,xx9,xx8,xx6,xx7,xx5,xx0,xx1,xx2,reduceIte,xx3,xx4,reduceCtorEq]
              intro vs17 U17 hN17
              simp only [← hQ,Az4,hcx,hwx,yz2,yz1,wpD_gh,go_sem,yz0,xx9,xx8,xx6,xx7,xx5,xx0,xx1,xx2,reduceIte,xx3,xx4,reduceCtorEq]
              refine ⟨[901],by simp,by simp,by simp,?_⟩
              simp only [range1,List.length_singleton,Nat.not_lt_zero,range1,ren_val,ren_any,ren_ro,rnNm_n,rnNm_sn,rnNm_o,rnNm_s,ren_st,ren_tup,renL_nil,renL_cons,yz9,renL_rws,renL_rwn,oren_box,oren_row,oren_map,yzf,yzh,yzk,yzi,ren_mp_e0,ren_mp_e1,yza,yzc,yzj,yzg,ren_mp_r0,ren_mp_r1,List.range_zero,yzd,yzb,yze,gone_nil,gone_one,gone_two,AVal.fresh,freshL,yz7,fresh_rws,AObj.fresh,id,Option.isSome_some,or_true,true_or,go_sem,yz0,xx9,xx8,xx6,xx7,xx5,xx0,xx1,xx2,reduceIte,xx3,xx4,reduceCtorEq]
              exact ⟨_,rfl,rfl⟩
end Go.Ab
namespace Go.Ab
open Go Go.Proofs
structure IxI (n:Int) (next:List (List Int)) (set:List Int) (f:Nat) (seen:Nat→Bool) (L Lv W pw:List (Nat×List Int)):Prop where
  ex:ExI n next set f seen L (L.map fun p=>(0,p.2))
  no:bestL (hvB n next set) L=none
  perm:Lv.Perm L
  len:∃ d,∀ p∈Lv,p.2.length=d
  pw:pw.map (·.2)=wrdL W
  nd:(W.map (·.1)).Nodup
  see:∀ k,k∈W.map (·.1)↔seen k=true
  key:∀ p∈W,p.1<2 ^ n.toNat
  sub:∀ p∈Lv,p∈W
theorem IxI.begin {n:Int} {next:List (List Int)} {set:List Int} (v:Nat) (n2:n≤10) (hw:setB n set=true):IxI n next set 1026 (fun k=>k == maskN set) [(maskN set,[])] [(maskN set,[])] [(maskN set,[])] [(v,[])]:=by
  have hb:=set_bitsX n2 hw
  have hE:=ExI.begin (n:=n) (next:=next) (set:=set) 0 n2 hw
  refine ⟨hE,?_,.refl _,⟨0,fun p hp=>by obtain rfl:=List.mem_singleton.1 hp;rfl⟩,rfl,by simp,fun k=>by simp,hE.key,fun p hp=>hp⟩
  have:hvB n next set (maskN set)=false:=by
    cases h:hvB n next set (maskN set) with
    | false=>rfl
    | true=>exact absurd rfl (hE.hv (maskN set,[]) (List.mem_singleton.2 rfl) h)
  unfold bestL
  rw [show [(maskN set,([]:List Int))].filter (fun p=>hvB n next set p.1)=[] by simp [this]]
  rfl
theorem candL_perm {bk:Nat→Nat→Nat} {K:Nat} {L L':List (Nat×List Int)} (h:L.Perm L') (q:Nat×List Int):q∈candL bk K L↔q∈candL bk K L':=by
  rw [candL_mem,candL_mem]
  constructor
  · rintro ⟨p,hp,h2⟩;exact ⟨p,h.mem_iff.1 hp,h2⟩
  · rintro ⟨p,hp,h2⟩;exact ⟨p,h.mem_iff.2 hp,h2⟩
theorem IxI.next {n:Int} {next:List (List Int)} {set:List Int} {f:Nat} {seen:Nat→Bool} {L Lv W pw A A' pA:List (Nat×List Int)} (h:IxI n next set f seen L Lv W pw) (hne:Lv≠[])
    (hm:MinA seen (candL (bkA n next) next.length Lv) A) (hb:bestL (hvB n next set) A=none) (hp:A'.Perm A) (hps:pA.map (·.2)=wrdL A') :
    IxI n next set (f - 1) (seeL seen (nextL (bkA n next) next.length seen L)) (nextL (bkA n next) next.length seen L) A' (W ++ A') (pw ++ pA)∧f - 1<f:=by
  have hneL:L≠[]:=fun e=>hne (by have:=h.perm;rw [e] at this;exact List.Perm.eq_nil this)
  have hM:=nextL_min (bk:=bkA n next) (K:=next.length) (seen:=seen) (L:=L)
  have hpn:A.Perm (nextL (bkA n next) next.length seen L):=hm.perm hM (candL_perm h.perm)
  obtain ⟨hE,hlt⟩:=h.ex.next hneL h.no (ps':=(nextL (bkA n next) next.length seen L).map fun p=>(0,p.2)) (by rw [List.map_map];rfl)
  have hA':A'.Perm (nextL (bkA n next) next.length seen L):=hp.trans hpn
  refine ⟨⟨hE,by rw [← bestL_perm hpn];exact hb,hA',?_,by rw [List.map_append,h.pw,hps,← List.map_append],?_,fun k=>?_,fun p hp2=>?_,fun p hp2=>List.mem_append_right _ hp2⟩,hlt⟩
  · obtain ⟨d,hd⟩:=h.len
    refine ⟨d+1,fun p hp2=>?_⟩
    obtain ⟨h1,_,_⟩:=hm.sub p (hp.mem_iff.1 hp2)
    obtain ⟨q,hq,x,hx,rfl⟩:=candL_mem.1 h1
    show q.2.length+1=_
    rw [hd q hq]
  · rw [List.map_append]
    refine List.nodup_append.2 ⟨h.nd,(hp.map (·.1)).nodup_iff.2 hm.nd,fun a ha b hb2 e=>?_⟩
    subst e
    obtain ⟨p,hp2,rfl⟩:=List.mem_map.1 hb2
    have h1:=(h.see p.1).1 ha
    have h2:=(hm.sub p (hp.mem_iff.1 hp2)).2.1
    rw [h1] at h2;cases h2
  · unfold seeL
    rw [List.map_append,List.mem_append,h.see,Bool.or_eq_true,List.contains_iff_mem,(hA'.map (·.1)).mem_iff]
  · rcases List.mem_append.1 hp2 with h1 | h1
    · exact h.key p h1
    · exact hE.key p (hA'.mem_iff.1 h1)
theorem IxI.found {n:Int} {next:List (List Int)} {set:List Int} {f:Nat} {seen:Nat→Bool} {L Lv W pw A:List (Nat×List Int)} {w:List Int} (h:IxI n next set f seen L Lv W pw) (hne:Lv≠[])
    (hm:MinA seen (candL (bkA n next) next.length Lv) A) (hb:bestL (hvB n next set) A=some w):extV n next set=some w:=by
  have hneL:L≠[]:=fun e=>hne (by have:=h.perm;rw [e] at this;exact List.Perm.eq_nil this)
  have hM:=nextL_min (bk:=bkA n next) (K:=next.length) (seen:=seen) (L:=L)
  have hpn:A.Perm (nextL (bkA n next) next.length seen L):=hm.perm hM (candL_perm h.perm)
  obtain ⟨hE,hlt⟩:=h.ex.next hneL h.no (ps':=(nextL (bkA n next) next.length seen L).map fun p=>(0,p.2)) (by rw [List.map_map];rfl)
  rw [bestL_perm hpn] at hb
  rw [← hE.val]
  have hn2:nextL (bkA n next) next.length seen L≠[]:=fun e=>by rw [e] at hb;cases hb
  have hf:=hE.free hn2
  obtain ⟨f',hf'⟩:∃ f',f - 1=f'+1:=⟨f - 2,by omega⟩
  rw [hf']
  generalize nextL (bkA n next) next.length seen L=N at hb hn2
  cases N with
  | nil=>exact absurd rfl hn2
  | cons p N=>simp only [extR,hb]
theorem IxI.done {n:Int} {next:List (List Int)} {set:List Int} {f:Nat} {seen:Nat→Bool} {L W pw:List (Nat×List Int)} (h:IxI n next set f seen L [] W pw):extV n next set=none:=by
  have hL:L=[]:=List.Perm.nil_eq h.perm |>.symm
  rw [← h.ex.val,hL]
  cases f <;> rfl
theorem wpD_lm1 {P:Program} {Q:AEx→St→Prop} {σ:St} {a:AC} {α:Type} {ts hs:List Nat} {p q:Nat} (m:α→Nat) (inv:α→Prop) (S:α→St) (x0:α) (h0:inv x0) (hS:∀ u,(σ.mv p q u).keep ts hs=S x0)
    (h:∀ x,inv x→wpD P a (loopQ (fun σ'=>∃ k,k<m x∧∀ u,∃ y,m y=k∧inv y∧(σ'.mv p q u).keep ts hs=S y) Q) (S x)):wpD P (.loop (.mv p q (.kp ts hs a))) Q σ:=by
  refine ⟨fun n σ=>∀ u,∃ x,m x=n∧inv x∧(σ.mv p q u).keep ts hs=S x,⟨m x0,fun u=>⟨x0,rfl,h0,hS u⟩⟩,?_⟩
  intro n σ' hI u
  obtain ⟨x,rfl,hx,hS⟩:=hI u
  show wpD P a _ ((σ'.mv p q u).keep ts hs)
  rw [hS]
  refine wpD_mono _ _ _ _ (fun e σ'' he=>?_) (h x hx)
  cases e with
  | normal =>
    obtain ⟨k,h1,h2⟩:=he
    exact ⟨k,h1,h2⟩
  | exit i=>exact he
  | ret=>exact he
def keysR (R:List (Nat×Nat×List Int)):List Value:=R.map fun t=>.int .u64 (t.1:Int)
def tW (R:List (Nat×Nat×List Int)):List (Nat×List Int):=R.map fun t=>(t.1,t.2.2)
def tP (R:List (Nat×Nat×List Int)):List (Nat×List Int):=R.map (·.2)
theorem itT_R1 {cur:Option (Nat×Nat×List Int)} {rem:List (Nat×Nat×List Int)}:itT cur.isSome (keysR (cur.toList ++ rem))=keysR rem:=by cases cur <;> rfl
theorem itT_R2 {cur:Option (Nat×Nat×List Int)} {rem:List (Nat×Nat×List Int)}:itT cur.isSome (rwp (tP (cur.toList ++ rem)))=rwp (tP rem):=by cases cur <;> rfl
theorem erase_mapX {α β:Type} {f:α→β}:∀ {l:List α} {j:Nat},(l.map f).eraseIdx j=(l.eraseIdx j).map f
  | [],j=>by simp
  | a :: l,0=>by simp
  | a :: l,j+1=>by simp only [List.map_cons,List.eraseIdx_cons_succ,erase_mapX (l:=l)]
theorem erase_permX {α:Type} {a:α}:∀ {l:List α} {j:Nat},l[j]?=some a→(a :: l.eraseIdx j).Perm l
  | [],j,h=>by simp at h
  | b :: l,0,h=>by
    simp only [List.getElem?_cons_zero,Option.some.injEq] at h
    subst h
    exact .refl _
  | b :: l,j+1,h=>by
    rw [List.getElem?_cons_succ] at h
    rw [List.eraseIdx_cons_succ]
    exact (List.Perm.swap b a _).trans ((erase_permX h).cons b)
theorem erase_keysR {R:List (Nat×Nat×List Int)} {j:Nat}:(keysR R).eraseIdx j=keysR (R.eraseIdx j):=by unfold keysR;rw [erase_mapX]
theorem erase_rwpR {R:List (Nat×Nat×List Int)} {j:Nat}:(rwp (tP R)).eraseIdx j=rwp (tP (R.eraseIdx j)):=by unfold rwp tP;rw [erase_mapX,erase_mapX]
theorem getR {R:List (Nat×Nat×List Int)} {j:Nat} {k:Value} {A:AVal} (h1:(keysR R)[j]?=some k) (h2:(rwp (tP R))[j]?=some A):∃ t,R[j]?=some t∧k=.int .u64 (t.1:Int)∧A=.ro (some (some (t.2.1+1))) 1 (ints t.2.2):=by
  unfold keysR at h1
  unfold rwp tP at h2
  rw [List.getElem?_map] at h1
  rw [List.getElem?_map,List.getElem?_map] at h2
  cases h:R[j]? with
  | none=>rw [h] at h1;cases h1
  | some t =>
    rw [h] at h1 h2
    simp only [Option.map_some,Option.some.injEq] at h1 h2
    exact ⟨t,rfl,h1.symm,h2.symm⟩
theorem tW_zip {A pa:List (Nat×List Int)} (h:pa.map (·.2)=wrdL A):tW ((A.map (·.1)).zip pa)=A∧tP ((A.map (·.1)).zip pa)=pa∧keysR ((A.map (·.1)).zip pa)=keysF A:=by
  have hl:pa.length=A.length:=by have:=congrArg List.length h;simpa using this
  refine ⟨?_,?_,?_⟩
  · refine List.ext_getElem (by simp [tW,hl]) fun i h1 h2=>?_
    have h3:(pa.map (·.2))[i]'(by rw [List.length_map,hl];exact h2)=(wrdL A)[i]'(by rw [List.length_map];exact h2):=by simp only [h]
    rw [List.getElem_map,List.getElem_map] at h3
    simp only [tW,List.getElem_map,List.getElem_zip,h3]
  · refine List.ext_getElem (by simp [tP,hl]) fun i h1 h2=>?_
    simp only [tP,List.getElem_map,List.getElem_zip]
  · refine List.ext_getElem (by simp [keysR,keysF,hl]) fun i h1 h2=>?_
    simp only [keysR,keysF,List.getElem_map,List.getElem_zip]
theorem keysR_nil {R:List (Nat×Nat×List Int)} (h:keysR R=[]):R=[]:=List.map_eq_nil_iff.1 h
theorem frNm_tX {n ver:Nat}:frNm true n ver=some (some (ver+1)):=rfl
theorem preA_setX {n:Int} {next:List (List Int)} {set w:List Int}:setB n (preA next set w n.toNat)=true:=by
  rw [setB_iff]
  refine ⟨?_,fun x hx=>by have:=(preA_mem.1 hx).1;omega⟩
  unfold SI preA
  refine List.Pairwise.filter _ ?_
  rw [List.pairwise_map]
  exact List.pairwise_lt_range.imp fun h=>by omega
structure InI (n:Int) (next:List (List Int)) (set:List Int) (seen:Nat→Bool) (d:Nat) (cs A pa:List (Nat×List Int)) (b:Option (Nat×List Int)):Prop where
  mn:MinA seen cs A
  pa:pa.map (·.2)=wrdL A
  is:IsL (fun w=>∃ p∈cs,seen p.1=false∧hvB n next set p.1=true∧p.2=w) (b.map (·.2))
  ln:∀ p∈cs,p.2.length=d+1
theorem InI.begin {n:Int} {next:List (List Int)} {set:List Int} {seen:Nat→Bool} {d:Nat}:InI n next set seen d [] [] [] none:=⟨minA_nil,rfl,fun w ⟨p,hp,_⟩=>(by cases hp),fun p hp=>(by cases hp)⟩
theorem InI.skip {n:Int} {next:List (List Int)} {set:List Int} {seen:Nat→Bool} {d:Nat} {cs A pa:List (Nat×List Int)} {b:Option (Nat×List Int)} (h:InI n next set seen d cs A pa b) {c:Nat×List Int}
    (hs:seen c.1=true) (hl:c.2.length=d+1):InI n next set seen d (cs ++ [c]) A pa b:=by
  have hm:=h.mn.step c
  rw [insA_seen hs] at hm
  refine ⟨hm,h.pa,h.is.congr fun w=>⟨fun ⟨p,hp,h2⟩=>⟨p,List.mem_append_left _ hp,h2⟩,fun ⟨p,hp,h2,h3⟩=>?_⟩,fun p hp=>?_⟩
  · rcases List.mem_append.1 hp with hp | hp
    · exact ⟨p,hp,h2,h3⟩
    · obtain rfl:=List.mem_singleton.1 hp
      rw [hs] at h2;cases h2
  · rcases List.mem_append.1 hp with hp | hp
    · exact h.ln p hp
    · obtain rfl:=List.mem_singleton.1 hp;exact hl
theorem InI.ins {n:Int} {next:List (List Int)} {set:List Int} {seen:Nat→Bool} {d:Nat} {cs A pa pa':List (Nat×List Int)} {b b':Option (Nat×List Int)} (h:InI n next set seen d cs A pa b) {c:Nat×List Int}
    (hs:seen c.1=false) (hl:c.2.length=d+1) (hp:pa'.map (·.2)=wrdL (insA seen A c)) (hb:b'.map (·.2)=if hvB n next set c.1=true then stepW (b.map (·.2)) c.2 else b.map (·.2)):InI n next set seen d (cs ++ [c]) (insA seen A c) pa' b':=by
  refine ⟨h.mn.step c,hp,?_,fun p hp=>?_⟩
  · rw [hb]
    by_cases hv:hvB n next set c.1=true
    · rw [if_pos hv]
      refine (h.is.step (w:=c.2)).congr fun w=>⟨?_,?_⟩
      · rintro (⟨p,hp,h2⟩ | rfl)
        · exact ⟨p,List.mem_append_left _ hp,h2⟩
        · exact ⟨c,List.mem_append_right _ (List.mem_singleton.2 rfl),hs,hv,rfl⟩
      · rintro ⟨p,hp,h2,h3,h4⟩
        rcases List.mem_append.1 hp with hp | hp
        · exact .inl ⟨p,hp,h2,h3,h4⟩
        · obtain rfl:=List.mem_singleton.1 hp;exact .inr h4.symm
    · rw [if_neg hv]
      refine h.is.congr fun w=>⟨fun ⟨p,hp,h2⟩=>⟨p,List.mem_append_left _ hp,h2⟩,fun ⟨p,hp,h2,h3,h4⟩=>?_⟩
      rcases List.mem_append.1 hp with hp | hp
      · exact ⟨p,hp,h2,h3,h4⟩
      · obtain rfl:=List.mem_singleton.1 hp
        exact absurd h3 hv
  · rcases List.mem_append.1 hp with hp | hp
    · exact h.ln p hp
    · obtain rfl:=List.mem_singleton.1 hp;exact hl
theorem hasT_see {W:List (Nat×List Int)} {seen:Nat→Bool} (h:∀ k,k∈W.map (·.1)↔seen k=true) (k:Nat):hasT W k=seen k:=by
  rw [Bool.eq_iff_iff,← h k]
  unfold hasT
  rw [List.any_eq_true,List.mem_map]
  constructor
  · rintro ⟨p,hp,h2⟩;exact ⟨p,hp,Nat.eq_of_beq_eq_true h2⟩
  · rintro ⟨p,hp,h2⟩;exact ⟨p,hp,by rw [h2];exact Nat.beq_refl k⟩
def besB:Option (Nat×List Int)→AVal
  | none=>nilS
  | some (u,w)=>.ro (some (some (u+1))) 1 (ints w)
theorem k_ExtendWord (n:Int) (next:List (List Int)) (set:List Int):RowT Try.prog nzf [autA n next,.ro none 1 (ints set)] (decide (codeX n next set=0)) (wordX n next set) (codeX n next set):=by
  refine con_of mixed cznb rfl (by simp) ?_
  generalize hQ:finQ _=Q
  simp only [Azi,Bzcr,yz2,yz1,go_sem,yz0,xx9,xx8,xx6,xx7,xx5,xx0,xx1,xx2,reduceIte,xx3,xx4,reduceCtorEq]
  intro vs0 U0 hN0 vs1 U1 hN1
  refine yz4 (k_weightCode n next set) qCS trivial ?_
  by_cases h0:codeW n next set=0
  · obtain ⟨hv,hw,hb⟩:=codeW_ok.1 h0
    have A:=autB_iff.1 hv
    have n1:=A.n1
    have n2:=A.n2
    have l2:=A.l2
    have hML:=maxLen_le
    have hw1:=wghL_rg A hb
    have hz:=set_le n2 hw
    have Z:=setB_iff.1 hw
    have hm10:∀ s∈set,0≤s∧s<10:=fun s hs=>by have:=Z.2 s hs;omega
    have e00:((0:Int) != 0)=false:=rfl
    simp only [h0,e00,Bz6f,Bz6e,Bzcq,yz2,yz1,go_sem,yz0,xx9,xx8,xx6,xx7,xx5,xx0,xx1,xx2,reduceIte,xx3,xx4,reduceCtorEq]
    intro vs2 U2 hN2 vs3 U3 hN3
    refine call_rowI (k_weights n next A hb) qCS rfl ⟨_,rfl⟩ ?_
    rintro ys v rfl
    simp only [Bzcp,yz2,yz1,go_sem,yz0,xx9,xx8,xx6,xx7,xx5,xx0,xx1,xx2,reduceIte,xx3,xx4,reduceCtorEq]
    intro vs4 U4 hN4
    refine yz4 (k_weigh (wghL n next) set hw1 (fun s hs=>by have:=hz.1 s hs;rw [wghL_len];omega) hz.2) qCS trivial ?_
    simp only [Bzco,yz2,yz1,go_sem,yz0,xx9,xx8,xx6,xx7,xx5,xx0,xx1,xx2,reduceIte,xx3,xx4,reduceCtorEq]
    intro vs5 U5 hN5
    refine yz4 (k_flockOf set hm10) qCS trivial ?_
    have f0:∀ k:Value,findKeyAt k [] 0=some none:=fun _=>rfl
    simp only [f0,yz2,yz1,go_sem,yz0,xx9,xx8,xx6,xx7,xx5,xx0,xx1,xx2,reduceIte,xx3,xx4,reduceCtorEq]
    refine ⟨fun r v' e=>by cases e;exact ⟨_,_,_,rfl⟩,?_⟩
    simp only [Bzcn,yz2,yz1,go_sem,yz0,xx9,xx8,xx6,xx7,xx5,xx0,xx1,xx2,reduceIte,xx3,xx4,reduceCtorEq]
    intro vs6 U6 hN6
    refine yz4 (k_flockOf set hm10) qCS trivial ?_
    simp only [Bzcm,yz2,yz1,go_sem,yz0,xx9,xx8,xx6,xx7,xx5,xx0,xx1,xx2,reduceIte,xx3,xx4,reduceCtorEq]
    refine ⟨⟨_,rfl,rfl⟩,?_⟩
    refine wpD_lm1 (fun (_,f,_,_,_,_,_)=>f) (fun (_,f,seen,Ls,Lv,W,pw)=>IxI n next set f seen Ls Lv W pw)
      (fun ((v43,f,seen,Ls,Lv,W,pw):Nat×Nat×(Nat→Bool)×List (Nat×List Int)×List (Nat×List Int)×List (Nat×List Int)×List (Nat×List Int))=>⟨L .any [(2,.ptr 2 (vs0 0 0) 0),(7,.own 32 v),(8,iv (hvy (wghL n next) set)),(9,.mp 36 (vs5 0 0)),(10,.own 43 v43)],
        L .gone [(2,.box (vs0 0 0) [iv n,.ro none 1 (rwn next)]),(32,.row v 1 true (ints (wghL n next))),(36,.map (vs5 0 0) (keysF W) (rwp pw)),(39,.gone),(43,.row v43 1 true (intsK .u64 (setsI Lv))),(133,.gone),(5000,.gone),(5001,.gone),(901,.gone)]⟩)
      (_,1026,_,[(maskN set,[])],[(maskN set,[])],[(maskN set,[])],[(vs5 3 0,[])]) (IxI.begin (vs5 3 0) n2 hw) (fun u=>by simp only [Bz1p,keysF,List.map_cons,List.map_nil,rwp,mvL_rwp,yz2,yz1,go_sem,yz0,xx9,xx8,xx6,xx7,xx5,xx0,xx1,xx2,reduceIte,xx3,xx4,reduceCtorEq];rfl) ?_
    rintro ⟨v43,f,seen,Ls,Lv,W,pw⟩ hI
    have hI:IxI n next set f seen Ls Lv W pw:=hI
    generalize hR:loopQ _ _=R
    have hsl:(setsI Lv).length=Lv.length:=by simp
    by_cases hne:Lv=[]
    · subst hne
      have hex:=hI.done
      have hcx:codeX n next set=6:=by unfold codeX;rw [if_pos h0,hex];rfl
      have hwx:wordX n next set=[]:=by unfold wordX;rw [if_pos h0,hex];rfl
      have hd0:decide ((0:Int)<((0:Nat):Int))=false:=by decide
      simp only [← hR,hd0,Bz1p,Bz6g,List.map_nil,List.length_nil,yz2,yz1,go_sem,yz0,xx9,xx8,xx6,xx7,xx5,xx0,xx1,xx2,reduceIte,xx3,xx4,reduceCtorEq]
      intro vs9 U9 hN9 hM9
      simp only [← hQ,hcx,hwx,Azi,Bzcl,yz2,yz1,go_sem,yz0,xx9,xx8,xx6,xx7,xx5,xx0,xx1,xx2,reduceIte,xx3,xx4,reduceCtorEq]
      intro vs10 U10 hN10
      refine ⟨[],by simp,by simp,by simp,?_⟩
      simp only [range1,List.length_singleton,Nat.not_lt_zero,range1,ren_val,ren_any,ren_ro,rnNm_n,rnNm_sn,rnNm_o,rnNm_s,ren_st,ren_tup,renL_nil,renL_cons,yz9,renL_rws,renL_rwn,oren_box,oren_row,oren_map,yzf,yzh,yzk,yzi,ren_mp_e0,ren_mp_e1,yza,yzc,yzj,yzg,ren_mp_r0,ren_mp_r1,List.range_zero,yzd,yzb,yze,gone_nil,gone_one,gone_two,AVal.fresh,freshL,yz7,fresh_rws,AObj.fresh,id,Option.isSome_some,or_true,true_or,go_sem,yz0,xx9,xx8,xx6,xx7,xx5,xx0,xx1,xx2,reduceIte,xx3,xx4,reduceCtorEq]
      simp
    · have hl0:0<Lv.length:=List.length_pos_iff.2 hne
      have hgt:decide ((0:Int)<(Lv.length:Int))=true:=decide_eq_true (by omega)
      obtain ⟨d,hd⟩:=hI.len
      simp only [hsl,hgt,Bz1p,Bz6g,Bzck,yz2,yz1,go_sem,yz0,xx9,xx8,xx6,xx7,xx5,xx0,xx1,xx2,reduceIte,xx3,xx4,reduceCtorEq]
      intro vs9 U9 hN9 hM9 vs10 U10 hN10
      simp only [Bzcj,yz2,yz1,go_sem,yz0,xx9,xx8,xx6,xx7,xx5,xx0,xx1,xx2,reduceIte,xx3,xx4,reduceCtorEq]
      intro vs11 U11 hN11
      simp only [hsl,Bzci,Bzca,yz2,yz1,go_sem,yz0,xx9,xx8,xx6,xx7,xx5,xx0,xx1,xx2,reduceIte,xx3,xx4,reduceCtorEq]
      intro vs12 U12 hN12 hM12
      refine wpD_lp (fun (i,_,_,_)=>Lv.length - i) (fun (i,A,pa,b)=>i≤Lv.length∧InI n next set seen d (candL (bkA n next) next.length (Lv.take i)) A pa b)
        (fun ((i,A,pa,b):Nat×List (Nat×List Int)×List (Nat×List Int)×Option (Nat×List Int))=>⟨L .any [(2,.ptr 2 (vs0 0 0) 0),(7,.own 32 v),(8,iv (hvy (wghL n next) set)),(9,.mp 36 (vs5 0 0)),(10,.own 43 v43),(11,.mp 47 (vs10 0 0)),(12,besB b),(48,.own 43 v43),(49,iv Lv.length),(50,iv i)],
          L .gone [(2,.box (vs0 0 0) [iv n,.ro none 1 (rwn next)]),(32,.row v 1 true (ints (wghL n next))),(36,.map (vs5 0 0) (keysF W) (rwp pw)),(39,.gone),(43,.row v43 1 true (intsK .u64 (setsI Lv))),(47,.map (vs10 0 0) (keysF A) (rwp pa)),(68,.gone),(72,.gone),(133,.gone),(5000,.gone),(5001,.gone),(901,.gone)]⟩)
        (0,[],[],none) ⟨Nat.zero_le _,by simpa [candL] using InI.begin⟩ (by simp only [Bz1o,besB,keysF,List.map_nil,rwp_nil,yz2,yz1,go_sem,yz0,xx9,xx8,xx6,xx7,xx5,xx0,xx1,xx2,reduceIte,xx3,xx4,reduceCtorEq];try rfl) ?_
      rintro ⟨i,As,pa,b⟩ ⟨hi,hJ⟩
      have hi:i≤Lv.length:=hi
      have hJ:InI n next set seen d (candL (bkA n next) next.length (Lv.take i)) As pa b:=hJ
      generalize hR2:loopQ _ _=R2
      by_cases hlt:(i:Int)<Lv.length
      · have hlt1:i<Lv.length:=by omega
        obtain ⟨g,w,hg⟩:∃ g w,Lv[i]=(g,w):=⟨_,_,rfl⟩
        have hgw:(g,w)∈Lv:=hg ▸ List.getElem_mem hlt1
        have hgk:g<2 ^ n.toNat:=hI.key _ (hI.sub _ hgw)
        have hN:2 ^ n.toNat≤1024:=Nat.pow_le_pow_right (n:=2) (by omega) (show n.toNat≤10 by omega)
        have htk:Lv.take (i+1)=Lv.take i ++ [(g,w)]:=by rw [List.take_succ_eq_append_getElem hlt1,hg]
        have hk1:i<(setsI Lv).length:=by rw [hsl];exact hlt1
        have hk2:(setsI Lv).getD i 0=(g:Int):=by
          rw [List.getD_eq_getElem?_getD,List.getElem?_map,List.getElem?_eq_getElem hlt1,hg];rfl
        have wi:IntKind.i64.wrap ((i:Int)+1)=((i+1:Nat):Int):=by rw [w64 (by omega)];simp
        simp only [hsl,decide_eq_true hlt,Bz1o,Bz6m,Bzc9,yz3 hk1,hk2,yz2,yz1,go_sem,yz0,xx9,xx8,xx6,xx7,xx5,xx0,xx1,xx2,reduceIte,xx3,xx4,reduceCtorEq]
        intro vs13 U13 hN13 vs14 U14 hN14
        refine ⟨⟨by omega,hlt1⟩,hlt1,?_⟩
        simp only [Bzc7,yz2,yz1,go_sem,yz0,xx9,xx8,xx6,xx7,xx5,xx0,xx1,xx2,reduceIte,xx3,xx4,reduceCtorEq]
        intro vs15 U15 hN15
        refine yz4 (k_letters n next) qCS trivial ?_
        simp only [Bzc6,yz2,yz1,go_sem,yz0,xx9,xx8,xx6,xx7,xx5,xx0,xx1,xx2,reduceIte,xx3,xx4,reduceCtorEq]
        have hcs:∀ x:Nat,candL (bkA n next) next.length (Lv.take i) ++ (List.range (x+1)).map (fun (x:Nat)=>(bkA n next x g,(x:Int) :: w))=(candL (bkA n next) next.length (Lv.take i) ++ (List.range x).map (fun (x:Nat)=>(bkA n next x g,(x:Int) :: w))) ++ [(bkA n next x g,(x:Int) :: w)]:=fun x=>by
          rw [List.range_succ,List.map_append,List.append_assoc];rfl
        have hcK:candL (bkA n next) next.length (Lv.take (i+1))=candL (bkA n next) next.length (Lv.take i) ++ (List.range next.length).map (fun (x:Nat)=>(bkA n next x g,(x:Int) :: w)):=by
          rw [htk];simp [candL,List.flatMap_append]
        generalize candL (bkA n next) next.length (Lv.take i)=C0 at hJ hcs hcK
        refine wpD_lp (fun (x,_,_,_)=>next.length - x) (fun (x,A,pa,b)=>x≤next.length∧InI n next set seen d (C0 ++ (List.range x).map (fun (x:Nat)=>(bkA n next x g,(x:Int) :: w))) A pa b)
          (fun ((x,A,pa,b):Nat×List (Nat×List Int)×List (Nat×List Int)×Option (Nat×List Int))=>⟨L .any [(2,.ptr 2 (vs0 0 0) 0),(7,.own 32 v),(8,iv (hvy (wghL n next) set)),(9,.mp 36 (vs5 0 0)),(10,.own 43 v43),(11,.mp 47 (vs10 0 0)),(12,besB b),(14,fv g),(48,.own 43 v43),(49,iv Lv.length),(50,iv i),(55,iv next.length),(56,iv x)],
            L .gone [(2,.box (vs0 0 0) [iv n,.ro none 1 (rwn next)]),(32,.row v 1 true (ints (wghL n next))),(36,.map (vs5 0 0) (keysF W) (rwp pw)),(39,.gone),(43,.row v43 1 true (intsK .u64 (setsI Lv))),(47,.map (vs10 0 0) (keysF A) (rwp pa)),(68,.gone),(72,.gone),(133,.gone),(5000,.gone),(5001,.gone),(901,.gone)]⟩)
          (0,As,pa,b) ⟨Nat.zero_le _,by simpa using hJ⟩ (by simp only [Bz1n,yz2,yz1,go_sem,yz0,xx9,xx8,xx6,xx7,xx5,xx0,xx1,xx2,reduceIte,xx3,xx4,reduceCtorEq];try rfl) ?_
        clear hJ
        rintro ⟨x,As,pa,b⟩ ⟨hx,hJ⟩
        have hx:x≤next.length:=hx
        have hJ:InI n next set seen d (C0 ++ (List.range x).map (fun (x:Nat)=>(bkA n next x g,(x:Int) :: w))) As pa b:=hJ
        generalize hR3:loopQ _ _=R3
        by_cases hxl:(x:Int)<next.length
        · have hx1:x<next.length:=by omega
          have wx:IntKind.i64.wrap ((x:Int)+1)=((x+1:Nat):Int):=by rw [w64 (by omega)];simp
          have hwx:IsW next.length [(x:Int)]:=fun y hy=>by obtain rfl:=List.mem_singleton.1 hy;omega
          simp only [decide_eq_true hxl,Bz1n,Bz6l,Bzc5,Bzc4,yz2,yz1,go_sem,yz0,xx9,xx8,xx6,xx7,xx5,xx0,xx1,xx2,reduceIte,xx3,xx4,reduceCtorEq]
          intro vs16 U16 hN16 vs17 U17 hN17 vs18 U18 hN18
          refine call_rowI (k_flock_set g (by omega)) qCS rfl ⟨_,rfl⟩ ?_
          rintro ys v61 rfl
          simp only [yz2,yz1,go_sem,yz0,xx9,xx8,xx6,xx7,xx5,xx0,xx1,xx2,reduceIte,xx3,xx4,reduceCtorEq]
          refine ⟨⟨_,rfl,rfl⟩,?_⟩
          have hxc:[AVal.val (Value.int .i64 (x:Int))]=ints [(x:Int)]:=rfl
          rw [hxc]
          refine call_rowI (k_preimage n next (bitsTo g 10) [(x:Int)] A hwx) qCS rfl ⟨_,rfl⟩ ?_
          rintro ys v64 rfl
          simp only [Bzc3,yz2,yz1,go_sem,yz0,xx9,xx8,xx6,xx7,xx5,xx0,xx1,xx2,reduceIte,xx3,xx4,reduceCtorEq]
          intro vs19 U19 hN19
          have hpin:∀ s∈preA next (bitsTo g 10) [(x:Int)] n.toNat,0≤s∧s<10:=preA_in (by omega)
          refine yz4 (k_flockOf _ hpin) qCS trivial ?_
          have hto:maskN (preA next (bitsTo g 10) [(x:Int)] n.toNat)=bkA n next x g:=rfl
          obtain ⟨j,hj,hjg⟩:=List.getElem_of_mem (hI.sub _ hgw)
          have hWj:W.getD j (0,[])=(g,w):=by rw [List.getD_eq_getElem?_getD,List.getElem?_eq_getElem hj];exact hjg
          have hfk:=fkF_at (L:=W) j 0 hI.nd hj
          rw [hWj,Nat.zero_add] at hfk
          have hpwl:pw.length=W.length:=by have:=congrArg List.length hI.pw;simpa using this
          have hpj:(pw.getD j (0,[])).2=w:=by
            have this:(pw.map (·.2)).getD j []=(wrdL W).getD j []:=by rw [hI.pw]
            rw [List.getD_eq_getElem?_getD,List.getD_eq_getElem?_getD,List.getElem?_map,List.getElem?_map,List.getElem?_eq_getElem hj,List.getElem?_eq_getElem (by omega:j<pw.length),hjg] at this
            rw [List.getD_eq_getElem?_getD,List.getElem?_eq_getElem (by omega:j<pw.length)];exact this
          have hpg:=rwp_getD (ps:=pw) (i:=j) (by omega)
          rw [hpj] at hpg
          rw [hto]
          simp only [hfk,hpg,yz2,yz1,go_sem,yz0,xx9,xx8,xx6,xx7,xx5,xx0,xx1,xx2,reduceIte,xx3,xx4,reduceCtorEq]
          have hwl:w.length≤1024:=by have:=hI.ex.len _ (hI.perm.mem_iff.1 hgw);dsimp only at this;omega
          refine ⟨⟨_,rfl,rfl⟩,by omega,?_⟩
          have hwc:AVal.val (Value.int .i64 (x:Int)) :: ints w=ints ((x:Int) :: w):=rfl
          obtain ⟨w',hw'⟩:∃ w':List Int,w'=(x:Int) :: w:=⟨_,rfl⟩
          rw [hwc,← hw']
          generalize vs19 7 0=u
          simp only [Bzc2,yz2,yz1,wpD_gh,go_sem,yz0,xx9,xx8,xx6,xx7,xx5,xx0,xx1,xx2,reduceIte,xx3,xx4,reduceCtorEq]
          intro _
          refine ⟨[.tf 18 68],gwp_tf (k:=1) rfl rfl ?_⟩
          rw [frNm_tX]
          have hbl:bkA n next x g<2 ^ n.toNat:=bkA_ltn
          have hcx:=hcs x
          rw [← hw'] at hcx
          have hwl':w'.length=d+1:=by rw [hw',List.length_cons,hd _ hgw]
          have hsb:bitsTo (bkA n next x g) 10=preA next (bitsTo g 10) [(x:Int)] n.toNat:=by
            rw [← hto]
            exact (set_bitsX n2 preA_setX).2
          rw [← hsb]
          generalize bkA n next x g=to at hbl hcx hfk hsb ⊢
          have hto':∀ s∈bitsTo to 10,0≤s∧s<n:=fun s hs=>by
            rw [hsb] at hs
            have:=(preA_mem.1 hs).1;omega
          clear hsb
          generalize C0 ++ (List.range x).map (fun (x:Nat)=>(bkA n next x g,(x:Int) :: w))=Cx at hJ hcx
          simp only [gwp_nil,yz2,yz1,wpD_gh,go_sem,yz0,xx9,xx8,xx6,xx7,xx5,xx0,xx1,xx2,reduceIte,xx3,xx4,reduceCtorEq]
          intro vs20 U20 hN20
          have hhs:=hasT_see hI.see to
          cases hsn:seen to with
          | true =>
            rw [hsn] at hhs
            obtain ⟨j2,hj1,hj2⟩:=fkF_mem 0 hhs
            have hJ2:=hJ.skip (c:=(to,w')) hsn hwl'
            rw [← hcx] at hJ2
            simp only [hj1,Bz1m,Bz1l,Bz0,wx,yz2,yz1,go_sem,yz0,xx9,xx8,xx6,xx7,xx5,xx0,xx1,xx2,reduceIte,xx3,xx4,reduceCtorEq]
            intros
            rw [← hR3]
            exact ⟨(x+1,As,pa,b),by show next.length - (x+1)<next.length - x;omega,⟨by show x+1≤_;omega,hJ2⟩,rfl⟩
          | false =>
            rw [hsn] at hhs
            have hj1:=fkF_not 0 hhs
            have tail:∀ As' pa':List (Nat×List Int),insA seen As (to,w')=As'→pa'.map (·.2)=wrdL As'→∀ σ:St,σ.keep [2,7,8,9,10,11,12,14,16,18,48,49,50,55,56] [2,32,36,39,43,47,61,63,64,68,72,133,5000,5001,901] =
                ⟨L .any [(2,.ptr 2 (vs0 0 0) 0),(7,.own 32 v),(8,iv (hvy (wghL n next) set)),(9,.mp 36 (vs5 0 0)),(10,.own 43 v43),(11,.mp 47 (vs10 0 0)),(12,besB b),(14,fv g),(16,.own 64 v64),(18,.ro (some (some (u+1))) 1 (ints w')),(48,.own 43 v43),(49,iv Lv.length),(50,iv i),(55,iv next.length),(56,iv x)],
                  L .gone [(2,.box (vs0 0 0) [iv n,.ro none 1 (rwn next)]),(32,.row v 1 true (ints (wghL n next))),(36,.map (vs5 0 0) (keysF W) (rwp pw)),(39,.gone),(43,.row v43 1 true (intsK .u64 (setsI Lv))),(47,.map (vs10 0 0) (keysF As') (rwp pa')),(61,.row v61 1 true (ints (bitsTo g 10))),(63,.row (vs18 4 0) 1 true (ints [(x:Int)])),(64,.row v64 1 true (ints (bitsTo to 10))),(68,.gone),(72,.gone),(133,.gone),(5000,.gone),(5001,.gone),(901,.gone)]⟩ →
                wpD Try.prog Bz6j (blockQ 5 (seqQ (wpD Try.prog Bz0) R3)) σ:=by
              intro As' pa' hAs hpa σ hσ
              unfold Bz6j
              rw [yz2,hσ]
              simp only [yz2,yz1,wpD_gh,go_sem,yz0,xx9,xx8,xx6,xx7,xx5,xx0,xx1,xx2,reduceIte,xx3,xx4,reduceCtorEq]
              intro vs21 U21 hN21
              refine yz4 (k_weigh (wghL n next) (bitsTo to 10) hw1 (fun s hs=>by have:=hto' s hs;rw [wghL_len];omega) (Nat.le_trans bitsTo_len (by omega))) qCS trivial ?_
              have hh:decide (hvy (wghL n next) (bitsTo to 10) > hvy (wghL n next) set)=hvB n next set to:=rfl
              cases hv:hvB n next set to with
              | false =>
                have hh2:decide (hvy (wghL n next) set<hvy (wghL n next) (bitsTo to 10))=false:=hh.trans hv
                simp only [hh2,Bzb,Bz0,wx,yz2,yz1,go_sem,yz0,xx9,xx8,xx6,xx7,xx5,xx0,xx1,xx2,reduceIte,xx3,xx4,reduceCtorEq]
                intros
                rw [← hR3]
                have hJ2:=hJ.ins (c:=(to,w')) (pa':=pa') (b':=b) hsn hwl' (by rw [hAs];exact hpa) (by rw [if_neg (by rw [hv];simp)])
                rw [hAs,← hcx] at hJ2
                exact ⟨(x+1,As',pa',b),by show next.length - (x+1)<next.length - x;omega,⟨by show x+1≤_;omega,hJ2⟩,rfl⟩
              | true =>
                have hh2:decide (hvy (wghL n next) set<hvy (wghL n next) (bitsTo to 10))=true:=hh.trans hv
                cases b with
                | none =>
                  simp only [hh2,besB,Bzb,Bz0,wx,yz2,yz1,go_sem,yz0,xx9,xx8,xx6,xx7,xx5,xx0,xx1,xx2,reduceIte,xx3,xx4,reduceCtorEq]
                  intros
                  rw [← hR3]
                  have hJ2:=hJ.ins (c:=(to,w')) (pa':=pa') (b':=some (u,w')) hsn hwl' (by rw [hAs];exact hpa) (by rw [if_pos hv];rfl)
                  rw [hAs,← hcx] at hJ2
                  exact ⟨(x+1,As',pa',some (u,w')),by show next.length - (x+1)<next.length - x;omega,⟨by show x+1≤_;omega,hJ2⟩,rfl⟩
                | some b =>
                  obtain ⟨u2,w2⟩:=b
                  have hw2:w2.length=d+1:=by
                    obtain ⟨p,hp,_,_,e⟩:=hJ.is.1
                    have h9:=hJ.ln p hp
                    rw [e] at h9;exact h9
                  have hcw:cmpW w' w2=cmpL w' w2:=cmpW_eq (by omega)
                  simp only [hh2,besB,Bzb,Bz0,wx,yz2,yz1,go_sem,yz0,xx9,xx8,xx6,xx7,xx5,xx0,xx1,xx2,reduceIte,xx3,xx4,reduceCtorEq]
                  refine ⟨.inl trivial,?_⟩
                  refine yz4 (k_compareWords w' w2) qCS trivial ?_
                  by_cases hc:cmpL w' w2<0
                  · simp only [hcw,decide_eq_true hc,Bzb,Bz0,wx,yz2,yz1,go_sem,yz0,xx9,xx8,xx6,xx7,xx5,xx0,xx1,xx2,reduceIte,xx3,xx4,reduceCtorEq]
                    intros
                    rw [← hR3]
                    have hJ2:=hJ.ins (c:=(to,w')) (pa':=pa') (b':=some (u,w')) hsn hwl' (by rw [hAs];exact hpa) (by rw [if_pos hv];simp only [Option.map_some,stepW];rw [if_pos hc])
                    rw [hAs,← hcx] at hJ2
                    exact ⟨(x+1,As',pa',some (u,w')),by show next.length - (x+1)<next.length - x;omega,⟨by show x+1≤_;omega,hJ2⟩,rfl⟩
                  · simp only [hcw,decide_eq_false hc,Bzb,Bz0,wx,yz2,yz1,go_sem,yz0,xx9,xx8,xx6,xx7,xx5,xx0,xx1,xx2,reduceIte,xx3,xx4,reduceCtorEq]
                    intros
                    rw [← hR3]
                    have hJ2:=hJ.ins (c:=(to,w')) (pa':=pa') (b':=some (u2,w2)) hsn hwl' (by rw [hAs];exact hpa) (by rw [if_pos hv];simp only [Option.map_some,stepW];rw [if_neg hc])
                    rw [hAs,← hcx] at hJ2
                    exact ⟨(x+1,As',pa',some (u2,w2)),by show next.length - (x+1)<next.length - x;omega,⟨by show x+1≤_;omega,hJ2⟩,rfl⟩
            cases hha:hasT As to with
            | false =>
              have hj2:=fkF_not 0 hha
              simp only [hj1,hj2,Bz1m,Bz1l,Bz6k,Bz6i,Bz6h,yz2,yz1,go_sem,yz0,xx9,xx8,xx6,xx7,xx5,xx0,xx1,xx2,reduceIte,xx3,xx4,reduceCtorEq]
              intro vs21 U21 hN21 vs22 U22 hN22 vs23 U23 hN23 vs24 U24 hN24
              have hnm:to ∉ As.map (·.1):=fun hm=>by
                obtain ⟨p,hp,e⟩:=List.mem_map.1 hm
                have:hasT As to=true:=List.any_eq_true.2 ⟨p,hp,by rw [e];exact Nat.beq_refl to⟩
                rw [hha] at this;cases this
              rw [show keysF As ++ [Value.int .u64 (to:Int)]=keysF (As ++ [(to,w')]) by simp [keysF],show rwp pa ++ [AVal.ro (some (some (u+1))) 1 (ints w')]=rwp (pa ++ [(u,w')]) from rwp_snoc]
              exact tail (As ++ [(to,w')]) (pa ++ [(u,w')]) (insA_new (c:=(to,w')) hsn hnm) (by rw [List.map_append,hJ.pa];simp) _ rfl
            | true =>
              obtain ⟨p2,hp2,hpe⟩:=List.any_eq_true.1 hha
              obtain ⟨j2,hj2,rfl⟩:=List.getElem_of_mem hp2
              have hpe:As[j2].1=to:=Nat.eq_of_beq_eq_true hpe
              have hAg:As.getD j2 (0,[])=As[j2]:=by rw [List.getD_eq_getElem?_getD,List.getElem?_eq_getElem hj2];rfl
              have hk4:=fkF_at (L:=As) j2 0 hJ.mn.nd hj2
              rw [hAg,hpe,Nat.zero_add] at hk4
              have hpal:pa.length=As.length:=by have:=congrArg List.length hJ.pa;simpa using this
              have hpaj:(pa.getD j2 (0,[])).2=As[j2].2:=by
                have this:(pa.map (·.2)).getD j2 []=(wrdL As).getD j2 []:=by rw [hJ.pa]
                rw [List.getD_eq_getElem?_getD,List.getD_eq_getElem?_getD,List.getElem?_map,List.getElem?_map,List.getElem?_eq_getElem hj2,List.getElem?_eq_getElem (by omega:j2<pa.length)] at this
                rw [List.getD_eq_getElem?_getD,List.getElem?_eq_getElem (by omega:j2<pa.length)];exact this
              have hpag:=rwp_getD (ps:=pa) (i:=j2) (by omega)
              rw [hpaj] at hpag
              have hio:=insA_old (c:=(to,w')) (i:=j2) hJ.mn.nd hsn hj2 (by rw [hAg];exact hpe)
              rw [hAg] at hio
              have hold:As[j2].2.length=d+1:=hJ.ln _ (hJ.mn.sub _ hp2).1
              have hcw:cmpW w' As[j2].2=cmpL w' As[j2].2:=cmpW_eq (by omega)
              simp only [hj1,hk4,hpag,Bz1m,Bz1l,Bz6k,Bz6i,Bz6h,yz2,yz1,go_sem,yz0,xx9,xx8,xx6,xx7,xx5,xx0,xx1,xx2,reduceIte,xx3,xx4,reduceCtorEq]
              intro vs21 U21 hN21 vs22 U22 hN22 vs23 U23 hN23
              refine yz4 (k_compareWords w' As[j2].2) qCS trivial ?_
              by_cases hc:cmpL w' As[j2].2<0
              · simp only [hcw,decide_eq_true hc,hk4,yz2,yz1,go_sem,yz0,xx9,xx8,xx6,xx7,xx5,xx0,xx1,xx2,reduceIte,xx3,xx4,reduceCtorEq]
                rw [if_pos hc] at hio
                intro vs24 U24 hN24
                have hk6:keysF (As.set j2 (to,w'))=keysF As:=by
                  unfold keysF
                  rw [List.map_set]
                  refine List.ext_getElem (by simp) fun l h1 h2'=>?_
                  rw [List.getElem_set]
                  split
                  · rename_i e;subst e
                    rw [List.getElem_map,hpe]
                  · rfl
                have hw6:wrdL (As.set j2 (to,w'))=(wrdL As).set j2 w':=List.map_set
                rw [show (rwp pa).set j2 (AVal.ro (some (some (u+1))) 1 (ints w'))=rwp (pa.set j2 (u,w')) by simp [rwp,List.map_set],← hk6]
                exact tail (As.set j2 (to,w')) (pa.set j2 (u,w')) hio (by rw [List.map_set,hJ.pa,hw6]) _ rfl
              · simp only [hcw,decide_eq_false hc,hk4,yz2,yz1,go_sem,yz0,xx9,xx8,xx6,xx7,xx5,xx0,xx1,xx2,reduceIte,xx3,xx4,reduceCtorEq]
                rw [if_neg hc] at hio
                exact tail As pa hio hJ.pa _ rfl
        · obtain rfl:x=next.length:=by omega
          rw [← hcK] at hJ
          simp only [← hR3,decide_eq_false hxl,wi,Bz1n,Bz6l,Bzc8,yz2,yz1,go_sem,yz0,xx9,xx8,xx6,xx7,xx5,xx0,xx1,xx2,reduceIte,xx3,xx4,reduceCtorEq]
          intros
          rw [← hR2]
          exact ⟨(i+1,As,pa,b),by show Lv.length - (i+1)<Lv.length - i;omega,⟨by show i+1≤_;omega,hJ⟩,rfl⟩
      · obtain rfl:i=Lv.length:=by omega
        rw [List.take_length] at hJ
        have hbest:b.map (·.2)=bestL (hvB n next set) As:=best_next hJ.mn hJ.is
        simp only [← hR2,decide_eq_false hlt,Bz1o,Bz6m,Bzch,yz2,yz1,go_sem,yz0,xx9,xx8,xx6,xx7,xx5,xx0,xx1,xx2,reduceIte,xx3,xx4,reduceCtorEq]
        intro vs13 U13 hN13
        cases b with
        | some b =>
          obtain ⟨u2,w2⟩:=b
          have hex:=hI.found hne hJ.mn hbest.symm
          have hcx:codeX n next set=0:=by unfold codeX;rw [if_pos h0,hex];rfl
          have hwx:wordX n next set=w2:=by unfold wordX;rw [if_pos h0,hex];rfl
          have hw2:w2≠[]:=fun e=>by
            obtain ⟨p,hp,_,_,e2⟩:=hJ.is.1
            have h9:=hJ.ln p hp
            rw [e2] at h9
            dsimp only at h9
            rw [e] at h9;simp at h9
          simp only [besB,Bz6n,yz2,yz1,wpD_gh,go_sem,yz0,xx9,xx8,xx6,xx7,xx5,xx0,xx1,xx2,reduceIte,xx3,xx4,reduceCtorEq]
          intro vs14 U14 hN14
          refine ⟨.inl trivial,?_⟩
          intro hD
          refine ⟨[.tw 12 901],gwp_tw (n:=u2) rfl (by simpa using hw2) rfl fun m1=>?_⟩
          simp only [← hR,woT,woO,woL_cons,woL_nil,woV_val,woV_own,wo_ptr,wo_o,woL_ints,wo_st,woO_row,woO_box,woO_gone,wo_any,gwp_nil,yz2,yz1,wpD_gh,go_sem,yz0,xx9,xx8,xx6,xx7,xx5,xx0,xx1,xx2,reduceIte,xx3,xx4,reduceCtorEq]
          intro vs15 U15 hN15
          simp only [← hQ,Azi,hcx,hwx,yz2,yz1,wpD_gh,go_sem,yz0,xx9,xx8,xx6,xx7,xx5,xx0,xx1,xx2,reduceIte,xx3,xx4,reduceCtorEq]
          refine ⟨[901],by simp,by simp,by simp,?_⟩
          simp only [range1,List.length_singleton,Nat.not_lt_zero,range1,ren_val,ren_any,ren_ro,rnNm_n,rnNm_sn,rnNm_o,rnNm_s,ren_st,ren_tup,renL_nil,renL_cons,yz9,renL_rws,renL_rwn,oren_box,oren_row,oren_map,yzf,yzh,yzk,yzi,ren_mp_e0,ren_mp_e1,yza,yzc,yzj,yzg,ren_mp_r0,ren_mp_r1,List.range_zero,yzd,yzb,yze,gone_nil,gone_one,gone_two,AVal.fresh,freshL,yz7,fresh_rws,AObj.fresh,id,Option.isSome_some,or_true,true_or,go_sem,yz0,xx9,xx8,xx6,xx7,xx5,xx0,xx1,xx2,reduceIte,xx3,xx4,reduceCtorEq]
          exact ⟨_,rfl,rfl⟩
        | none =>
          simp only [besB,Bz6n,yz2,yz1,wpD_gh,go_sem,yz0,xx9,xx8,xx6,xx7,xx5,xx0,xx1,xx2,reduceIte,xx3,xx4,reduceCtorEq]
          intro vs14 U14 hN14 hD
          refine ⟨[],?_⟩
          have h00:Int.toNat 0=0:=rfl
          simp only [gwp_nil,Bzcg,St.bound,Int.le_refl,h00,List.take_zero,List.drop_zero,Nat.zero_mul,Nat.zero_le,yz2,yz1,wpD_gh,go_sem,yz0,xx9,xx8,xx6,xx7,xx5,xx0,xx1,xx2,reduceIte,xx3,xx4,reduceCtorEq]
          intro vs15 U15 hN15
          obtain ⟨z1,z2,z3⟩:=tW_zip hJ.pa
          have hAl:As.length≤1024:=by
            have hN:2 ^ n.toNat≤1024:=Nat.pow_le_pow_right (n:=2) (by omega) (show n.toNat≤10 by omega)
            have h2:=sub_lenX hJ.mn.nd (List.range (2 ^ n.toNat)) fun x hx=>by
              obtain ⟨p,hp,rfl⟩:=List.mem_map.1 hx
              obtain ⟨q,hq,x,hx,rfl⟩:=candL_mem.1 (hJ.mn.sub p hp).1
              exact List.mem_range.2 bkA_ltn
            rw [List.length_map,List.length_range] at h2
            omega
          have hRl:((As.map (·.1)).zip pa).length=As.length:=by
            have:=congrArg List.length z1
            simpa [tW] using this
          generalize hR0:(As.map (·.1)).zip pa=R0 at z1 z2 z3 hRl
          have hRk:R0.map (·.1)=As.map (·.1):=by rw [← z1];simp [tW]
          rw [← z3,← z2]
          have hRn:(R0.map (·.1)).Nodup:=by rw [hRk];exact hJ.mn.nd
          simp only [Bzcf,yz2,yz1,wpD_gh,go_sem,yz0,xx9,xx8,xx6,xx7,xx5,xx0,xx1,xx2,reduceIte,xx3,xx4,reduceCtorEq]
          intro vs16 U16 hN16
          simp only [Bzce,yz2,yz1,wpD_gh,go_sem,yz0,xx9,xx8,xx6,xx7,xx5,xx0,xx1,xx2,reduceIte,xx3,xx4,reduceCtorEq]
          refine wpD_lm1 (fun (_,_,_,rem,_)=>rem.length) (fun (_,_,_,rem,dn)=>(dn ++ rem).Perm R0)
            (fun ((v43,vi,cur,rem,dn):Nat×Nat×Option (Nat×Nat×List Int)×List (Nat×Nat×List Int)×List (Nat×Nat×List Int))=>⟨L .any [(2,.ptr 2 (vs0 0 0) 0),(7,.own 32 v),(8,iv (hvy (wghL n next) set)),(9,.mp 36 (vs5 0 0)),(10,.own 43 v43),(121,.own 121 vi)],
              L .gone [(2,.box (vs0 0 0) [iv n,.ro none 1 (rwn next)]),(32,.row v 1 true (ints (wghL n next))),(36,.map (vs5 0 0) (keysF (W ++ tW dn)) (rwp (pw ++ tP dn))),(39,.gone),(43,.row v43 1 true (intsK .u64 (setsI (tW dn)))),(121,.it vi (some (cur.isSome,keysR (cur.toList ++ rem),rwp (tP (cur.toList ++ rem))))),(133,.gone),(5000,.gone),(5001,.gone),(901,.gone)]⟩)
            (_,_,none,R0,[]) (.refl _) (fun u=>by
              have q1:tW []=[]:=rfl
              have q2:tP []=[]:=rfl
              simp only [Bz6p,q1,q2,List.append_nil,mvL_rwp,yz2,yz1,go_sem,yz0,xx9,xx8,xx6,xx7,xx5,xx0,xx1,xx2,reduceIte,xx3,xx4,reduceCtorEq];rfl) ?_
          rintro ⟨v43,vi,cur,rem,dn⟩ hP
          have hP:(dn ++ rem).Perm R0:=hP
          generalize hR4:loopQ _ _=R4
          simp only [Bz6p,itT_R1,itT_R2,yz2,yz1,go_sem,yz0,xx9,xx8,xx6,xx7,xx5,xx0,xx1,xx2,reduceIte,xx3,xx4,reduceCtorEq]
          intro vs17 U17 hN17
          refine ⟨fun h9=>?_,fun j key AA h1 h2=>?_⟩
          · have h9:=keysR_nil h9
            subst h9
            rw [List.append_nil] at hP
            simp only [← hR4,← hR,Bz6o,yz2,yz1,go_sem,yz0,xx9,xx8,xx6,xx7,xx5,xx0,xx1,xx2,reduceIte,xx3,xx4,reduceCtorEq]
            intros
            have hAp:(tW dn).Perm As:=by rw [← z1];exact hP.map _
            obtain ⟨hI2,hlt2⟩:=hI.next hne hJ.mn hbest.symm hAp (pA:=tP dn) (by simp [tP,tW])
            exact ⟨f - 1,hlt2,(v43,f - 1,_,_,tW dn,W ++ tW dn,pw ++ tP dn),rfl,hI2,rfl⟩
          · obtain ⟨⟨k3,u3,w3⟩,hj,rfl,rfl⟩:=getR h1 h2
            have hjl:=(List.getElem?_eq_some_iff.1 hj).1
            have hjg:=(List.getElem?_eq_some_iff.1 hj).2
            have hle:(rem.eraseIdx j).length<rem.length:=by
              rw [List.length_eraseIdx_of_lt hjl];omega
            have hper:(dn ++ [(k3,u3,w3)] ++ rem.eraseIdx j).Perm R0:=by
              refine List.Perm.trans ?_ hP
              rw [List.append_assoc]
              refine List.Perm.append_left dn ?_
              exact erase_permX hj
            have hnd2:((dn ++ [(k3,u3,w3)] ++ rem.eraseIdx j).map (·.1)).Nodup:=(hper.map (·.1)).nodup_iff.2 hRn
            have hdl:dn.length<As.length:=by
              have:=hper.length_eq
              rw [List.length_append,List.length_append,List.length_singleton] at this
              omega
            have hmem:(k3,w3)∈As:=by
              rw [← z1]
              exact List.mem_map.2 ⟨(k3,u3,w3),hper.mem_iff.1 (by simp),rfl⟩
            have hsn3:seen k3=false:=(hJ.mn.sub _ hmem).2.1
            have hha:hasT (W ++ tW dn) k3=false:=by
              rw [Bool.eq_false_iff]
              intro hc
              obtain ⟨p,hp,e⟩:=List.any_eq_true.1 hc
              have e:p.1=k3:=Nat.eq_of_beq_eq_true e
              rcases List.mem_append.1 hp with hp | hp
              · have:=(hI.see p.1).1 (List.mem_map.2 ⟨p,hp,rfl⟩)
                rw [e,hsn3] at this;cases this
              · obtain ⟨t,ht,rfl⟩:=List.mem_map.1 hp
                rw [List.append_assoc,List.map_append] at hnd2
                exact (List.nodup_append.1 hnd2).2.2 t.1 (List.mem_map.2 ⟨t,ht,rfl⟩) k3 (by simp) e
            have hj3:=fkF_not 0 hha
            rw [erase_keysR,erase_rwpR]
            generalize rem.eraseIdx j=rem' at hle hper
            have hdl2:(tW dn).length=dn.length:=by simp [tW]
            simp only [hj3,Bz6o,Bzcd,Bzcc,Bzcb,yz2,yz1,go_sem,yz0,xx9,xx8,xx6,xx7,xx5,xx0,xx1,xx2,reduceIte,xx3,xx4,reduceCtorEq]
            intro vs18 U18 hN18 vs19 U19 hN19 vs20 U20 hN20
            refine ⟨⟨_,rfl,rfl⟩,by omega,?_⟩
            have g1:keysF (W ++ tW dn) ++ [Value.int .u64 (k3:Int)]=keysF (W ++ tW (dn ++ [(k3,u3,w3)])):=by simp [keysF,tW]
            have g2:rwp (pw ++ tP dn) ++ [AVal.ro (some (some (u3+1))) 1 (ints w3)]=rwp (pw ++ tP (dn ++ [(k3,u3,w3)])):=by simp [rwp,tP]
            have g3:setsI (tW dn) ++ [(k3:Int)]=setsI (tW (dn ++ [(k3,u3,w3)])):=by simp [tW]
            rw [g1,g2,g3,← hR4]
            exact ⟨rem'.length,hle,fun u=>⟨(vs20 3 0,vi,some (k3,u3,w3),rem',dn ++ [(k3,u3,w3)]),rfl,hper,rfl⟩⟩
  · have hcx:codeX n next set=codeW n next set:=by unfold codeX;rw [if_neg h0]
    have hwx:wordX n next set=[]:=by unfold wordX;rw [if_neg h0]
    have e00:(codeW n next set != 0)=true:=by simpa using h0
    simp only [e00,Bz6f,Bz6e,yz2,yz1,go_sem,yz0,xx9,xx8,xx6,xx7,xx5,xx0,xx1,xx2,reduceIte,xx3,xx4,reduceCtorEq]
    intro vs2 U2 hN2 vs3 U3 hN3
    simp only [← hQ,hcx,hwx,Azi,yz2,yz1,go_sem,yz0,xx9,xx8,xx6,xx7,xx5,xx0,xx1,xx2,reduceIte,xx3,xx4,reduceCtorEq]
    refine ⟨[],by simp,by simp,by simp,?_⟩
    simp only [range1,List.length_singleton,Nat.not_lt_zero,range1,ren_val,ren_any,ren_ro,rnNm_n,rnNm_sn,rnNm_o,rnNm_s,ren_st,ren_tup,renL_nil,renL_cons,yz9,renL_rws,renL_rwn,oren_box,oren_row,oren_map,yzf,yzh,yzk,yzi,ren_mp_e0,ren_mp_e1,yza,yzc,yzj,yzg,ren_mp_r0,ren_mp_r1,List.range_zero,yzd,yzb,yze,gone_nil,gone_one,gone_two,AVal.fresh,freshL,yz7,fresh_rws,AObj.fresh,id,Option.isSome_some,or_true,true_or,go_sem,yz0,xx9,xx8,xx6,xx7,xx5,xx0,xx1,xx2,reduceIte,xx3,xx4,reduceCtorEq]
    rw [if_neg (by simpa using h0)]
    trivial
end Go.Ab
namespace Go.Ab
open Go.Proofs
theorem law_ExtendWord (n:Int) (next:List (List Int)) (set:List Int) (ok:Bool) (ws zs:List Int) (cc:Int) (KS:RowC2 Try.prog nz10 [.st [iv n,.ro none 1 (rwn next)],.ro none 1 (ints set)] ws cc) (KI:RowT Try.prog nzf [.st [iv n,.ro none 1 (rwn next)],.ro none 1 (ints set)] ok zs cc)
    (h1:ok=true→ws=zs) (h2:ok=false→ws=[]) (hz:ok=true→(zs.length:Int)≤1000000000) :
    Fun Try.prog nz3g [.st [iv n,.ro (some (some 0)) 1 (rwo next)],.ro (some (some 0)) 1 (ints set)] (bv true):=by
  refine fun_of mixed czn2 rfl ⟨rfl,trivial⟩ ?_
  simp only [Azal,Bzak,yz2,yz1,go_sem,yz0,xx9,xx8,xx6,xx7,xx5,xx0,xx1,xx2,reduceIte,xx3,xx4,reduceCtorEq]
  rintro vs1 U1 - vs2 U2 - hM_set
  by_cases hl_set:1048576<(set.length:Int)
  · simp only [Bz4v,decide_eq_true hl_set,yz2,yz1,go_sem,yz0,xx9,xx8,xx6,xx7,xx5,xx0,xx1,xx2,reduceIte,xx3,xx4,reduceCtorEq]
    try simp
  have hb_set:set.length * 8≤140737488355328:=by omega
  simp only [Bz4v,Bzaj,Bzai,decide_eq_false hl_set,yz2,yz1,go_sem,yz0,xx9,xx8,xx6,xx7,xx5,xx0,xx1,xx2,reduceIte,xx3,xx4,reduceCtorEq]
  rintro vs3 U3 - vs4 U4 -
  refine yz4 (k_szAutomaton n next 1048576 (by omega)) qCO trivial ?_
  by_cases hsz0:(szLL next 1048576)<0
  · simp only [Bz5q,Bz4w,decide_eq_true hsz0,yz2,yz1,go_sem,yz0,xx9,xx8,xx6,xx7,xx5,xx0,xx1,xx2,reduceIte,xx3,xx4,reduceCtorEq]
    try simp
  obtain ⟨hsa_next,hsb_next,hsc_next⟩:=szLL_ge (xss:=next) (l:=1048576) (by omega)
  have htot_next:=szLL_tot (ps:=next.map fun x=>(0,x)) (l:=1048576) (by rw [List.map_map];simp only [Function.comp_def,List.map_id'];omega) (by omega)
  have hb_next:next.length * 24≤140737488355328:=by omega
  have hc_next:∀ xs∈next,xs.length * 8≤140737488355328:=fun xs hx=>by have:=hsb_next xs hx;omega
  have hd_next:∀ xs∈next,(xs.length:Int)≤1000000000:=fun xs hx=>by have:=hsb_next xs hx;omega
  simp only [Bz5q,Bz4w,Bzah,decide_eq_false hsz0,yz2,yz1,go_sem,yz0,xx9,xx8,xx6,xx7,xx5,xx0,xx1,xx2,reduceIte,xx3,xx4,reduceCtorEq]
  rintro vs5 U5 - vs6 U6 -
  refine call_aut (k_toAutomaton n next hb_next hc_next) qCO rfl ?_
  intro v1
  try simp only [yz2,yz1,go_sem,yz0,xx9,xx8,xx6,xx7,xx5,xx0,xx1,xx2,reduceIte,xx3,xx4,reduceCtorEq]
  refine call_rowE (k_toInt64S set hb_set) qCI rfl ?_
  intro v2
  try simp only [yz2,yz1,go_sem,yz0,xx9,xx8,xx6,xx7,xx5,xx0,xx1,xx2,reduceIte,xx3,xx4,reduceCtorEq]
  refine call_rowC2 KS qCS rfl ?_
  intro v3
  simp only [Bzag,yz2,yz1,go_sem,yz0,xx9,xx8,xx6,xx7,xx5,xx0,xx1,xx2,reduceIte,xx3,xx4,reduceCtorEq]
  rintro vs7 U7 hN7
  refine call_autN (fun x y e=>(hN7.inj _ _ _ _ e).2) (k_toAutomatonN n next hb_next hc_next) qCO rfl ?_
  intro v4 ps_next hps_next hdj_next
  clear hN7
  have htt_next:totL ps_next≤1048576:=by have h:=szLL_tot (ps:=ps_next) (l:=1048576) (by rw [hps_next];omega) (by omega);omega
  have htn_next:=totL_nn ps_next
  have hdp_next:∀ p∈ps_next,(p.2.length:Int)≤1000000000:=fun p hp=>hd_next p.2 (by rw [← hps_next];exact List.mem_map_of_mem hp)
  simp only [Bzaf,yz2,yz1,go_sem,yz0,xx9,xx8,xx6,xx7,xx5,xx0,xx1,xx2,reduceIte,xx3,xx4,reduceCtorEq]
  rintro vs8 U8 -
  refine call_rowE (k_toInt64S set hb_set) qCI rfl ?_
  intro v5
  simp only [Bzae,yz2,yz1,go_sem,yz0,xx9,xx8,xx6,xx7,xx5,xx0,xx1,xx2,reduceIte,xx3,xx4,reduceCtorEq]
  rintro vs9 U9 -
  cases ok with
  | true =>
    obtain rfl:=h1 rfl
    have hz:=hz rfl
    refine call_rowT KI (by simp only [← hps_next,coeL_rwp_t,rowIs,boxIs,coe_argN,coe_argNs,coe_ro_o,coeL_nil,yz8,coe_any,coe_val,coe_ro,coe_ro_nil,coe_ro_own,coe_st,coe_st_agg,coe_rp,coe_rp_ptr,coe_clo,coe_own0,coe_ptr0,coeL_intsK,coeL_rws,coeL_rwn,L_hit,L_miss,L_nil,xx3,ne_eq,reduceCtorEq,not_false_eq_true,true_and,and_true,and_self,exists_eq_left,exists_eq_right,List.mem_cons,List.not_mem_nil,or_false,AObj.row.injEq,AObj.box.injEq,exists_eq_left',exists_and_left,exists_eq,Nat.zero_lt_one,Nat.lt_add_one,List.map_cons,List.map_nil,AObj.ver,xx5,not_true_eq_false]) rfl (fun _ v6=>?_) (fun h=>by cases h)
    simp only [Bz5p,yz2,yz1,go_sem,yz0,xx9,xx8,xx6,xx7,xx5,xx0,xx1,xx2,reduceIte,xx3,xx4,reduceCtorEq]
    rintro vs10 U10 -
    refine yz4 (k_eqInt64S ws ws) qCS trivial ?_
    simp only [Bz4x,Bz5o,decide_true,Bool.and_self,bne_self_eq_false,yz2,yz1,go_sem,yz0,xx9,xx8,xx6,xx7,xx5,xx0,xx1,xx2,reduceIte,xx3,xx4,reduceCtorEq]
    rintro vs11 U11 -
    refine call_aut (k_toAutomaton n next hb_next hc_next) qCO rfl ?_
    intro v7
    try simp only [yz2,yz1,go_sem,yz0,xx9,xx8,xx6,xx7,xx5,xx0,xx1,xx2,reduceIte,xx3,xx4,reduceCtorEq]
    refine yz4 (k_eqAutomaton n n next next) (by simp only [← hps_next,coeL_rwp_t,rowIs,boxIs,coe_argN,coe_argNs,coe_ro_o,coeL_nil,yz8,coe_any,coe_val,coe_ro,coe_ro_nil,coe_ro_own,coe_st,coe_st_agg,coe_rp,coe_rp_ptr,coe_clo,coe_own0,coe_ptr0,coeL_intsK,coeL_rws,coeL_rwn,L_hit,L_miss,L_nil,xx3,ne_eq,reduceCtorEq,not_false_eq_true,true_and,and_true,and_self,exists_eq_left,exists_eq_right,List.mem_cons,List.not_mem_nil,or_false,AObj.row.injEq,AObj.box.injEq,exists_eq_left',exists_and_left,exists_eq,Nat.zero_lt_one,Nat.lt_add_one,List.map_cons,List.map_nil,AObj.ver,xx5,not_true_eq_false]) trivial ?_
    simp only [Bz4y,Bz5n,decide_true,Bool.and_self,bne_self_eq_false,yz2,yz1,go_sem,yz0,xx9,xx8,xx6,xx7,xx5,xx0,xx1,xx2,reduceIte,xx3,xx4,reduceCtorEq]
    rintro vs12 U12 -
    refine call_rowE (k_toInt64S set hb_set) qCI rfl ?_
    intro v8
    try simp only [yz2,yz1,go_sem,yz0,xx9,xx8,xx6,xx7,xx5,xx0,xx1,xx2,reduceIte,xx3,xx4,reduceCtorEq]
    refine yz4 (k_eqInt64S set set) qCS trivial ?_
    simp only [Bz4z,Bz5m,Bz5l,decide_true,Bool.and_self,bne_self_eq_false,yz2,yz1,go_sem,yz0,xx9,xx8,xx6,xx7,xx5,xx0,xx1,xx2,reduceIte,xx3,xx4,reduceCtorEq]
    rintro vs13 U13 - vs14 U14 -
    refine call_hav (k_markAutomaton n ps_next hdj_next 1 (by omega) hdp_next) ?_ ?_
    · rw [coeHL_cons,coeHL_cons,coeHL_nil,coeH_val,coeH_st,coeHL_cons,coeHL_cons,coeHL_nil,coeH_val]
      refine ⟨⟨rfl,?_,trivial⟩,rfl,trivial⟩
      exact coeH_own (nn:=true) qWS
    rintro x ⟨k1,rfl,hk1a,hk1b⟩
    have hkn1:¬ (k1<0):=by omega
    simp only [Bz5k,cl_L,clT,clO,clV_any,clV_val,clV_own,clV_ptr,clV_st,clV_o,clL_ints,clL_rwo,clL_cons,clL_nil,clR_row,clR_box,clR_gone,yz2,yz1,go_sem,yz0,xx9,xx8,xx6,xx7,xx5,xx0,xx1,xx2,reduceIte,xx3,xx4,reduceCtorEq]
    rintro vs15 U15 -
    refine call_mark (k_markInt64S set true (k1) (by omega) (by omega)) qWS rfl ?_
    have hkn2:¬ (k1+set.length<0):=by omega
    simp only [Bz5j,decide_eq_false hkn2,yz2,yz1,go_sem,yz0,xx9,xx8,xx6,xx7,xx5,xx0,xx1,xx2,reduceIte,xx3,xx4,reduceCtorEq]
    rintro vs16 U16 -
    refine yz4 (k_eqInt64S ws ws) qCS trivial ?_
    simp only [Bz50,Bz5i,Bz5h,decide_true,Bool.and_self,bne_self_eq_false,yz2,yz1,go_sem,yz0,xx9,xx8,xx6,xx7,xx5,xx0,xx1,xx2,reduceIte,xx3,xx4,reduceCtorEq]
    rintro vs17 U17 - vs18 U18 -
    refine call_mark (k_markInt64S ws true 1 (by omega) (by omega)) qWS rfl ?_
    simp only [Bz5g,Bz5f,yz2,yz1,go_sem,yz0,xx9,xx8,xx6,xx7,xx5,xx0,xx1,xx2,reduceIte,xx3,xx4,reduceCtorEq]
    rintro vs19 U19 - vs20 U20 -
    refine yz4 (k_held (seqI 1 ws.length) 1 (by omega) (by rw [seqI_len];omega) (by rw [seqI_len])) qCS trivial ?_
    have hneg:¬ ((1:Int)+ws.length<0):=by omega
    simp only [Bz5e,Bz51,Bz5d,Bz52,Bz5c,seqI_len,bne_self_eq_false,decide_eq_false hneg,yz2,yz1,go_sem,yz0,xx9,xx8,xx6,xx7,xx5,xx0,xx1,xx2,reduceIte,xx3,xx4,reduceCtorEq]
    rintro vs21 U21 - vs22 U22 - vs23 U23 -
    refine call_aut (k_toAutomaton n next hb_next hc_next) qCO rfl ?_
    intro v9
    try simp only [yz2,yz1,go_sem,yz0,xx9,xx8,xx6,xx7,xx5,xx0,xx1,xx2,reduceIte,xx3,xx4,reduceCtorEq]
    refine call_rowE (k_toInt64S set hb_set) qCI rfl ?_
    intro v10
    try simp only [yz2,yz1,go_sem,yz0,xx9,xx8,xx6,xx7,xx5,xx0,xx1,xx2,reduceIte,xx3,xx4,reduceCtorEq]
    refine call_rowT KI qCS rfl (fun _ v11=>?_) (fun h=>by cases h)
    simp only [Bz5b,yz2,yz1,go_sem,yz0,xx9,xx8,xx6,xx7,xx5,xx0,xx1,xx2,reduceIte,xx3,xx4,reduceCtorEq]
    rintro vs24 U24 -
    refine yz4 (k_eqInt64S ws ws) qCS trivial ?_
    simp only [Bz53,Bz5a,Bz59,decide_true,Bool.and_self,bne_self_eq_false,yz2,yz1,go_sem,yz0,xx9,xx8,xx6,xx7,xx5,xx0,xx1,xx2,reduceIte,xx3,xx4,reduceCtorEq]
    rintro vs25 U25 - vs26 U26 -
    refine yz4 (k_held (seqI 1 ws.length) 1 (by omega) (by rw [seqI_len];omega) (by rw [seqI_len])) qCS trivial ?_
    simp only [Bz58,Bz54,Bz57,Bz55,Bz56,seqI_len,bne_self_eq_false,decide_eq_false hneg,yz2,yz1,go_sem,yz0,xx9,xx8,xx6,xx7,xx5,xx0,xx1,xx2,reduceIte,xx3,xx4,reduceCtorEq]
    try simp
  | false =>
    obtain rfl:=h2 rfl
    refine call_rowT KI (by simp only [← hps_next,coeL_rwp_t,rowIs,boxIs,coe_argN,coe_argNs,coe_ro_o,coeL_nil,yz8,coe_any,coe_val,coe_ro,coe_ro_nil,coe_ro_own,coe_st,coe_st_agg,coe_rp,coe_rp_ptr,coe_clo,coe_own0,coe_ptr0,coeL_intsK,coeL_rws,coeL_rwn,L_hit,L_miss,L_nil,xx3,ne_eq,reduceCtorEq,not_false_eq_true,true_and,and_true,and_self,exists_eq_left,exists_eq_right,List.mem_cons,List.not_mem_nil,or_false,AObj.row.injEq,AObj.box.injEq,exists_eq_left',exists_and_left,exists_eq,Nat.zero_lt_one,Nat.lt_add_one,List.map_cons,List.map_nil,AObj.ver,xx5,not_true_eq_false]) rfl (fun h=>by cases h) (fun _=>?_)
    simp only [Bz5p,yz2,yz1,go_sem,yz0,xx9,xx8,xx6,xx7,xx5,xx0,xx1,xx2,reduceIte,xx3,xx4,reduceCtorEq]
    rintro vs10 U10 -
    refine yz4 (k_eqInt64S [] []) (by simp only [List.map_nil,rowIs,boxIs,coe_argN,coe_argNs,coe_ro_o,coeL_nil,yz8,coe_any,coe_val,coe_ro,coe_ro_nil,coe_ro_own,coe_st,coe_st_agg,coe_rp,coe_rp_ptr,coe_clo,coe_own0,coe_ptr0,coeL_intsK,coeL_rws,coeL_rwn,L_hit,L_miss,L_nil,xx3,ne_eq,reduceCtorEq,not_false_eq_true,true_and,and_true,and_self,exists_eq_left,exists_eq_right,List.mem_cons,List.not_mem_nil,or_false,AObj.row.injEq,AObj.box.injEq,exists_eq_left',exists_and_left,exists_eq,Nat.zero_lt_one,Nat.lt_add_one,List.map_cons,List.map_nil,AObj.ver,xx5,not_true_eq_false]) trivial ?_
    simp only [Bz4x,Bz5o,decide_true,Bool.and_self,bne_self_eq_false,yz2,yz1,go_sem,yz0,xx9,xx8,xx6,xx7,xx5,xx0,xx1,xx2,reduceIte,xx3,xx4,reduceCtorEq]
    rintro vs11 U11 -
    refine call_aut (k_toAutomaton n next hb_next hc_next) qCO rfl ?_
    intro v6
    try simp only [yz2,yz1,go_sem,yz0,xx9,xx8,xx6,xx7,xx5,xx0,xx1,xx2,reduceIte,xx3,xx4,reduceCtorEq]
    refine yz4 (k_eqAutomaton n n next next) (by simp only [← hps_next,coeL_rwp_t,rowIs,boxIs,coe_argN,coe_argNs,coe_ro_o,coeL_nil,yz8,coe_any,coe_val,coe_ro,coe_ro_nil,coe_ro_own,coe_st,coe_st_agg,coe_rp,coe_rp_ptr,coe_clo,coe_own0,coe_ptr0,coeL_intsK,coeL_rws,coeL_rwn,L_hit,L_miss,L_nil,xx3,ne_eq,reduceCtorEq,not_false_eq_true,true_and,and_true,and_self,exists_eq_left,exists_eq_right,List.mem_cons,List.not_mem_nil,or_false,AObj.row.injEq,AObj.box.injEq,exists_eq_left',exists_and_left,exists_eq,Nat.zero_lt_one,Nat.lt_add_one,List.map_cons,List.map_nil,AObj.ver,xx5,not_true_eq_false]) trivial ?_
    simp only [Bz4y,Bz5n,decide_true,Bool.and_self,bne_self_eq_false,yz2,yz1,go_sem,yz0,xx9,xx8,xx6,xx7,xx5,xx0,xx1,xx2,reduceIte,xx3,xx4,reduceCtorEq]
    rintro vs12 U12 -
    refine call_rowE (k_toInt64S set hb_set) qCI rfl ?_
    intro v7
    try simp only [yz2,yz1,go_sem,yz0,xx9,xx8,xx6,xx7,xx5,xx0,xx1,xx2,reduceIte,xx3,xx4,reduceCtorEq]
    refine yz4 (k_eqInt64S set set) qCS trivial ?_
    simp only [Bz4z,Bz5m,Bz5l,decide_true,Bool.and_self,bne_self_eq_false,yz2,yz1,go_sem,yz0,xx9,xx8,xx6,xx7,xx5,xx0,xx1,xx2,reduceIte,xx3,xx4,reduceCtorEq]
    rintro vs13 U13 - vs14 U14 -
    refine call_hav (k_markAutomaton n ps_next hdj_next 1 (by omega) hdp_next) ?_ ?_
    · rw [coeHL_cons,coeHL_cons,coeHL_nil,coeH_val,coeH_st,coeHL_cons,coeHL_cons,coeHL_nil,coeH_val]
      refine ⟨⟨rfl,?_,trivial⟩,rfl,trivial⟩
      exact coeH_own (nn:=true) qWS
    rintro x ⟨k2,rfl,hk2a,hk2b⟩
    have hkn3:¬ (k2<0):=by omega
    simp only [Bz5k,cl_L,clT,clO,clV_any,clV_val,clV_own,clV_ptr,clV_st,clV_o,clL_ints,clL_rwo,clL_cons,clL_nil,clR_row,clR_box,clR_gone,yz2,yz1,go_sem,yz0,xx9,xx8,xx6,xx7,xx5,xx0,xx1,xx2,reduceIte,xx3,xx4,reduceCtorEq]
    rintro vs15 U15 -
    refine call_mark (k_markInt64S set true (k2) (by omega) (by omega)) qWS rfl ?_
    have hkn4:¬ (k2+set.length<0):=by omega
    simp only [Bz5j,decide_eq_false hkn4,yz2,yz1,go_sem,yz0,xx9,xx8,xx6,xx7,xx5,xx0,xx1,xx2,reduceIte,xx3,xx4,reduceCtorEq]
    rintro vs16 U16 -
    refine yz4 (k_eqInt64S [] []) (by simp only [List.map_nil,rowIs,boxIs,coe_argN,coe_argNs,coe_ro_o,coeL_nil,yz8,coe_any,coe_val,coe_ro,coe_ro_nil,coe_ro_own,coe_st,coe_st_agg,coe_rp,coe_rp_ptr,coe_clo,coe_own0,coe_ptr0,coeL_intsK,coeL_rws,coeL_rwn,L_hit,L_miss,L_nil,xx3,ne_eq,reduceCtorEq,not_false_eq_true,true_and,and_true,and_self,exists_eq_left,exists_eq_right,List.mem_cons,List.not_mem_nil,or_false,AObj.row.injEq,AObj.box.injEq,exists_eq_left',exists_and_left,exists_eq,Nat.zero_lt_one,Nat.lt_add_one,List.map_cons,List.map_nil,AObj.ver,xx5,not_true_eq_false]) trivial ?_
    simp only [Bz50,Bz5i,Bz5h,decide_true,Bool.and_self,bne_self_eq_false,yz2,yz1,go_sem,yz0,xx9,xx8,xx6,xx7,xx5,xx0,xx1,xx2,reduceIte,xx3,xx4,reduceCtorEq]
    rintro vs17 U17 - vs18 U18 -
    refine yz4 (k_markNil 1) qCS trivial ?_
    simp only [Bz5g,Bz5f,yz2,yz1,go_sem,yz0,xx9,xx8,xx6,xx7,xx5,xx0,xx1,xx2,reduceIte,xx3,xx4,reduceCtorEq]
    rintro vs19 U19 - vs20 U20 -
    refine yz4 k_heldNil qCS trivial ?_
    simp only [Bz5e,Bz51,Bz5d,Bz52,Bz5c,bne_self_eq_false,dec10,yz2,yz1,go_sem,yz0,xx9,xx8,xx6,xx7,xx5,xx0,xx1,xx2,reduceIte,xx3,xx4,reduceCtorEq]
    rintro vs21 U21 - vs22 U22 - vs23 U23 -
    refine call_aut (k_toAutomaton n next hb_next hc_next) qCO rfl ?_
    intro v8
    try simp only [yz2,yz1,go_sem,yz0,xx9,xx8,xx6,xx7,xx5,xx0,xx1,xx2,reduceIte,xx3,xx4,reduceCtorEq]
    refine call_rowE (k_toInt64S set hb_set) qCI rfl ?_
    intro v9
    try simp only [yz2,yz1,go_sem,yz0,xx9,xx8,xx6,xx7,xx5,xx0,xx1,xx2,reduceIte,xx3,xx4,reduceCtorEq]
    refine call_rowT KI qCS rfl (fun h=>by cases h) (fun _=>?_)
    simp only [Bz5b,yz2,yz1,go_sem,yz0,xx9,xx8,xx6,xx7,xx5,xx0,xx1,xx2,reduceIte,xx3,xx4,reduceCtorEq]
    rintro vs24 U24 -
    refine yz4 (k_eqInt64S [] []) (by simp only [List.map_nil,rowIs,boxIs,coe_argN,coe_argNs,coe_ro_o,coeL_nil,yz8,coe_any,coe_val,coe_ro,coe_ro_nil,coe_ro_own,coe_st,coe_st_agg,coe_rp,coe_rp_ptr,coe_clo,coe_own0,coe_ptr0,coeL_intsK,coeL_rws,coeL_rwn,L_hit,L_miss,L_nil,xx3,ne_eq,reduceCtorEq,not_false_eq_true,true_and,and_true,and_self,exists_eq_left,exists_eq_right,List.mem_cons,List.not_mem_nil,or_false,AObj.row.injEq,AObj.box.injEq,exists_eq_left',exists_and_left,exists_eq,Nat.zero_lt_one,Nat.lt_add_one,List.map_cons,List.map_nil,AObj.ver,xx5,not_true_eq_false]) trivial ?_
    simp only [Bz53,Bz5a,Bz59,decide_true,Bool.and_self,bne_self_eq_false,yz2,yz1,go_sem,yz0,xx9,xx8,xx6,xx7,xx5,xx0,xx1,xx2,reduceIte,xx3,xx4,reduceCtorEq]
    rintro vs25 U25 - vs26 U26 -
    refine yz4 k_heldNil qCS trivial ?_
    simp only [Bz58,Bz54,Bz57,Bz55,Bz56,bne_self_eq_false,dec10,yz2,yz1,go_sem,yz0,xx9,xx8,xx6,xx7,xx5,xx0,xx1,xx2,reduceIte,xx3,xx4,reduceCtorEq]
    try simp
theorem bestL_mem {hv:Nat→Bool} {L:List (Nat×List Int)} {w:List Int} (h:bestL hv L=some w):∃ p∈L,p.2=w:=by
  have hi:=bestL_is (hv:=hv) (L:=L)
  rw [h] at hi
  obtain ⟨p,hp,_,e⟩:=hi.1
  exact ⟨p,hp,e⟩
theorem extR_len {bk:Nat→Nat→Nat} {K:Nat} {hv:Nat→Bool}:∀ (f:Nat) (seen:Nat→Bool) (L:List (Nat×List Int)) (d:Nat) (w:List Int),(∀ p∈L,p.2.length≤d)→extR bk K hv f seen L=some w→w.length≤d+f
  | 0,_,_,_,_,_,h=>by cases h
  | f+1,_,[],_,_,_,h=>by cases h
  | f+1,seen,p :: L,d,w,hL,h=>by
    simp only [extR] at h
    cases hb:bestL hv (p :: L) with
    | some w2 =>
      rw [hb] at h
      simp only [Option.some.injEq] at h
      subst h
      obtain ⟨q,hq,rfl⟩:=bestL_mem hb
      have:=hL q hq;omega
    | none =>
      rw [hb] at h
      have h2:=extR_len f _ _ (d+1) w (fun q hq=>by
        obtain ⟨h1,_,_⟩:=(nextL_min (bk:=bk) (K:=K) (seen:=seen) (L:=p :: L)).sub q hq
        obtain ⟨r,hr,x,hx,rfl⟩:=candL_mem.1 h1
        show r.2.length+1≤_
        have:=hL r hr;omega) h
      omega
theorem wordX_len {n:Int} {next:List (List Int)} {set:List Int}:(wordX n next set).length≤1026:=by
  unfold wordX
  by_cases h:codeW n next set=0
  · rw [if_pos h]
    cases he:extV n next set with
    | none=>simp
    | some w =>
      have:=extR_len 1026 _ _ 0 w (fun p hp=>by obtain rfl:=List.mem_singleton.1 hp;exact Nat.le_refl _) he
      rw [Option.getD_some];omega
  · rw [if_neg h];simp
theorem k_FnExactExtendWord (n:Int) (next:List (List Int)) (set:List Int):Fun Try.prog nz3g [.st [iv n,.ro (some (some 0)) 1 (rwo next)],.ro (some (some 0)) 1 (ints set)] (bv true):=by
  refine law_ExtendWord n next set (decide (codeX n next set=0)) (wordX n next set) (wordX n next set) (codeX n next set) (k_specExtendWord n next set) (k_ExtendWord n next set) (fun _=>rfl) (fun h=>?_) fun _=>?_
  · have h:¬ codeX n next set=0:=of_decide_eq_false h
    unfold codeX at h
    unfold wordX
    by_cases h4:codeW n next set=0
    · rw [if_pos h4] at h ⊢
      cases he:extV n next set with
      | none=>rfl
      | some w=>rw [he] at h;exact absurd rfl h
    · rw [if_neg h4]
  · have:=wordX_len (n:=n) (next:=next) (set:=set)
    omega
end Go.Ab
namespace Go.Ab
open Go
variable {P:Program}
theorem arg_mach {t:TypeId} {A:AVal} {fs:Array Field} {f1 f2 f3 f4:Field} (h:P.underlying t=some (.struct fs)) (hfs:fs.toList=[f1,f2,f3,f4]) (ht1:P.underlying f1.type=some (.int .i64)) (ht2:P.underlying f2.type=some (.int .i64))
    {e f:TypeId} (h2:P.underlying f3.type=some (.slice e)) (h3:P.underlying f4.type=some (.slice e)) (h1:P.cellsOf e=1) (he:P.underlying e=some (.slice f)) (hf1:P.cellsOf f=1) (hf:P.underlying f=some (.int .i64))
    (hA:ArgShp P t A):∃ n o x y,A=.st [iv n,iv o,.ro (some (some 0)) 1 (rwo x),.ro (some (some 0)) 1 (rwo y)]:=by
  obtain ⟨As,rfl,hF⟩:=arg_struct h hA
  rw [hfs] at hF
  cases hF with
  | cons hA1 hF =>
    cases hF with
    | cons hA2 hF =>
      cases hF with
      | cons hA3 hF =>
        cases hF with
        | cons hA4 hF =>
          cases hF
          obtain ⟨n,rfl⟩:=shp_int ht1 hA1
          obtain ⟨o,rfl⟩:=shp_int ht2 hA2
          obtain ⟨x,rfl⟩:=shp_rows h2 h1 he hf1 hf hA3
          obtain ⟨y,rfl⟩:=shp_rows h3 h1 he hf1 hf hA4
          exact ⟨n,o,x,y,rfl⟩
end Go.Ab
