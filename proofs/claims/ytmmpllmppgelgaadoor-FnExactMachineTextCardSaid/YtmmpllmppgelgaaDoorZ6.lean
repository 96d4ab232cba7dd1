/- Contracts and what they lean on, part 6. Conditions: none. -/
import Derived.Sort.Grow
import Derived.Lib.SlicesCompact
import Derived.Ground.NamesProg
import Derived.Shelf.Strconv.Itoa4
import Derived.Test.YtmmpllmppgelgaaDoorProg
import Derived.Test.YtmmpllmppgelgaaDoorZ5
set_option maxRecDepth 100000
set_option maxHeartbeats 4000000
set_option linter.all false
open Nat renaming reduceLeDiff → xx0, reduceMul → xx1, reduceSub → xx2, reduceEqDiff → xx3, reduceAdd → xx4, reduceLT → xx5
open Int renaming reduceToNat → xx6, reduceNeg → xx7, reduceLE → xx8, reduceLT → xx9
namespace Go.Ab
abbrev RowC (P:Program) (g:FuncId) (args:List AVal) (Q:List AVal→Prop):Prop:=Fn P g args fun rows res=>∃ cs v,Q cs∧flatL cs∧rows=[.row v 1 true cs]∧res=.own 6000 v
theorem rowC_of {P:Program} {g:FuncId} {F:AFn} (hm:P.follows .mixedOrders=true) {no:Option (List Nat×List FuncId)} (hF:cFn (drV no) P g F) {args:List AVal} (hargs:args.length=F.nparams) {Q:List AVal→Prop}
    (h:wpD P F.code (finQ fun σ=>(∀ x∈F.res,σ.there x)∧∃ r v cs,r<5000∧σ.value F.res=AVal.own r v∧σ.hp r=AObj.row v 1 true cs∧flatL cs∧freshL cs∧Q cs) (St.init args [])):RowC P g args Q:=by
  refine con_of hm hF hargs (by simp) (wpD_mono _ _ _ _ (fun e σ he=>?_) h)
  have:((∀ x∈F.res,σ.there x)∧∃ r v cs,r<5000∧σ.value F.res=AVal.own r v∧σ.hp r=AObj.row v 1 true cs∧flatL cs∧freshL cs∧Q cs)→_:=fun ⟨h1,r,v,cs,hr,h2,h3,h4,h5,h6⟩ =>
    (show (∀ x∈F.res,σ.there x)∧∃ ids:List Nat,ids.length≤1000∧ids.Nodup∧(∀ n∈ids,n<5000)∧(σ.value F.res).fresh∧(∀ n∈ids,(σ.hp n).fresh)∧(∀ j,j<([]:List AObj).length→(σ.hp (5000+j)).fresh) ∧
      (fun outs rows res=>outs=[]∧∃ cs v,Q cs∧flatL cs∧rows=[AObj.row v 1 true cs]∧res=AVal.own 6000 v) ((List.range ([]:List AObj).length).map fun j=>(σ.hp (5000+j)).ren (expo ids) id) (ids.map fun n=>(σ.hp n).ren (expo ids) id) ((σ.value F.res).ren (expo ids) id) from
    ⟨h1,[r],by simp,by simp,by simpa using hr,by rw [h2];simp [AVal.fresh],by simp only [List.mem_singleton,forall_eq,h3];exact h5,by simp,rfl,cs,v,h6,h4,
      by simp only [List.map_cons,List.map_nil,h3,oren_row,renL_flat cs h4,id],by rw [h2,ren_own (expo0 hr)];rfl⟩)
  cases e with
  | exit _=>exact he
  | normal=>exact this he
  | ret=>exact this he
theorem flat_intsK {k:IntKind} {xs:List Int}:flatL (intsK k xs):=flat_vals fun A hA=>by
  simp only [List.mem_map] at hA
  obtain ⟨x,_,rfl⟩:=hA
  exact ⟨_,rfl⟩
section
variable {P:Program} {pu:Bool} {σ:St} {g:FuncId} {As args:List AVal} {d:Nat} {s:Nat→Nat} {K:St→Prop}
abbrev RowI (P:Program) (g:FuncId) (args:List AVal) (Q:List Int→Prop):Prop:=RowC P g args fun cs=>∃ xs,cs=ints xs∧Q xs
theorem rowI_of {P:Program} {g:FuncId} {args:List AVal} {F:AFn} (hm:P.follows .mixedOrders=true) {no:Option (List Nat×List FuncId)} (hF:cFn (drV no) P g F) (hargs:args.length=F.nparams) {Q:List Int→Prop}
    (h:wpD P F.code (finQ fun σ=>(∀ x∈F.res,σ.there x)∧∃ r v xs,r<5000∧σ.value F.res=AVal.own r v∧σ.hp r=AObj.row v 1 true (ints xs)∧Q xs) (St.init args [])):RowI P g args Q:=by
  refine rowC_of hm hF hargs (wpD_mono _ _ _ _ (fun e σ he=>?_) h)
  have:((∀ x∈F.res,σ.there x)∧∃ r v xs,r<5000∧σ.value F.res=AVal.own r v∧σ.hp r=AObj.row v 1 true (ints xs)∧Q xs)→_:=fun ⟨h1,r,v,xs,h2,h3,h4,h5⟩ =>
    (show (∀ x∈F.res,σ.there x)∧∃ r v cs,r<5000∧σ.value F.res=AVal.own r v∧σ.hp r=AObj.row v 1 true cs∧flatL cs∧freshL cs∧∃ xs,cs=ints xs∧Q xs from
      ⟨h1,r,v,ints xs,h2,h3,h4,flat_intsK,of_eq_true (fresh_intsK (k:=.i64)),xs,rfl,h5⟩)
  cases e with
  | exit _=>exact he
  | normal=>exact this he
  | ret=>exact this he
end
structure Aut (n:Int) (next:List (List Int)):Prop where
  n1:1≤n
  n2:n≤10
  l1:1≤next.length
  l2:next.length≤3
  row:∀ row∈next,(row.length:Int)=n∧∀ x∈row,0≤x∧x<n
theorem coeL_ints {hp:Nat→AObj} {m:List Nat} {len:Bool} {xs:List Int}:CoeL hp m len (ints xs) (ints xs):=coeL_self fun A hA=>by simp only [List.mem_map] at hA;obtain ⟨x,_,rfl⟩:=hA;exact ⟨_,rfl⟩
def rwo (xss:List (List Int)):List AVal:=xss.map fun xs=>.ro (some (some 0)) 1 (ints xs)
theorem dnL_rwo {xss:List (List Int)}:dnL (rwo xss)=rwo xss:=by
  simp only [dnL_eq,rwo,List.map_map]
  exact List.map_congr_left fun xs _=>by simp [AVal.dn,ints,dnL_eq,dnNm]
theorem mvL_rwo {a v b m:Nat} {xss:List (List Int)}:mvL a v b m (rwo xss)=rwo xss:=by
  simp only [mvL_eq,rwo,List.map_map]
  exact List.map_congr_left fun xs _=>by simp [AVal.mv,ints,mvL_eq]
theorem rwo_len {xss:List (List Int)}:(rwo xss).length=xss.length:=by simp [rwo]
theorem coeL_rwo {hp:Nat→AObj} {m:List Nat} {len:Bool}:∀ {xss:List (List Int)},CoeL hp m len (rwn xss) (rwo xss)
  | []=>by simp [rwn,rwo,CoeL]
  | xs :: xss=>by
    have h:=coeL_rwo (hp:=hp) (m:=m) (len:=len) (xss:=xss)
    simp only [rwn,rwo,List.map_cons] at h ⊢
    rw [coeL_cons,coe_ro]
    exact ⟨⟨by omega,coeL_ints⟩,h⟩
theorem coeL_rwo_t {hp:Nat→AObj} {m:List Nat} {len:Bool} {xss:List (List Int)}:CoeL hp m len (rwn xss) (rwo xss)=True:=eq_true coeL_rwo
end Go.Ab
namespace Go.Ab
end Go.Ab
namespace Go.Ab
theorem PV_val {x:Value}:PV (.val x)=(∃ v,AVal.val x=.val v∧v.oneCell'=true):=rfl
theorem PV_ro {nm:Option (Option Nat)} {k:Nat} {cs:List AVal}:PV (.ro nm k cs)=True:=rfl
attribute [go_sem]
  wpIt_0 wpIt_1 wpIt_2 itT_t itT_f odn_it itd PV_val PV_ro noObj noPtr St.mapAt keyIs keyV_val keyV_st dn_argN argN_nn Bool.or_true nodup_one beq_self_eq_true decide_true decide_false AC.kts AC.khs AC.kin Bool.true_or intsK_snoc
  List.foldl_cons List.foldl_nil forall_eq_or_imp List.toList_toArray List.getD_cons_zero List.getD_cons_succ List.length_cons List.length_nil
  List.take_succ_cons List.take_zero List.drop_succ_cons List.drop_zero Nat.zero_add Nat.add_zero Nat.lt_add_one Nat.zero_lt_succ wpD_skip dn_tm dn_hp
  wpD_reg wpD_kpd wpD_ad St.adopt List.getElem?_cons_zero List.getElem?_cons_succ List.set_cons_zero List.set_cons_succ Nat.one_ne_zero kd_L
  pickT pickO dn_any dn_val dn_ro dn_own dn_st dn_tup dn_ptr dn_rp dn_mp dn_clo dnL_nil dnL_cons dnL_app dnL_ints dnL_rws dnL_rwn odn_box odn_row
  odn_map mv_L mvT mvO mvV_any mvV_val mvV_ro mvV_own mvV_ptr mvV_mp mvV_st mvV_tup mvV_rp mvV_clo mvL_nil mvL_cons mvL_ints mvL_rws mvL_rwn AObj.mv AObj.wv dnNm_n dnNm_sn dnNm_o dnNm_s isNew_sn isNew_s Option.map_none Option.map_some wpD_dnret wpD_stuck frNm_t rws_snoc rws_len rwn_len rws_nil rws_app one_own one_mp one_ptr one_rp one_clo
  isRow isMap one_intsK one_rws one_rwn frz_intsK frz_rws owned_intsK owned_rws upd_hit wpD_seq wpD_condL wpD_block wpD_exit wpD_ret seqQ_n seqQ_e seqQ_r
  blockQ_n blockQ_e blockQ_r loopQ_n loopQ_e loopQ_r finQ_n finQ_e finQ_r wpOps_nil wpOps_L wpOp_n wpOp_g wpIns wpCk_f wpCk_t wpCk_h wpCk_m free AI.opds AI.wp AI.pre AI.eff AI.out hpw_eq AI.hq upd_L
  goneL_nil goneL_cons owned AVal.cells frz putAt St.slc St.nn AI.fact put_L put_none ev_t ev_c ev_f frz_ints ints_rep i2n one_ints owned_ints one_iv
  one_bv one_str one_nil one_ro ints_app List.flatMap_nil List.flatMap_cons List.nodup_nil List.nil_append List.append_nil List.singleton_append
  List.cons_append AObj.ver St.keep pickL L_hit L_miss L_nil St.init enum binV unV St.sl St.at ne_eq not_true_eq_false not_false_eq_true true_and
  and_true implies_true forall_const forall_eq St.value St.value1 St.there List.mem_cons List.not_mem_nil or_false Option.isSome_some Option.getD_some
  Bool.not_false Bool.not_true Nat.div_one List.map_cons List.map_nil List.length_map Nat.mul_one false_implies
attribute [go_sem high] grd_tt grd_ff grd_tf grd_ft grd_u cnd_t cnd_f
attribute [go_sem low] grd_b cnd_b
end Go.Ab
namespace Go.Ab
open Go Go.Sort
def Left1 (w w':World) (g off:Nat) (ys:List Int):Prop:=∃ n os,w'=grow (putRow (Value.int .i64) (Sort.ahead w n) g off ys.toArray) os
section
variable {w w':World} {g off:Nat} {ys:List Int}
theorem Left1.at (h:Left1 w w' g off ys) {cells:Array Value} {t:TypeId} (hb:w.heap[g]?=some (.cells cells t (0,0))):w'.heap[g]?=some (.cells (putCells (Value.int .i64) off ys.toArray cells) t (0,0)):=by
  obtain ⟨n,os,rfl⟩:=h
  have hlt:g<w.heap.size:=block_lt_of_some hb
  have h1:g<(w.heap.modify g (onCells (putCells (Value.int .i64) off ys.toArray))).size:=by rw [Array.size_modify];exact hlt
  show (w.heap.modify g (onCells (putCells (Value.int .i64) off ys.toArray)) ++ os)[g]?=_
  rw [Array.getElem?_append_left h1,Array.getElem?_modify,if_pos rfl,hb];rfl
theorem Left1.size (h:Left1 w w' g off ys):w.heap.size≤w'.heap.size:=by
  obtain ⟨n,os,rfl⟩:=h
  show w.heap.size≤(w.heap.modify g (onCells (putCells (Value.int .i64) off ys.toArray)) ++ os).size
  rw [Array.size_append,Array.size_modify];omega
theorem Left1.os (h:Left1 w w' g off ys):w'.os=w.os:=by obtain ⟨n,os,rfl⟩:=h;rfl
theorem Left1.drawn (h:Left1 w w' g off ys):w.drawn≤w'.drawn:=by obtain ⟨n,os,rfl⟩:=h;exact Nat.le_add_right _ _
theorem Left1.tape (h:Left1 w w' g off ys):w'.tape=w.tape:=by obtain ⟨n,os,rfl⟩:=h;rfl
theorem Left1.output (h:Left1 w w' g off ys):w'.output=w.output:=by obtain ⟨n,os,rfl⟩:=h;rfl
end
section
variable {P:Program} {f:FuncId}
end
end Go.Ab
namespace Go.Ab
section
variable {P:Program}
theorem args_cons {t:TypeId} {ts:List TypeId} {As:List AVal} (h:ArgsShp P (t :: ts) As):∃ A As',As=A :: As'∧ArgShp P t A∧ArgsShp P ts As':=by
  cases h with
  | cons h1 h2=>exact ⟨_,_,rfl,h1,h2⟩
theorem args_nil {As:List AVal} (h:ArgsShp P [] As):As=[]:=by cases h;rfl
theorem shp_int {t:TypeId} {xs:List AVal} (h:P.underlying t=some (.int .i64)) (hS:Shp P t xs):∃ n,xs=[iv n]:=by
  cases hS with
  | int hk _=>rw [h] at hk;cases hk;exact ⟨_,rfl⟩
  | bool hk=>rw [h] at hk;cases hk
  | string hk _=>rw [h] at hk;cases hk
  | slice hk _ _ _=>rw [h] at hk;cases hk
  | struct hk _=>rw [h] at hk;cases hk
theorem shp_slice {t e:TypeId} {xs:List AVal} (h:P.underlying t=some (.slice e)) (h1:P.cellsOf e=1) (hS:Shp P t xs):∃ xss,xs=[.ro (some (some 0)) 1 (List.flatten xss)]∧∀ ys∈xss,Shp P e ys:=by
  cases hS with
  | int hk _=>rw [h] at hk;cases hk
  | bool hk=>rw [h] at hk;cases hk
  | string hk _=>rw [h] at hk;cases hk
  | struct hk _=>rw [h] at hk;cases hk
  | slice hk hx _ _ =>
    rw [h] at hk
    cases hk
    exact ⟨_,by rw [h1],hx⟩
theorem shp_ints {t e:TypeId} {xs:List AVal} (h:P.underlying t=some (.slice e)) (h1:P.cellsOf e=1) (he:P.underlying e=some (.int .i64)) (hS:Shp P t xs):∃ l,xs=[.ro (some (some 0)) 1 (ints l)]:=by
  obtain ⟨xss,rfl,hx⟩:=shp_slice h h1 hS
  have:∃ l,List.flatten xss=ints l:=by
    clear hS
    induction xss with
    | nil=>exact ⟨[],rfl⟩
    | cons ys xss ih =>
      obtain ⟨n,rfl⟩:=shp_int he (hx ys (by simp))
      obtain ⟨l,hl⟩:=ih fun zs hz=>hx zs (by simp [hz])
      exact ⟨n :: l,by rw [List.flatten_cons,hl];rfl⟩
  obtain ⟨l,hl⟩:=this
  exact ⟨l,by rw [hl]⟩
theorem shp_rows {t e f:TypeId} {xs:List AVal} (h:P.underlying t=some (.slice e)) (h1:P.cellsOf e=1) (he:P.underlying e=some (.slice f)) (hf1:P.cellsOf f=1) (hf:P.underlying f=some (.int .i64))
    (hS:Shp P t xs):∃ l,xs=[.ro (some (some 0)) 1 (rwo l)]:=by
  obtain ⟨xss,rfl,hx⟩:=shp_slice h h1 hS
  have:∃ l,List.flatten xss=rwo l:=by
    clear hS
    induction xss with
    | nil=>exact ⟨[],rfl⟩
    | cons ys xss ih =>
      obtain ⟨r,rfl⟩:=shp_ints he hf1 hf (hx ys (by simp))
      obtain ⟨l,hl⟩:=ih fun zs hz=>hx zs (by simp [hz])
      exact ⟨r :: l,by rw [List.flatten_cons,hl];rfl⟩
  obtain ⟨l,hl⟩:=this
  exact ⟨l,by rw [hl]⟩
theorem shp_flds {t:TypeId} {xs:List AVal} {fs:Array Field} (h:P.underlying t=some (.struct fs)) (hS:Shp P t xs):ShpF P fs.toList xs:=by
  cases hS with
  | int hk _=>rw [h] at hk;cases hk
  | bool hk=>rw [h] at hk;cases hk
  | string hk _=>rw [h] at hk;cases hk
  | slice hk _ _ _=>rw [h] at hk;cases hk
  | struct hk hf=>rw [h] at hk;cases hk;exact hf
theorem arg_struct {t:TypeId} {A:AVal} {fs:Array Field} (h:P.underlying t=some (.struct fs)) (hA:ArgShp P t A):∃ As,A=.st As∧ShpF P fs.toList As:=by
  rcases hA with ⟨_,h1⟩ | ⟨As,fs',h1,rfl,h2⟩
  · exact absurd h (h1 fs)
  · exact ⟨As,rfl,shp_flds h h2⟩
end
end Go.Ab
namespace Go.Ab
theorem Good.dn {w0:World} {outs:Nat→Prop} {c:Cz} (G:Good w0 outs c):Good w0 outs { c with hp:=fun r=>(c.hp r).dn }∧Keeps c { c with hp:=fun r=>(c.hp r).dn }:=by
  have hv:∀ r,((c.hp r).dn).ver=(c.hp r).ver:=fun r=>AObj.dn_ver _
  have hg:∀ r,(c.hp r).dn≠.gone↔c.hp r≠.gone:=fun r=>not_congr AObj.dn_gone
  have htk:∀ b,¬ c.taken b→¬ ({ c with hp:=fun r=>(c.hp r).dn }:Cz).taken b:=fun b h ⟨r,h1,h2⟩=>h ⟨r,(hg r).1 h1,h2⟩
  have K:Keeps c { c with hp:=fun r=>(c.hp r).dn }:=by
    refine ⟨fun b ⟨h1,h2,h3⟩=>⟨⟨h1,h2,htk b h3⟩,rfl⟩,fun _ _ h=>h,fun _ h=>h,?_,rfl⟩
    intro r v _ h
    have h':((c.hp r).dn).ver=some v:=h
    rw [hv] at h'
    exact ⟨h',rfl⟩
  refine ⟨⟨G.base,?_,?_,?_,?_,?_,G.outExt,?_,G.namInj,G.fin,G.os,G.tape,G.output,G.size,G.frame⟩,K⟩
  · intro r
    exact (G.obj r).dn.keeps K fun _ _=>rfl
  · intro r r' b h1 h2 h3 h4;exact G.inj r r' b ((hg r).1 h1) ((hg r').1 h2) h3 h4
  · intro r b h1 h2;exact G.own r b ((hg r).1 h1) h2
  · intro r v h
    have h':((c.hp r).dn).ver=some v:=h
    rw [hv] at h'
    exact G.verU r v h'
  · intro r r' v h1 h2
    have h1':((c.hp r).dn).ver=some v:=h1
    have h2':((c.hp r').dn).ver=some v:=h2
    rw [hv] at h1' h2'
    exact G.verInj r r' v h1' h2'
  · intro n b h
    obtain ⟨h1,h2,h3,h4⟩:=G.nam n b h
    exact ⟨h1,h2,h3,htk b h4⟩
theorem outHp_dn (o r:List AObj):(fun n=>(outHp o r n).dn)=outHp (o.map AObj.dn) (r.map AObj.dn):=by
  funext n
  have e:∀ (l:List AObj) (i:Nat),(l.getD i .gone).dn=(l.map AObj.dn).getD i .gone:=by
    intro l i
    rw [List.getD_eq_getElem?_getD,List.getD_eq_getElem?_getD,List.getElem?_map]
    cases l[i]? <;> rfl
  unfold outHp
  split
  · rfl
  · split
    · exact e _ _
    · split
      · exact e _ _
      · rfl
theorem Con.dnr {P:Program} {g:FuncId} {ins:List AObj} {args:List AVal} {sh:Bool} {R R':List AObj→List AObj→AVal→Prop} (h:Con P g ins args sh R)
    (hR:∀ o r x,R o r x→R' (o.map AObj.dn) (r.map AObj.dn) x.dn):Con P g ins args sh R':=by
  refine ⟨h.1,fun c0 outsB vs h1 h2 h3=>(h.2 c0 outsB vs h1 h2 h3).mono ?_⟩
  rintro e w' ⟨v,c1,outs,rows,res,hr,he,hw,G1,hhp,hrep,hext,hold,hkeep,hused⟩
  obtain ⟨G2,K2⟩:=G1.dn
  refine ⟨v,{ c1 with hp:=fun r=>(c1.hp r).dn },_,_,_,hR _ _ _ hr,he,hw,G2,?_,(Rep.dn _ _ hrep).keeps K2,hext,hold,?_,hused⟩
  · show (fun r=>(c1.hp r).dn)=_
    rw [hhp];exact outHp_dn _ _
  · intro r u hu hv
    have hv':((c1.hp r).dn).ver=some u:=hv
    rw [AObj.dn_ver] at hv'
    exact hkeep r u hu hv'
def rwp (ps:List (Nat×List Int)):List AVal:=ps.map fun p=>.ro (some (some (p.1+1))) 1 (ints p.2)
def DJ (ps:List (Nat×List Int)):Prop:=ps.Pairwise fun p q=>p.2=[]∨q.2=[]∨p.1≠q.1
theorem rwp_len {ps:List (Nat×List Int)}:(rwp ps).length=ps.length:=by simp [rwp]
theorem rwp_nil:rwp []=[]:=rfl
theorem rwp_snoc {ps:List (Nat×List Int)} {n:Nat} {xs:List Int}:rwp ps ++ [.ro (some (some (n+1))) 1 (ints xs)]=rwp (ps ++ [(n,xs)]):=by simp [rwp]
theorem dnL_rwp {ps:List (Nat×List Int)}:dnL (rwp ps)=rws (ps.map (·.2)):=by
  simp only [dnL_eq,rwp,rws,List.map_map]
  exact List.map_congr_left fun p _=>by simp [AVal.dn,ints,dnL_eq,dnNm]
theorem renL_rwp {f:Nat→Option Nat} {s:Nat→Nat} {ps:List (Nat×List Int)}:renL f s (rwp ps)=rwp (ps.map fun p=>(s p.1,p.2)):=by
  simp only [renL_eq,rwp,List.map_map]
  exact List.map_congr_left fun p _=>by simp [AVal.ren,ints,renL_eq,rnNm]
theorem DJ.ren {s:Nat→Nat} (hs:∀ x y,s x=s y→x=y) {ps:List (Nat×List Int)} (h:DJ ps):DJ (ps.map fun p=>(s p.1,p.2)):=by
  unfold DJ at h ⊢
  rw [List.pairwise_map]
  refine h.imp fun {p q} hpq=>?_
  rcases hpq with h | h | h
  · exact .inl h
  · exact .inr (.inl h)
  · exact .inr (.inr fun e=>h (hs _ _ e))
theorem DJ.snoc {ps:List (Nat×List Int)} (h:DJ ps) {n:Nat} {xs:List Int} (hn:∀ p∈ps,p.2=[]∨p.1≠n):DJ (ps ++ [(n,xs)]):=by
  unfold DJ at h ⊢
  rw [List.pairwise_append]
  refine ⟨h,by simp,fun p hp q hq=>?_⟩
  have hq:q=(n,xs):=by simpa using hq
  subst hq
  rcases hn p hp with h | h
  · exact .inl h
  · exact .inr (.inr h)
theorem usesL_rwp {U:Nat→Prop} {ps:List (Nat×List Int)} {rest:List AVal} (h:usesL U (rwp ps ++ rest)):∀ p∈ps,p.2=[]∨U p.1:=by
  induction ps with
  | nil=>simp
  | cons q ps ih =>
    simp only [rwp,List.map_cons,List.cons_append,usesL,AVal.uses] at h ih
    intro p hp
    rcases List.mem_cons.1 hp with rfl | hp
    · rcases h.1.1 p.1 rfl with h1 | h1
      · left;simpa using h1
      · exact .inr h1
    · exact ih h.2 p hp
theorem fresh_rwp:∀ {ps:List (Nat×List Int)},freshL (rwp ps)
  | []=>by simp [rwp,freshL]
  | p :: ps=>by
    have h:=fresh_rwp (ps:=ps)
    simp only [rwp,List.map_cons] at h ⊢
    simp only [freshL]
    refine ⟨?_,h⟩
    simp only [AVal.fresh,isNew]
    exact ⟨.inr trivial,of_eq_true fresh_intsK⟩
theorem qCS {p:Prop} (h:p:=by simp only [rowIs,boxIs,coe_argN,coe_argNs,coe_ro_o,coeL_nil,coeL_cons,coe_any,coe_val,coe_ro,coe_ro_nil,coe_ro_own,coe_st,coe_st_agg,coe_rp,coe_rp_ptr,coe_clo,coe_own0,coe_ptr0,coeL_intsK,coeL_rws,coeL_rwn,L_hit,L_miss,L_nil,xx3,ne_eq,reduceCtorEq,not_false_eq_true,true_and,and_true,and_self,exists_eq_left,exists_eq_right,List.mem_cons,List.not_mem_nil,or_false,AObj.row.injEq,AObj.box.injEq,exists_eq_left',exists_and_left,exists_eq,Nat.zero_lt_one,Nat.lt_add_one,List.map_cons,List.map_nil,AObj.ver,xx5,not_true_eq_false]):p:=h
theorem qCO {p:Prop} (h:p:=by simp only [coeL_rwo_t,rowIs,boxIs,coe_argN,coe_argNs,coe_ro_o,coeL_nil,coeL_cons,coe_any,coe_val,coe_ro,coe_ro_nil,coe_ro_own,coe_st,coe_st_agg,coe_rp,coe_rp_ptr,coe_clo,coe_own0,coe_ptr0,coeL_intsK,coeL_rws,coeL_rwn,L_hit,L_miss,L_nil,xx3,ne_eq,reduceCtorEq,not_false_eq_true,true_and,and_true,and_self,exists_eq_left,exists_eq_right,List.mem_cons,List.not_mem_nil,or_false,AObj.row.injEq,AObj.box.injEq,exists_eq_left',exists_and_left,exists_eq,Nat.zero_lt_one,Nat.lt_add_one,List.map_cons,List.map_nil,AObj.ver,xx5,not_true_eq_false]):p:=h
end Go.Ab
namespace Go.Ab
open Go.Proofs
theorem k_l00In (n lo hi:Int):Fun Tryd.prog nz1 [iv n,iv lo,iv hi] (bv (decide (lo≤n) && decide (n≤hi))):=by
  refine fun_of mixed cz8b rfl ⟨rfl,trivial⟩ ?_
  simp only [Bz6a,Az6b,go_sem,yz0,xx9,xx8,xx6,xx7,xx5,xx0,xx1,xx2,reduceIte,xx3,xx4,reduceCtorEq]
  by_cases h:lo≤n <;> simp [h,dn_val]
theorem k_within (n lo hi:Int):Fun Tryd.prog nz4 [iv n,iv lo,iv hi] (bv (decide (lo≤n) && decide (n≤hi))):=by
  refine fun_of mixed cz8e rfl ⟨rfl,trivial⟩ ?_
  simp only [Bz6l,Az6m,go_sem,yz0,xx9,xx8,xx6,xx7,xx5,xx0,xx1,xx2,reduceIte,xx3,xx4,reduceCtorEq]
  by_cases h:lo≤n <;> simp [h,dn_val]
theorem k_size (xs:List Int):Fun Tryd.prog nzd [.ro none 1 (ints xs)] (iv xs.length):=by
  refine fun_of mixed cz8h rfl ⟨rfl,trivial⟩ ?_
  simp only [Bz6r,Az6s,go_sem,yz0,xx9,xx8,xx6,xx7,xx5,xx0,xx1,xx2,reduceIte,xx3,xx4,reduceCtorEq]
theorem k_size1 (xss:List (List Int)):Fun Tryd.prog nz8 [.ro none 1 (rwn xss)] (iv xss.length):=by
  refine fun_of mixed cz82 rfl ⟨rfl,trivial⟩ ?_
  simp only [Bz5f,Az5g,go_sem,yz0,xx9,xx8,xx6,xx7,xx5,xx0,xx1,xx2,reduceIte,xx3,xx4,reduceCtorEq]
end Go.Ab
namespace Go.Ab
open Go.Proofs
section
variable {P:Program} {a b:AC} {Q:AEx→St→Prop} {σ:St}
end
end Go.Ab
namespace Go.Ab
open Go.Proofs
theorem drop_getD {α:Type} {xs:List α} {i:Nat} (h:i<xs.length) (d:α):xs.drop i=xs.getD i d :: xs.drop (i+1):=by
  rw [List.drop_eq_getElem_cons h,List.getD_eq_getElem?_getD,List.getElem?_eq_getElem h];rfl
theorem getD_mem {α:Type} {xs:List α} {i:Nat} (h:i<xs.length) (d:α):xs.getD i d∈xs:=by
  rw [List.getD_eq_getElem?_getD,List.getElem?_eq_getElem h];exact List.getElem_mem h
def fidx {α:Type} (p:α→Bool):List α→Nat→Int
  | [],_=>-1
  | x :: xs,i=>if p x then i else fidx p xs (i+1)
theorem fidx_ge {α:Type} (p:α→Bool):∀ (xs:List α) (i:Nat),decide (0≤fidx p xs i)=xs.any p
  | [],i=>by simp [fidx]
  | x :: xs,i=>by
    have h:=fidx_ge p xs (i+1)
    simp only [fidx,List.any_cons]
    by_cases hp:p x=true
    · simp [hp]
    · have h2:p x=false:=by simpa using hp
      simp only [h2,Bool.false_or,← h]
      simp
structure Caps (caps:List AVal):Prop where
  dn:dnL caps=caps
  coe:∀ hp m len,CoeL hp m len caps caps
theorem k_IndexFunc (xs:List (List Int)) (g:FuncId) (caps:List AVal) (p:List Int→Bool) (hc:Caps caps) (h:∀ x∈xs,Fun Tryd.prog g (.ro none 1 (ints x) :: caps) (bv (p x))) :
    Fun Tryd.prog nz1g [.ro none 1 (rwn xs),.clo g caps] (iv (fidx p xs 0)):=by
  refine fun_of mixed cz8n rfl ⟨rfl,trivial⟩ ?_
  simp only [Az7i,Bz7h,hc.dn,go_sem,yz0,xx9,xx8,xx6,xx7,xx5,xx0,xx1,xx2,reduceIte,xx3,xx4,reduceCtorEq]
  intro hM
  have hM2:=maxLen_le
  simp only [Bz7f,hc.dn,go_sem,yz0,xx9,xx8,xx6,xx7,xx5,xx0,xx1,xx2,reduceIte,xx3,xx4,reduceCtorEq]
  refine wpD_lo (fun i=>xs.length - i) (fun i=>i≤xs.length∧fidx p (xs.drop i) i=fidx p xs 0)
    (fun i:Nat=>⟨L .any [(0,.ro none 1 (rwn xs)),(1,.clo g caps),(7,iv xs.length),(8,iv i)],L .gone []⟩) 0 (by simp) (by simp only [Bzv,hc.dn,go_sem,yz0,xx9,xx8,xx6,xx7,xx5,xx0,xx1,xx2,reduceIte,xx3,xx4,reduceCtorEq];try rfl) ?_
  rintro i ⟨hi,he⟩
  by_cases hlt:(i:Int)<xs.length
  · have hlt':i<xs.length:=by omega
    have w1:IntKind.i64.wrap ((i:Int)+1)=((i+1:Nat):Int):=by rw [w64 (by omega)];simp
    have w2:IntKind.i64.wrap (i:Int)=i:=w64 (by omega)
    rw [drop_getD hlt' []] at he
    simp only [fidx] at he
    simp only [Bzv,Bz2u,Bz2t,Bz7d,rwn_getD hlt',decide_eq_true hlt,hc.dn,go_sem,yz0,xx9,xx8,xx6,xx7,xx5,xx0,xx1,xx2,reduceIte,xx3,xx4,reduceCtorEq]
    intro vs
    refine ⟨⟨by omega,hlt'⟩,hlt',?_⟩
    refine yz1 (h _ (getD_mem hlt' [])) (by simp only [rowIs,boxIs,coe_argN,coe_argNs,coe_ro_o,coeL_nil,coeL_cons,coe_any,coe_val,coe_ro,coe_ro_nil,coe_ro_own,coe_st,coe_st_agg,coe_rp,coe_rp_ptr,coe_clo,coe_own0,coe_ptr0,coeL_intsK,coeL_rws,coeL_rwn,L_hit,L_miss,L_nil,xx3,ne_eq,reduceCtorEq,not_false_eq_true,true_and,and_true,and_self,exists_eq_left,exists_eq_right,List.mem_cons,List.not_mem_nil,or_false,AObj.row.injEq,AObj.box.injEq,exists_eq_left',exists_and_left,exists_eq,Nat.zero_lt_one,Nat.lt_add_one,List.map_cons,List.map_nil,AObj.ver,xx5,not_true_eq_false];exact hc.coe _ _ _) trivial ?_
    simp only [Bz7c,Bz7e,w1,hc.dn,go_sem,yz0,xx9,xx8,xx6,xx7,xx5,xx0,xx1,xx2,reduceIte,xx3,xx4,reduceCtorEq]
    refine ⟨fun hp=>?_,fun hp=>⟨i+1,by omega,⟨by omega,?_⟩,rfl⟩⟩
    · rw [hp] at he;simp at he;rw [← he]
    · rw [hp] at he;simpa using he
  · have:i=xs.length:=by omega
    subst this
    rw [List.drop_length] at he
    simp only [fidx] at he
    simp only [Bzv,Bz2u,Bz2t,Bz7g,decide_eq_false hlt,hc.dn,go_sem,yz0,xx9,xx8,xx6,xx7,xx5,xx0,xx1,xx2,reduceIte,xx3,xx4,reduceCtorEq]
    rw [← he]
theorem k_ContainsFunc (xs:List (List Int)) (g:FuncId) (caps:List AVal) (p:List Int→Bool) (hc:Caps caps) (h:∀ x∈xs,Fun Tryd.prog g (.ro none 1 (ints x) :: caps) (bv (p x))) :
    Fun Tryd.prog nzb [.ro none 1 (rwn xs),.clo g caps] (bv (xs.any p)):=by
  refine fun_of mixed cz8f rfl ⟨rfl,trivial⟩ ?_
  simp only [Bz6n,Az6o,hc.dn,go_sem,yz0,xx9,xx8,xx6,xx7,xx5,xx0,xx1,xx2,reduceIte,xx3,xx4,reduceCtorEq]
  intro vs
  refine yz1 (k_IndexFunc xs g caps p hc h) (by simp only [rowIs,boxIs,coe_argN,coe_argNs,coe_ro_o,coeL_nil,coeL_cons,coe_any,coe_val,coe_ro,coe_ro_nil,coe_ro_own,coe_st,coe_st_agg,coe_rp,coe_rp_ptr,coe_clo,coe_own0,coe_ptr0,coeL_intsK,coeL_rws,coeL_rwn,L_hit,L_miss,L_nil,xx3,ne_eq,reduceCtorEq,not_false_eq_true,true_and,and_true,and_self,exists_eq_left,exists_eq_right,List.mem_cons,List.not_mem_nil,or_false,AObj.row.injEq,AObj.box.injEq,exists_eq_left',exists_and_left,exists_eq,Nat.zero_lt_one,Nat.lt_add_one,List.map_cons,List.map_nil,AObj.ver,xx5,not_true_eq_false];exact hc.coe _ _ _) trivial ?_
  simp only [fidx_ge,go_sem,yz0,xx9,xx8,xx6,xx7,xx5,xx0,xx1,xx2,reduceIte,xx3,xx4,reduceCtorEq]
theorem k_IndexFunc2 (xs:List Int) (g:FuncId) (caps:List AVal) (p:Int→Bool) (hc:Caps caps) (h:∀ x∈xs,Fun Tryd.prog g (iv x :: caps) (bv (p x))) :
    Fun Tryd.prog nz1h [.ro none 1 (ints xs),.clo g caps] (iv (fidx p xs 0)):=by
  refine fun_of mixed cz8o rfl ⟨rfl,trivial⟩ ?_
  simp only [Az7p,Bz7o,hc.dn,go_sem,yz0,xx9,xx8,xx6,xx7,xx5,xx0,xx1,xx2,reduceIte,xx3,xx4,reduceCtorEq]
  intro hM
  have hM2:=maxLen_le
  simp only [Bz7m,hc.dn,go_sem,yz0,xx9,xx8,xx6,xx7,xx5,xx0,xx1,xx2,reduceIte,xx3,xx4,reduceCtorEq]
  refine wpD_lo (fun i=>xs.length - i) (fun i=>i≤xs.length∧fidx p (xs.drop i) i=fidx p xs 0)
    (fun i:Nat=>⟨L .any [(0,.ro none 1 (ints xs)),(1,.clo g caps),(7,iv xs.length),(8,iv i)],L .gone []⟩) 0 (by simp) (by simp only [Bzw,hc.dn,go_sem,yz0,xx9,xx8,xx6,xx7,xx5,xx0,xx1,xx2,reduceIte,xx3,xx4,reduceCtorEq];try rfl) ?_
  rintro i ⟨hi,he⟩
  by_cases hlt:(i:Int)<xs.length
  · have hlt':i<xs.length:=by omega
    have w1:IntKind.i64.wrap ((i:Int)+1)=((i+1:Nat):Int):=by rw [w64 (by omega)];simp
    rw [drop_getD hlt' 0] at he
    simp only [fidx] at he
    simp only [Bzw,Bz2w,Bz2v,Bz7k,intsK_getD hlt',decide_eq_true hlt,hc.dn,go_sem,yz0,xx9,xx8,xx6,xx7,xx5,xx0,xx1,xx2,reduceIte,xx3,xx4,reduceCtorEq]
    intro vs
    refine ⟨⟨by omega,hlt'⟩,hlt',?_⟩
    refine yz1 (h _ (getD_mem hlt' 0)) (by simp only [rowIs,boxIs,coe_argN,coe_argNs,coe_ro_o,coeL_nil,coeL_cons,coe_any,coe_val,coe_ro,coe_ro_nil,coe_ro_own,coe_st,coe_st_agg,coe_rp,coe_rp_ptr,coe_clo,coe_own0,coe_ptr0,coeL_intsK,coeL_rws,coeL_rwn,L_hit,L_miss,L_nil,xx3,ne_eq,reduceCtorEq,not_false_eq_true,true_and,and_true,and_self,exists_eq_left,exists_eq_right,List.mem_cons,List.not_mem_nil,or_false,AObj.row.injEq,AObj.box.injEq,exists_eq_left',exists_and_left,exists_eq,Nat.zero_lt_one,Nat.lt_add_one,List.map_cons,List.map_nil,AObj.ver,xx5,not_true_eq_false];exact hc.coe _ _ _) trivial ?_
    simp only [Bz7j,Bz7l,w1,hc.dn,go_sem,yz0,xx9,xx8,xx6,xx7,xx5,xx0,xx1,xx2,reduceIte,xx3,xx4,reduceCtorEq]
    refine ⟨fun hp=>?_,fun hp=>⟨i+1,by omega,⟨by omega,?_⟩,rfl⟩⟩
    · rw [hp] at he;simp at he;rw [← he]
    · rw [hp] at he;simpa using he
  · have:i=xs.length:=by omega
    subst this
    rw [List.drop_length] at he
    simp only [fidx] at he
    simp only [Bzw,Bz2w,Bz2v,Bz7n,decide_eq_false hlt,hc.dn,go_sem,yz0,xx9,xx8,xx6,xx7,xx5,xx0,xx1,xx2,reduceIte,xx3,xx4,reduceCtorEq]
    rw [← he]
theorem k_ContainsFunc1 (xs:List Int) (g:FuncId) (caps:List AVal) (p:Int→Bool) (hc:Caps caps) (h:∀ x∈xs,Fun Tryd.prog g (iv x :: caps) (bv (p x))) :
    Fun Tryd.prog nz1f [.ro none 1 (ints xs),.clo g caps] (bv (xs.any p)):=by
  refine fun_of mixed cz8l rfl ⟨rfl,trivial⟩ ?_
  simp only [Bz78,Az79,hc.dn,go_sem,yz0,xx9,xx8,xx6,xx7,xx5,xx0,xx1,xx2,reduceIte,xx3,xx4,reduceCtorEq]
  intro vs
  refine yz1 (k_IndexFunc2 xs g caps p hc h) (by simp only [rowIs,boxIs,coe_argN,coe_argNs,coe_ro_o,coeL_nil,coeL_cons,coe_any,coe_val,coe_ro,coe_ro_nil,coe_ro_own,coe_st,coe_st_agg,coe_rp,coe_rp_ptr,coe_clo,coe_own0,coe_ptr0,coeL_intsK,coeL_rws,coeL_rwn,L_hit,L_miss,L_nil,xx3,ne_eq,reduceCtorEq,not_false_eq_true,true_and,and_true,and_self,exists_eq_left,exists_eq_right,List.mem_cons,List.not_mem_nil,or_false,AObj.row.injEq,AObj.box.injEq,exists_eq_left',exists_and_left,exists_eq,Nat.zero_lt_one,Nat.lt_add_one,List.map_cons,List.map_nil,AObj.ver,xx5,not_true_eq_false];exact hc.coe _ _ _) trivial ?_
  simp only [fidx_ge,go_sem,yz0,xx9,xx8,xx6,xx7,xx5,xx0,xx1,xx2,reduceIte,xx3,xx4,reduceCtorEq]
def allIn (xs:List Int) (lo hi:Int):Bool:=xs.all fun x=>decide (lo≤x) && decide (x≤hi)
theorem allIn_iff {xs:List Int} {lo hi:Int}:allIn xs lo hi=true↔∀ x∈xs,lo≤x∧x≤hi:=by simp [allIn]
theorem k_areWithin_1 (n lo hi:Int):Fun Tryd.prog nzf [iv n,.rp [iv lo] 0,.rp [iv hi] 0] (bv !(decide (lo≤n) && decide (n≤hi))):=by
  refine fun_of mixed cz8m rfl ⟨rfl,trivial⟩ ?_
  simp only [Bz7a,Az7b,go_sem,yz0,xx9,xx8,xx6,xx7,xx5,xx0,xx1,xx2,reduceIte,xx3,xx4,reduceCtorEq]
  intro vs
  refine yz1 (k_within n lo hi) qCS trivial ?_
  simp only [go_sem,yz0,xx9,xx8,xx6,xx7,xx5,xx0,xx1,xx2,reduceIte,xx3,xx4,reduceCtorEq]
theorem k_areWithin (xs:List Int) (lo hi:Int):Fun Tryd.prog nza [.ro none 1 (ints xs),iv lo,iv hi] (bv (allIn xs lo hi)):=by
  refine fun_of mixed cz88 rfl ⟨rfl,trivial⟩ ?_
  simp only [Bz61,Az62,go_sem,yz0,xx9,xx8,xx6,xx7,xx5,xx0,xx1,xx2,reduceIte,xx3,xx4,reduceCtorEq]
  intro vs vs2
  refine yz1 (k_ContainsFunc1 xs nzf [.rp [iv lo] 0,.rp [iv hi] 0] _ ⟨by simp only [go_sem,yz0,xx9,xx8,xx6,xx7,xx5,xx0,xx1,xx2,reduceIte,xx3,xx4,reduceCtorEq],by intros;simp only [rowIs,boxIs,coe_argN,coe_argNs,coe_ro_o,coeL_nil,coeL_cons,coe_any,coe_val,coe_ro,coe_ro_nil,coe_ro_own,coe_st,coe_st_agg,coe_rp,coe_rp_ptr,coe_clo,coe_own0,coe_ptr0,coeL_intsK,coeL_rws,coeL_rwn,L_hit,L_miss,L_nil,xx3,ne_eq,reduceCtorEq,not_false_eq_true,true_and,and_true,and_self,exists_eq_left,exists_eq_right,List.mem_cons,List.not_mem_nil,or_false,AObj.row.injEq,AObj.box.injEq,exists_eq_left',exists_and_left,exists_eq,Nat.zero_lt_one,Nat.lt_add_one,List.map_cons,List.map_nil,AObj.ver,xx5,not_true_eq_false]⟩ (fun x _=>k_areWithin_1 x lo hi)) qCS trivial ?_
  simp only [go_sem,yz0,xx9,xx8,xx6,xx7,xx5,xx0,xx1,xx2,reduceIte,xx3,xx4,reduceCtorEq]
  congr 2
  simp only [allIn,List.all_eq_not_any_not]
abbrev autA (n:Int) (next:List (List Int)):AVal:=.st [iv n,.ro none 1 (rwn next)]
abbrev autP (n:Int) (next:List (List Int)):AVal:=.rp [iv n,.ro none 1 (rwn next)] 0
def autB (n:Int) (next:List (List Int)):Bool:=(decide (1≤n) && decide (n≤10)) && ((decide (1≤(next.length:Int)) && decide ((next.length:Int)≤3)) && next.all fun row=>decide ((row.length:Int)=n) && allIn row 0 (n - 1))
theorem autB_iff {n:Int} {next:List (List Int)}:autB n next=true↔Aut n next:=by
  simp only [autB,Bool.and_eq_true,decide_eq_true_eq,List.all_eq_true,allIn_iff]
  constructor
  · rintro ⟨⟨h1,h2⟩,⟨h3,h4⟩,h5⟩
    exact ⟨h1,h2,by omega,by omega,fun row hr=>⟨(h5 row hr).1,fun x hx=>by have:=(h5 row hr).2 x hx;omega⟩⟩
  · rintro ⟨h1,h2,h3,h4,h5⟩
    exact ⟨⟨h1,h2⟩,⟨by omega,by omega⟩,fun row hr=>⟨(h5 row hr).1,fun x hx=>by have:=(h5 row hr).2 x hx;omega⟩⟩
theorem k_letters (n:Int) (next:List (List Int)):Fun Tryd.prog nz17 [autA n next] (iv next.length):=by
  refine fun_of mixed cz87 rfl ⟨rfl,trivial⟩ ?_
  simp only [Bz5z,Az60,go_sem,yz0,xx9,xx8,xx6,xx7,xx5,xx0,xx1,xx2,reduceIte,xx3,xx4,reduceCtorEq]
  intro vs vs2
  refine yz1 (k_size1 next) qCS trivial ?_
  simp only [go_sem,yz0,xx9,xx8,xx6,xx7,xx5,xx0,xx1,xx2,reduceIte,xx3,xx4,reduceCtorEq]
theorem k_Valid_1 (row:List Int) (n:Int) (next:List (List Int)) (hn:1≤n∧n≤10):Fun Tryd.prog nze [.ro none 1 (ints row),autP n next] (bv !(decide ((row.length:Int)=n) && allIn row 0 (n - 1))):=by
  refine fun_of mixed cz8k rfl ⟨rfl,trivial⟩ ?_
  have w:IntKind.i64.wrap (n - 1)=n - 1:=w64 (by omega)
  simp only [Bz76,Az77,w,go_sem,yz0,xx9,xx8,xx6,xx7,xx5,xx0,xx1,xx2,reduceIte,xx3,xx4,reduceCtorEq]
  intro vs
  refine yz1 (k_size row) qCS trivial ?_
  by_cases h:(row.length:Int)=n
  · have h2:((row.length:Int) != n)=false:=by simp [h]
    simp only [h2,w,go_sem,yz0,xx9,xx8,xx6,xx7,xx5,xx0,xx1,xx2,reduceIte,xx3,xx4,reduceCtorEq]
    refine yz1 (k_areWithin row 0 (n - 1)) qCS trivial ?_
    simp only [go_sem,yz0,xx9,xx8,xx6,xx7,xx5,xx0,xx1,xx2,reduceIte,xx3,xx4,reduceCtorEq]
    simp [h]
  · have h2:((row.length:Int) != n)=true:=by simp [h]
    simp only [h2,go_sem,yz0,xx9,xx8,xx6,xx7,xx5,xx0,xx1,xx2,reduceIte,xx3,xx4,reduceCtorEq]
    simp [h]
theorem k_Valid (n:Int) (next:List (List Int)):Fun Tryd.prog nz16 [autA n next] (bv (autB n next)):=by
  refine fun_of mixed cz86 rfl ⟨rfl,trivial⟩ ?_
  simp only [Bz5x,Az5y,go_sem,yz0,xx9,xx8,xx6,xx7,xx5,xx0,xx1,xx2,reduceIte,xx3,xx4,reduceCtorEq]
  intro vs vs2
  refine yz1 (k_within n 1 10) qCS trivial ?_
  by_cases hn:1≤n∧n≤10
  · have h1:(decide (1≤n) && decide (n≤10))=true:=by simp [hn]
    simp only [h1,go_sem,yz0,xx9,xx8,xx6,xx7,xx5,xx0,xx1,xx2,reduceIte,xx3,xx4,reduceCtorEq]
    refine yz1 (k_letters n next) qCS trivial ?_
    simp only [go_sem,yz0,xx9,xx8,xx6,xx7,xx5,xx0,xx1,xx2,reduceIte,xx3,xx4,reduceCtorEq]
    refine yz1 (k_within next.length 1 3) qCS trivial ?_
    by_cases hl:1≤(next.length:Int)∧(next.length:Int)≤3
    · have h2:(decide (1≤(next.length:Int)) && decide ((next.length:Int)≤3))=true:=by simp only [decide_eq_true hl.1,decide_eq_true hl.2,Bool.and_self]
      simp only [h2,go_sem,yz0,xx9,xx8,xx6,xx7,xx5,xx0,xx1,xx2,reduceIte,xx3,xx4,reduceCtorEq]
      refine yz1 (k_ContainsFunc next nze [autP n next] _ ⟨by simp only [go_sem,yz0,xx9,xx8,xx6,xx7,xx5,xx0,xx1,xx2,reduceIte,xx3,xx4,reduceCtorEq],by intros;simp only [rowIs,boxIs,coe_argN,coe_argNs,coe_ro_o,coeL_nil,coeL_cons,coe_any,coe_val,coe_ro,coe_ro_nil,coe_ro_own,coe_st,coe_st_agg,coe_rp,coe_rp_ptr,coe_clo,coe_own0,coe_ptr0,coeL_intsK,coeL_rws,coeL_rwn,L_hit,L_miss,L_nil,xx3,ne_eq,reduceCtorEq,not_false_eq_true,true_and,and_true,and_self,exists_eq_left,exists_eq_right,List.mem_cons,List.not_mem_nil,or_false,AObj.row.injEq,AObj.box.injEq,exists_eq_left',exists_and_left,exists_eq,Nat.zero_lt_one,Nat.lt_add_one,List.map_cons,List.map_nil,AObj.ver,xx5,not_true_eq_false]⟩ (fun x _=>k_Valid_1 x n next hn)) qCS trivial ?_
      simp only [go_sem,yz0,xx9,xx8,xx6,xx7,xx5,xx0,xx1,xx2,reduceIte,xx3,xx4,reduceCtorEq]
      simp only [autB,h1,h2,Bool.true_and]
      congr 2
      simp only [List.all_eq_not_any_not]
    · have h2:(decide (1≤(next.length:Int)) && decide ((next.length:Int)≤3))=false:=by
        rw [Bool.and_eq_false_iff]
        by_cases h3:1≤(next.length:Int)
        · right;simp;omega
        · left;simp;omega
      simp only [h2,go_sem,yz0,xx9,xx8,xx6,xx7,xx5,xx0,xx1,xx2,reduceIte,xx3,xx4,reduceCtorEq]
      simp only [autB,h1,h2,Bool.true_and,Bool.false_and]
  · have h1:(decide (1≤n) && decide (n≤10))=false:=by
      rw [Bool.and_eq_false_iff]
      by_cases h3:1≤n
      · right;simp;omega
      · left;simp;omega
    simp only [h1,go_sem,yz0,xx9,xx8,xx6,xx7,xx5,xx0,xx1,xx2,reduceIte,xx3,xx4,reduceCtorEq]
    simp only [autB,h1,Bool.false_and]
def stepA (next:List (List Int)) (s l:Int):Int:=(next.getD l.toNat []).getD s.toNat 0
def atA (next:List (List Int)) (s:Int) (w:List Int):Int:=w.foldl (stepA next) s
def IsW (l:Nat) (w:List Int):Prop:=∀ x∈w,0≤x∧x<l
theorem Aut.step {n:Int} {next:List (List Int)} (A:Aut n next) {s l:Int} (hs:0≤s∧s<n) (hl:0≤l∧l<next.length) :
    l.toNat<next.length∧s.toNat<(next.getD l.toNat []).length∧0≤stepA next s l∧stepA next s l<n:=by
  have h1:l.toNat<next.length:=by omega
  have h2:=A.row _ (getD_mem h1 [])
  have h3:s.toNat<(next.getD l.toNat []).length:=by omega
  exact ⟨h1,h3,h2.2 _ (getD_mem h3 0)⟩
theorem Aut.at {n:Int} {next:List (List Int)} (A:Aut n next):∀ {w:List Int} {s:Int},0≤s∧s<n→IsW next.length w→0≤atA next s w∧atA next s w<n
  | [],s,hs,_=>hs
  | l :: w,s,hs,hw=>A.at (w:=w) (A.step hs (hw l (by simp))).2.2 fun x hx=>hw x (by simp [hx])
end Go.Ab
namespace Go.Ab
open Go.Proofs
theorem k_l01Map (xs:List Int) (n:Int) (hn:0≤n∧n≤1000000):Fun Tryd.prog nz1e [.ro none 1 (ints xs),iv n] (bv (allIn xs 0 (n - 1) && decide ((xs.length:Int)=n))):=by
  refine fun_of mixed cz8j rfl ⟨rfl,trivial⟩ ?_
  have w0:IntKind.i64.wrap (n - 1)=n - 1:=w64 (by omega)
  simp only [Az75,Bz74,Bz72,go_sem,yz0,xx9,xx8,xx6,xx7,xx5,xx0,xx1,xx2,reduceIte,xx3,xx4,reduceCtorEq]
  refine wpD_lo (fun i=>xs.length - i) (fun i=>i≤xs.length∧allIn (xs.drop i) 0 (n - 1)=allIn xs 0 (n - 1))
    (fun i:Nat=>⟨L .any [(0,.ro none 1 (ints xs)),(1,iv n),(5,iv i)],L .gone []⟩) 0 (by simp) (by simp only [Bzu,go_sem,yz0,xx9,xx8,xx6,xx7,xx5,xx0,xx1,xx2,reduceIte,xx3,xx4,reduceCtorEq];try rfl) ?_
  rintro i ⟨hi,he⟩
  have hM2:=maxLen_le
  by_cases hlt:(i:Int)<xs.length
  · have hlt':i<xs.length:=by omega
    simp only [Bzu,Bz2r,Bz2s,intsK_getD hlt',w0,decide_eq_true hlt,go_sem,yz0,xx9,xx8,xx6,xx7,xx5,xx0,xx1,xx2,reduceIte,xx3,xx4,reduceCtorEq]
    intro hM vs
    refine ⟨⟨by omega,hlt'⟩,hlt',?_⟩
    refine yz1 (k_l00In (xs.getD i 0) 0 (n - 1)) qCS trivial ?_
    have w1:IntKind.i64.wrap ((i:Int)+1)=((i+1:Nat):Int):=by rw [w64 (by omega)];simp
    rw [drop_getD hlt' 0] at he
    simp only [allIn,List.all_cons] at he
    simp only [Bz70,Bz71,w1,go_sem,yz0,xx9,xx8,xx6,xx7,xx5,xx0,xx1,xx2,reduceIte,xx3,xx4,reduceCtorEq]
    refine ⟨fun hp=>?_,fun hp=>⟨i+1,by omega,⟨by omega,?_⟩,rfl⟩⟩
    · rw [Bool.not_eq_true'] at hp
      rw [hp] at he
      simp only [allIn,← he,Bool.false_and]
    · rw [Bool.not_eq_false'] at hp
      rw [hp] at he
      simpa [allIn] using he
  · have:i=xs.length:=by omega
    subst this
    rw [List.drop_length] at he
    simp only [Bzu,Bz2r,Bz2s,Bz73,decide_eq_false hlt,go_sem,yz0,xx9,xx8,xx6,xx7,xx5,xx0,xx1,xx2,reduceIte,xx3,xx4,reduceCtorEq]
    intro _ _
    rw [← he]
    simp [allIn]
    rfl
theorem k_l01Ok (n:Int) (next:List (List Int)):Fun Tryd.prog nz15 [autP n next] (bv (autB n next)):=by
  refine fun_of mixed cz85 rfl ⟨rfl,trivial⟩ ?_
  simp only [Az5w,Bz5v,go_sem,yz0,xx9,xx8,xx6,xx7,xx5,xx0,xx1,xx2,reduceIte,xx3,xx4,reduceCtorEq]
  intro vs
  refine yz1 (k_l00In n 1 10) qCS trivial ?_
  by_cases hn:1≤n∧n≤10
  · have h1:(decide (1≤n) && decide (n≤10))=true:=by simp [hn]
    simp only [h1,go_sem,yz0,xx9,xx8,xx6,xx7,xx5,xx0,xx1,xx2,reduceIte,xx3,xx4,reduceCtorEq]
    intro hM
    refine yz1 (k_l00In next.length 1 3) qCS trivial ?_
    by_cases hl:1≤(next.length:Int)∧(next.length:Int)≤3
    · have h2:(decide (1≤(next.length:Int)) && decide ((next.length:Int)≤3))=true:=by simp only [decide_eq_true hl.1,decide_eq_true hl.2,Bool.and_self]
      simp only [h2,Bzq,Bz5u,Bz5s,go_sem,yz0,xx9,xx8,xx6,xx7,xx5,xx0,xx1,xx2,reduceIte,xx3,xx4,reduceCtorEq]
      have hB:autB n next=next.all fun row=>decide ((row.length:Int)=n) && allIn row 0 (n - 1):=by simp only [autB,h1,h2,Bool.true_and]
      refine wpD_lo (fun i=>next.length - i) (fun i=>i≤next.length∧((next.drop i).all fun row=>decide ((row.length:Int)=n) && allIn row 0 (n - 1))=autB n next)
        (fun i:Nat=>⟨L .any [(0,autP n next),(3,iv i)],L .gone []⟩) 0 (by simp [hB]) (by simp only [Bzr,go_sem,yz0,xx9,xx8,xx6,xx7,xx5,xx0,xx1,xx2,reduceIte,xx3,xx4,reduceCtorEq];try rfl) ?_
      rintro i ⟨hi,he⟩
      by_cases hlt:(i:Int)<next.length
      · have hlt':i<next.length:=by omega
        have w1:IntKind.i64.wrap ((i:Int)+1)=((i+1:Nat):Int):=by rw [w64 (by omega)];simp
        simp only [Bzr,Bz2g,Bz2h,rwn_getD hlt',decide_eq_true hlt,go_sem,yz0,xx9,xx8,xx6,xx7,xx5,xx0,xx1,xx2,reduceIte,xx3,xx4,reduceCtorEq]
        intro _ vs2
        refine ⟨⟨by omega,hlt'⟩,hlt',?_⟩
        refine yz1 (k_l01Map (next.getD i []) n (by omega)) qCS trivial ?_
        rw [drop_getD hlt' []] at he
        simp only [List.all_cons] at he
        simp only [Bz5q,Bz5r,w1,go_sem,yz0,xx9,xx8,xx6,xx7,xx5,xx0,xx1,xx2,reduceIte,xx3,xx4,reduceCtorEq]
        refine ⟨fun hp=>?_,fun hp=>⟨i+1,by omega,⟨by omega,?_⟩,rfl⟩⟩
        · rw [Bool.not_eq_true',Bool.and_comm] at hp
          rw [hp] at he
          rw [← he];rfl
        · rw [Bool.not_eq_false',Bool.and_comm] at hp
          rw [hp] at he
          simpa using he
      · have:i=next.length:=by omega
        subst this
        rw [List.drop_length] at he
        simp only [Bzr,Bz2g,Bz2h,Bz5t,decide_eq_false hlt,go_sem,yz0,xx9,xx8,xx6,xx7,xx5,xx0,xx1,xx2,reduceIte,xx3,xx4,reduceCtorEq]
        intro _
        rw [← he];rfl
    · have h2:(decide (1≤(next.length:Int)) && decide ((next.length:Int)≤3))=false:=by
        rw [Bool.and_eq_false_iff]
        by_cases h3:1≤(next.length:Int)
        · right;simp;omega
        · left;simp;omega
      simp only [h2,Bzq,go_sem,yz0,xx9,xx8,xx6,xx7,xx5,xx0,xx1,xx2,reduceIte,xx3,xx4,reduceCtorEq]
      simp only [autB,h1,h2,Bool.true_and,Bool.false_and]
  · have h1:(decide (1≤n) && decide (n≤10))=false:=by
      rw [Bool.and_eq_false_iff]
      by_cases h3:1≤n
      · right;simp;omega
      · left;simp;omega
    simp only [h1,Bzq,go_sem,yz0,xx9,xx8,xx6,xx7,xx5,xx0,xx1,xx2,reduceIte,xx3,xx4,reduceCtorEq]
    simp only [autB,h1,Bool.false_and]
end Go.Ab
namespace Go.Ab
open Go.Proofs
theorem nat1 (i:Nat) (m:Nat) (h:i<m) (hm:m≤maxLen):IntKind.i64.wrap ((i:Int)+1)=((i+1:Nat):Int):=by
  have:=maxLen_le
  rw [w64 (by omega)];simp
theorem take_eq_step {α:Type} [BEq α] {xs ys:List α} {i:Nat} (d:α) (h:i<xs.length) (h':i<ys.length) (he:xs.take i=ys.take i) (hx:xs.getD i d=ys.getD i d):xs.take (i+1)=ys.take (i+1):=by
  rw [List.getD_eq_getElem?_getD,List.getD_eq_getElem?_getD,List.getElem?_eq_getElem h,List.getElem?_eq_getElem h'] at hx
  simp only [Option.getD_some] at hx
  rw [List.take_add_one,List.take_add_one,he,List.getElem?_eq_getElem h,List.getElem?_eq_getElem h',hx]
theorem bne_false_eq {a b:Int} (h:(a != b)=false):a=b:=by simpa using h
end Go.Ab
namespace Go.Ab
open Go.Proofs
theorem k_szInt64S (xs:List Int) (left:Int) (h:0≤left∧left≤4611686018427387904) :
    Fun Tryd.prog nz18 [.ro none 1 (ints xs),iv left] (iv (if left - xs.length<0 then -1 else left - xs.length)):=by
  refine fun_of mixed cz89 rfl ⟨rfl,trivial⟩ ?_
  simp only [Bz63,Bz64,Bz65,Bz66,Az67,go_sem,yz0,xx9,xx8,xx6,xx7,xx5,xx0,xx1,xx2,reduceIte,xx3,xx4,reduceCtorEq]
  intro hM
  have hM2:=maxLen_le
  rw [w64 (by omega)]
  by_cases hl:left - xs.length<0
  · simp [hl]
  · simp [hl]
def szRows:List (List Int)→Int→Int
  | [],l=>l
  | xs :: r,l=>if l - xs.length<0 then -1 else szRows r (l - xs.length)
def szLL (xss:List (List Int)) (l:Int):Int:=if l - xss.length<0 then -1 else szRows xss (l - xss.length)
theorem szRows_ge:∀ (xss:List (List Int)) (l:Int),0≤szRows xss l→0≤l→(∀ xs∈xss,(xs.length:Int)≤l)∧szRows xss l≤l
  | [],l,_,_=>⟨by simp,by simp [szRows]⟩
  | xs :: r,l,h,hl=>by
    simp only [szRows] at h ⊢
    split at h
    · omega
    · rename_i hlt
      obtain ⟨h1,h2⟩:=szRows_ge r _ h (by omega)
      rw [if_neg hlt]
      refine ⟨?_,by omega⟩
      intro ys hy
      rcases List.mem_cons.1 hy with rfl | hy
      · omega
      · have:=h1 ys hy;omega
theorem szLL_ge {xss:List (List Int)} {l:Int} (h:0≤szLL xss l):(xss.length:Int)≤l∧(∀ xs∈xss,(xs.length:Int)≤l)∧szLL xss l≤l:=by
  unfold szLL at h ⊢
  split at h
  · omega
  · rename_i hlt
    obtain ⟨h1,h2⟩:=szRows_ge xss _ h (by omega)
    rw [if_neg hlt]
    exact ⟨by omega,fun xs hx=>by have:=h1 xs hx;omega,by omega⟩
theorem k_szInt64SS (xss:List (List Int)) (left:Int) (h:0≤left∧left≤4611686018427387904) :
    Fun Tryd.prog nz6 [.ro none 1 (rwn xss),iv left] (iv (szLL xss left)):=by
  refine fun_of mixed cz7w rfl ⟨rfl,trivial⟩ ?_
  simp only [Az4a,Bz49,go_sem,yz0,xx9,xx8,xx6,xx7,xx5,xx0,xx1,xx2,reduceIte,xx3,xx4,reduceCtorEq]
  intro hM
  have hM2:=maxLen_le
  have hw:IntKind.i64.wrap (left - (xss.length:Int))=left - xss.length:=w64 (by omega)
  by_cases hl:left - xss.length<0
  · simp only [Bz23,Bz1y,hw,decide_eq_true hl,go_sem,yz0,xx9,xx8,xx6,xx7,xx5,xx0,xx1,xx2,reduceIte,xx3,xx4,reduceCtorEq]
    rw [szLL,if_pos hl]
  · simp only [Bz23,Bz1y,hw,decide_eq_false hl,go_sem,yz0,xx9,xx8,xx6,xx7,xx5,xx0,xx1,xx2,reduceIte,xx3,xx4,reduceCtorEq]
    simp only [Bz48,Bz46,go_sem,yz0,xx9,xx8,xx6,xx7,xx5,xx0,xx1,xx2,reduceIte,xx3,xx4,reduceCtorEq]
    refine wpD_lo (fun (i,_)=>xss.length - i) (fun (i,l)=>i≤xss.length∧0≤l∧l≤left∧szRows (xss.drop i) l=szLL xss left)
      (fun ((i,l):Nat×Int)=>⟨L .any [(0,.ro none 1 (rwn xss)),(1,iv l),(5,iv i)],L .gone []⟩) (0,left - xss.length) ⟨by omega,by omega,by omega,by rw [szLL,if_neg hl];rfl⟩ (by simp only [Bzj,go_sem,yz0,xx9,xx8,xx6,xx7,xx5,xx0,xx1,xx2,reduceIte,xx3,xx4,reduceCtorEq];try rfl) ?_
    rintro ⟨i,l⟩ ⟨hi,h0,h1,he⟩
    by_cases hlt:(i:Int)<xss.length
    · have hlt1:i<xss.length:=by omega
      simp only [Bzj,Bz1z,Bz22,rwn_getD hlt1,decide_eq_true hlt,go_sem,yz0,xx9,xx8,xx6,xx7,xx5,xx0,xx1,xx2,reduceIte,xx3,xx4,reduceCtorEq]
      intro hM vs
      refine ⟨⟨by omega,hlt1⟩,hlt1,?_⟩
      refine yz1 (k_szInt64S (xss.getD i []) l (by omega)) qCS trivial ?_
      rw [drop_getD hlt1 []] at he
      simp only [szRows] at he
      by_cases hs:l - (xss.getD i []).length<0
      · simp only [Bz21,Bz20,if_pos hs,decide_true,go_sem,yz0,xx9,xx8,xx6,xx7,xx5,xx0,xx1,xx2,reduceIte,xx3,xx4,reduceCtorEq]
        rw [if_pos hs] at he
        rw [← he]
      · simp only [Bz21,Bz20,if_neg hs,decide_eq_false hs,go_sem,yz0,xx9,xx8,xx6,xx7,xx5,xx0,xx1,xx2,reduceIte,xx3,xx4,reduceCtorEq]
        rw [if_neg hs] at he
        simp only [Bz45,nat1 i _ hlt1 hM,go_sem,yz0,xx9,xx8,xx6,xx7,xx5,xx0,xx1,xx2,reduceIte,xx3,xx4,reduceCtorEq]
        exact ⟨(i+1,_),by dsimp only;omega,⟨by dsimp only;omega,by dsimp only;omega,by dsimp only;omega,he⟩,rfl⟩
    · have:i=xss.length:=by omega
      subst this
      rw [List.drop_length] at he
      simp only [szRows] at he
      simp only [Bzj,Bz1z,Bz22,Bz47,decide_eq_false hlt,go_sem,yz0,xx9,xx8,xx6,xx7,xx5,xx0,xx1,xx2,reduceIte,xx3,xx4,reduceCtorEq]
      intro _
      rw [← he]
theorem k_eqInt64S (xs ys:List Int):Fun Tryd.prog nz1d [.ro none 1 (ints xs),.ro none 1 (ints ys)] (bv (decide (xs=ys))):=by
  refine fun_of mixed cz8i rfl ⟨rfl,trivial⟩ ?_
  simp only [Az6z,Bz6y,go_sem,yz0,xx9,xx8,xx6,xx7,xx5,xx0,xx1,xx2,reduceIte,xx3,xx4,reduceCtorEq]
  intro hx hy
  by_cases hlen:xs.length=ys.length
  · have hne:((xs.length:Int) != (ys.length:Int))=false:=by rw [hlen];simp
    simp only [hne,Bz2o,Bz6x,Bz6v,go_sem,yz0,xx9,xx8,xx6,xx7,xx5,xx0,xx1,xx2,reduceIte,xx3,xx4,reduceCtorEq]
    refine wpD_lo (fun i=>xs.length - i) (fun i=>i≤xs.length∧xs.take i=ys.take i)
      (fun i:Nat=>⟨L .any [(0,.ro none 1 (ints xs)),(1,.ro none 1 (ints ys)),(5,iv i)],L .gone []⟩) 0 (by simp) (by simp only [Bzt,go_sem,yz0,xx9,xx8,xx6,xx7,xx5,xx0,xx1,xx2,reduceIte,xx3,xx4,reduceCtorEq];try rfl) ?_
    rintro i ⟨hi,hti⟩
    by_cases hlt:(i:Int)<xs.length
    · have hlt1:i<xs.length:=by omega
      have hlt2:i<ys.length:=by omega
      simp only [Bzt,Bz2p,Bz2q,intsK_getD hlt1,intsK_getD hlt2,decide_eq_true hlt,go_sem,yz0,xx9,xx8,xx6,xx7,xx5,xx0,xx1,xx2,reduceIte,xx3,xx4,reduceCtorEq]
      intro _
      refine ⟨⟨by omega,hlt1⟩,hlt1,⟨by omega,hlt2⟩,hlt2,?_⟩
      simp only [Bz6t,Bz6u,nat1 i _ hlt1 hx,go_sem,yz0,xx9,xx8,xx6,xx7,xx5,xx0,xx1,xx2,reduceIte,xx3,xx4,reduceCtorEq]
      refine ⟨fun h=>?_,fun h=>⟨i+1,by omega,⟨by omega,take_eq_step 0 hlt1 hlt2 hti (bne_false_eq h)⟩,rfl⟩⟩
      have:xs≠ys:=by rintro rfl;simp at h
      simp [this]
    · have:i=xs.length:=by omega
      subst this
      simp only [Bzt,Bz2p,Bz2q,Bz6w,decide_eq_false hlt,go_sem,yz0,xx9,xx8,xx6,xx7,xx5,xx0,xx1,xx2,reduceIte,xx3,xx4,reduceCtorEq]
      intro _
      have:xs=ys:=by rw [List.take_length,hlen,List.take_length] at hti;exact hti
      simp [this]
  · have hne:((xs.length:Int) != (ys.length:Int))=true:=by simp;omega
    simp only [hne,Bz2o,go_sem,yz0,xx9,xx8,xx6,xx7,xx5,xx0,xx1,xx2,reduceIte,xx3,xx4,reduceCtorEq]
    have:xs≠ys:=by rintro rfl;exact hlen rfl
    simp [this]
theorem take_eq_step' {α:Type} {xs ys:List α} {i:Nat} (d:α) (h:i<xs.length) (h':i<ys.length) (he:xs.take i=ys.take i) (hx:xs.getD i d=ys.getD i d):xs.take (i+1)=ys.take (i+1):=by
  rw [List.getD_eq_getElem?_getD,List.getD_eq_getElem?_getD,List.getElem?_eq_getElem h,List.getElem?_eq_getElem h'] at hx
  simp only [Option.getD_some] at hx
  rw [List.take_succ_eq_append_getElem h,List.take_succ_eq_append_getElem h',he,hx]
theorem k_eqInt64SS (xss yss:List (List Int)):Fun Tryd.prog nz9 [.ro none 1 (rwn xss),.ro none 1 (rwn yss)] (bv (decide (xss=yss))):=by
  refine fun_of mixed cz84 rfl ⟨rfl,trivial⟩ ?_
  simp only [Az5p,Bz5o,go_sem,yz0,xx9,xx8,xx6,xx7,xx5,xx0,xx1,xx2,reduceIte,xx3,xx4,reduceCtorEq]
  intro hx hy
  by_cases hlen:xss.length=yss.length
  · have hne:((xss.length:Int) != (yss.length:Int))=false:=by rw [hlen];simp
    simp only [hne,Bz2d,Bz5n,Bz5l,go_sem,yz0,xx9,xx8,xx6,xx7,xx5,xx0,xx1,xx2,reduceIte,xx3,xx4,reduceCtorEq]
    refine wpD_lo (fun i=>xss.length - i) (fun i=>i≤xss.length∧xss.take i=yss.take i)
      (fun i:Nat=>⟨L .any [(0,.ro none 1 (rwn xss)),(1,.ro none 1 (rwn yss)),(5,iv i)],L .gone []⟩) 0 (by simp) (by simp only [Bzp,go_sem,yz0,xx9,xx8,xx6,xx7,xx5,xx0,xx1,xx2,reduceIte,xx3,xx4,reduceCtorEq];try rfl) ?_
    rintro i ⟨hi,hti⟩
    by_cases hlt:(i:Int)<xss.length
    · have hlt1:i<xss.length:=by omega
      have hlt2:i<yss.length:=by omega
      simp only [Bzp,Bz2e,Bz2f,rwn_getD hlt1,rwn_getD hlt2,decide_eq_true hlt,go_sem,yz0,xx9,xx8,xx6,xx7,xx5,xx0,xx1,xx2,reduceIte,xx3,xx4,reduceCtorEq]
      intro _ vs
      refine ⟨⟨by omega,hlt1⟩,hlt1,⟨by omega,hlt2⟩,hlt2,?_⟩
      refine yz1 (k_eqInt64S (xss.getD i []) (yss.getD i [])) qCS trivial ?_
      simp only [Bz5j,Bz5k,nat1 i _ hlt1 hx,go_sem,yz0,xx9,xx8,xx6,xx7,xx5,xx0,xx1,xx2,reduceIte,xx3,xx4,reduceCtorEq]
      refine ⟨fun h=>?_,fun h=>⟨i+1,by omega,⟨by omega,take_eq_step' [] hlt1 hlt2 hti (by simpa using h)⟩,rfl⟩⟩
      have:xss≠yss:=by rintro rfl;simp at h
      simp [this]
    · have:i=xss.length:=by omega
      subst this
      simp only [Bzp,Bz2e,Bz2f,Bz5m,decide_eq_false hlt,go_sem,yz0,xx9,xx8,xx6,xx7,xx5,xx0,xx1,xx2,reduceIte,xx3,xx4,reduceCtorEq]
      intro _
      have:xss=yss:=by rw [List.take_length,hlen,List.take_length] at hti;exact hti
      simp [this]
  · have hne:((xss.length:Int) != (yss.length:Int))=true:=by simp;omega
    simp only [hne,Bz2d,go_sem,yz0,xx9,xx8,xx6,xx7,xx5,xx0,xx1,xx2,reduceIte,xx3,xx4,reduceCtorEq]
    have:xss≠yss:=by rintro rfl;exact hlen rfl
    simp [this]
theorem intsK_take {k:IntKind} {xs:List Int} {i:Nat}:(intsK k xs).take i=intsK k (xs.take i):=by simp [List.map_take]
theorem intsK_drop {k:IntKind} {xs:List Int} {i:Nat}:(intsK k xs).drop i=intsK k (xs.drop i):=by simp [List.map_drop]
theorem intsK_cat {k:IntKind} {xs ys:List Int}:intsK k xs ++ intsK k ys=intsK k (xs ++ ys):=by simp
theorem fill_step {α:Type} (xs:List α) (z d:α) (i:Nat) (h:i<xs.length) :
    ((xs.take i ++ List.replicate (xs.length - i) z).take i ++ [xs.getD i d]) ++ (xs.take i ++ List.replicate (xs.length - i) z).drop (i+1)=xs.take (i+1) ++ List.replicate (xs.length - (i+1)) z:=by
  have h1:(xs.take i).length=i:=by simp;omega
  have h2:(xs.take i ++ List.replicate (xs.length - i) z).take i=xs.take i:=by rw [List.take_append_of_le_length (by omega),List.take_of_length_le (by omega)]
  have h3:(xs.take i ++ List.replicate (xs.length - i) z).drop (i+1)=List.replicate (xs.length - (i+1)) z:=by
    rw [List.drop_append,h1,List.drop_eq_nil_of_le (by omega),List.nil_append,List.drop_replicate]
    congr 1;omega
  rw [h2,h3,List.take_succ_eq_append_getElem h]
  congr 2
  rw [List.getD_eq_getElem?_getD,List.getElem?_eq_getElem h];rfl
theorem k_toInt64S (xs:List Int) (h:xs.length * 8≤140737488355328):RowI Tryd.prog nz1a [.ro none 1 (ints xs)] (fun ys=>ys=xs):=by
  refine rowI_of mixed cz8c rfl ?_
  simp only [Az6i,Bz6h,go_sem,yz0,xx9,xx8,xx6,xx7,xx5,xx0,xx1,xx2,reduceIte,xx3,xx4,reduceCtorEq]
  intro vs hM
  have hM2:=maxLen_le
  refine ⟨by omega,?_⟩
  simp only [Bz6g,Bz6e,ints_rep,go_sem,yz0,xx9,xx8,xx6,xx7,xx5,xx0,xx1,xx2,reduceIte,xx3,xx4,reduceCtorEq]
  refine wpD_lo (fun i=>xs.length - i) (fun i=>i≤xs.length)
    (fun i:Nat=>⟨L .any [(0,.ro none 1 (ints xs)),(3,.own 7 (vs 2 0)),(4,iv i)],L .gone [(7,.row (vs 2 0) 1 true (ints (xs.take i ++ List.replicate (xs.length - i) 0)))]⟩) 0 (by simp) (by simp only [Bzs,List.take_zero,Nat.sub_zero,go_sem,yz0,xx9,xx8,xx6,xx7,xx5,xx0,xx1,xx2,reduceIte,xx3,xx4,reduceCtorEq];try rfl) ?_
  intro i hi
  by_cases hlt:(i:Int)<xs.length
  · have hlt1:i<xs.length:=by omega
    have hl:(xs.take i ++ List.replicate (xs.length - i) (0:Int)).length=xs.length:=by simp;omega
    simp only [Bzs,Bz2m,Bz2n,intsK_getD hlt1,decide_eq_true hlt,go_sem,yz0,xx9,xx8,xx6,xx7,xx5,xx0,xx1,xx2,reduceIte,xx3,xx4,reduceCtorEq]
    intro vs2
    refine ⟨⟨by omega,hlt1⟩,hlt1,⟨by omega,by rw [hl];exact hlt1⟩,⟨by rw [hl];exact hlt1,?_⟩⟩
    simp only [Bz6d,nat1 i _ hlt1 hM,go_sem,yz0,xx9,xx8,xx6,xx7,xx5,xx0,xx1,xx2,reduceIte,xx3,xx4,reduceCtorEq]
    refine ⟨i+1,by omega,by omega,?_⟩
    simp only [intsK_take,intsK_drop,dnL_ints,intsK_snoc,intsK_cat,fill_step xs 0 0 i hlt1]
  · have:i=xs.length:=by omega
    subst this
    simp only [Bzs,Bz2m,Bz2n,Bz6f,decide_eq_false hlt,go_sem,yz0,xx9,xx8,xx6,xx7,xx5,xx0,xx1,xx2,reduceIte,xx3,xx4,reduceCtorEq]
    intro _
    exact ⟨7,vs 2 0,xs,by omega,rfl,by simp only [List.take_length,Nat.sub_self,List.replicate_zero,go_sem,yz0,xx9,xx8,xx6,xx7,xx5,xx0,xx1,xx2,reduceIte,xx3,xx4,reduceCtorEq],rfl⟩
abbrev nilS:AVal:=.val (.slice none 0 0)
theorem rep_flat1 {α:Type} {m:Nat} {a:α}:(List.replicate m [a]).flatten=List.replicate m a:=by
  induction m with
  | zero=>rfl
  | succ m ih=>rw [List.replicate_succ,List.flatten_cons,ih];rfl
theorem rwp_fill (ps:List (Nat×List Int)) (m i:Nat) (hp:ps.length=i) (hm:i<m) (n:Nat) (xs:List Int) :
    ((rwp ps ++ List.replicate (m - i) nilS).take i ++ [.ro (some (some (n+1))) 1 (ints xs)]) ++ (rwp ps ++ List.replicate (m - i) nilS).drop (i+1)=rwp (ps ++ [(n,xs)]) ++ List.replicate (m - (i+1)) nilS:=by
  have h1:(rwp ps).length=i:=by rw [rwp_len];exact hp
  have h2:(rwp ps ++ List.replicate (m - i) nilS).take i=rwp ps:=by rw [List.take_append_of_le_length (by omega),List.take_of_length_le (by omega)]
  have h3:(rwp ps ++ List.replicate (m - i) nilS).drop (i+1)=List.replicate (m - (i+1)) nilS:=by
    rw [List.drop_append,h1,List.drop_eq_nil_of_le (by omega),List.nil_append,List.drop_replicate]
    congr 1;omega
  rw [h2,h3,rwp_snoc]
theorem call_rowIs {P:Program} {pu:Bool} {σ:St} {g:FuncId} {As args:List AVal} {d:Nat} {s:Nat→Nat} {K:St→Prop} {Q:List Int→Prop} (h:RowI P g args Q) (hco:CoeL σ.hp [] true args As) (hg:σ.hp d=.gone) (hex:∃ xs,Q xs)
    (hk:∀ xs v,Q xs→K (St.put ⟨σ.tm,upd σ.hp d (.row (s v) 1 true (ints xs))⟩ (some d) (.own d (s v)))):wpCall P pu σ g As (some d) s K:=by
  refine call_fn h hco (fun _=>?_) ?_
  · obtain ⟨xs,hx⟩:=hex
    exact ⟨_,_,ints xs,0,⟨xs,rfl,hx⟩,flat_intsK,rfl,rfl⟩
  · rintro rows res ⟨cs,v,⟨xs,rfl,hx⟩,hf,rfl,rfl⟩
    refine ⟨by simp,?_,?_⟩
    · rw [Option.getD_some,gone_one];exact hg
    · rw [Option.getD_some,callHp_one,oren_row,renL_flat (ints xs) hf,List.length_singleton,ren_own_r0]
      exact hk xs v hx
theorem k_toInt64SSn (xss:List (List Int)) (h:xss.length * 24≤140737488355328) (hx:∀ xs∈xss,xs.length * 8≤140737488355328) :
    Fn Tryd.prog nz7 [.ro none 1 (rwn xss)] (fun rows res=>∃ v ps,rows=[.row v 1 true (rwp ps)]∧ps.map (·.2)=xss∧DJ ps∧res=.own 6000 v):=by
  refine con_of mixed cz7z rfl (by simp) ?_
  simp only [Az55,Bz54,wpD_kp,wpD_regi,go_sem,yz0,xx9,xx8,xx6,xx7,xx5,xx0,xx1,xx2,reduceIte,xx3,xx4,reduceCtorEq]
  intro vs0 U0 hN0 vs U hN hM
  have hM2:=maxLen_le
  refine ⟨by omega,?_⟩
  simp only [Bz53,Bz51,rep_flat1,wpD_kp,wpD_regi,go_sem,yz0,xx9,xx8,xx6,xx7,xx5,xx0,xx1,xx2,reduceIte,xx3,xx4,reduceCtorEq]
  intro vs1 U1 hN1
  refine wpD_lp (fun ps=>xss.length - List.length ps) (fun ps=>List.map (·.2) ps=xss.take (List.length ps)∧List.length ps≤xss.length∧DJ ps)
    (fun ps:List (Nat×List Int)=>⟨L .any [(0,.ro none 1 (rwn xss)),(3,.own 7 (vs 2 0)),(4,iv ps.length)],L .gone [(7,.row (vs 2 0) 1 true (rwp ps ++ List.replicate (xss.length - ps.length) nilS)),(20,.gone),(5000,.gone)]⟩)
    [] ⟨rfl,by simp,by simp [DJ]⟩ (by simp only [Bz50,List.length_nil,Nat.sub_zero,rwp_nil,List.nil_append,go_sem,yz0,xx9,xx8,xx6,xx7,xx5,xx0,xx1,xx2,reduceIte,xx3,xx4,reduceCtorEq];try rfl) ?_
  rintro ps ⟨hp1,hp2,hp3⟩
  by_cases hlt:(ps.length:Int)<xss.length
  · have hlt1:ps.length<xss.length:=by omega
    have hl:(rwp ps ++ List.replicate (xss.length - ps.length) nilS).length=xss.length:=by simp [rwp_len];omega
    simp only [Bz2a,Bz2b,rwn_getD hlt1,decide_eq_true hlt,wpD_kp,wpD_regi,go_sem,yz0,xx9,xx8,xx6,xx7,xx5,xx0,xx1,xx2,reduceIte,xx3,xx4,reduceCtorEq]
    intro vs2 U2 hN2 hM3 vs3 U3 hN3
    refine ⟨⟨by omega,hlt1⟩,hlt1,?_⟩
    refine call_rowIs (k_toInt64S (xss.getD ps.length []) (hx _ (getD_mem hlt1 _))) qCS rfl ⟨_,rfl⟩ ?_
    rintro ys v rfl
    simp only [go_sem,yz0,xx9,xx8,xx6,xx7,xx5,xx0,xx1,xx2,reduceIte,xx3,xx4,reduceCtorEq]
    refine ⟨⟨by omega,by rw [hl];exact hlt1⟩,⟨by rw [hl];exact hlt1,?_⟩⟩
    simp only [Bz4z,wpD_kp,wpD_regi,nat1 _ _ hlt1 hM,rwp_fill ps _ _ rfl hlt1,go_sem,yz0,xx9,xx8,xx6,xx7,xx5,xx0,xx1,xx2,reduceIte,xx3,xx4,reduceCtorEq]
    intro vs4 U4 hN4
    have hU:=hN3.hp 7
    simp only [AObj.uses,go_sem,yz0,xx9,xx8,xx6,xx7,xx5,xx0,xx1,xx2,reduceIte,xx3,xx4,reduceCtorEq] at hU
    have hold:=usesL_rwp hU.2
    refine ⟨ps ++ [(vs3 6 v,xss.getD ps.length [])],by simp;omega,⟨?_,by simp;omega,hp3.snoc fun p hp=>?_⟩,by simp only [List.length_append,List.length_singleton]⟩
    · rw [List.map_append,hp1,List.length_append,List.length_singleton,List.take_succ_eq_append_getElem hlt1,List.getD_eq_getElem?_getD,List.getElem?_eq_getElem hlt1];rfl
    · rcases hold p hp with h | h
      · exact .inl h
      · exact .inr fun e=>hN3.new 6 v (e ▸ h)
  · have hlen:ps.length=xss.length:=by omega
    rw [hlen,List.take_length] at hp1
    simp only [Bz2a,Bz2b,Bz52,decide_eq_false hlt,wpD_kp,wpD_regi,go_sem,yz0,xx9,xx8,xx6,xx7,xx5,xx0,xx1,xx2,reduceIte,xx3,xx4,reduceCtorEq]
    intro vs2 U2 hN2 hM3 vs3 U3 hN3
    refine ⟨[7],by simp,by simp,by simp,?_⟩
    simp only [hlen,Nat.sub_self,List.replicate_zero,List.append_nil,range1,List.length_singleton,renL_rwp,Nat.not_lt_zero,range1,ren_val,ren_any,ren_ro,rnNm_n,rnNm_sn,rnNm_o,rnNm_s,ren_st,ren_tup,renL_nil,renL_cons,renL_intsK,renL_rws,renL_rwn,oren_box,oren_row,oren_map,ren_own_e0,ren_own_e1,ren_own_e2,ren_ptr_e0,ren_mp_e0,ren_mp_e1,ren_own_r0,ren_own_r1,ren_own_r2,ren_ptr_r0,ren_mp_r0,ren_mp_r1,List.range_zero,callHp_nil,callHp_one,callHp_two,gone_nil,gone_one,gone_two,AVal.fresh,freshL,fresh_intsK,fresh_rws,AObj.fresh,id,Option.isSome_some,or_true,true_or,go_sem,yz0,xx9,xx8,xx6,xx7,xx5,xx0,xx1,xx2,reduceIte,xx3,xx4,reduceCtorEq]
    exact ⟨fresh_rwp,vs 2 0,ps,by simp,hp1,hp3,rfl⟩
end Go.Ab
namespace Go.Ab
def SI (l:List Int):Prop:=l.Pairwise (·<·)
def put:List Int→Int→List Int
  | [],n=>[n]
  | x :: xs,n=>if n≤x then (if n<x then n :: x :: xs else x :: xs) else x :: put xs n
theorem put_mem {n y:Int}:∀ {xs:List Int},y∈put xs n↔y=n∨y∈xs
  | []=>by simp [put]
  | x :: xs=>by
    simp only [put]
    split
    · split
      · simp
      · have:x=n:=by omega
        subst this
        simp
    · rw [List.mem_cons,put_mem,List.mem_cons]
      constructor
      · rintro (h | h | h)
        · exact .inr (.inl h)
        · exact .inl h
        · exact .inr (.inr h)
      · rintro (h | h | h)
        · exact .inr (.inl h)
        · exact .inl h
        · exact .inr (.inr h)
theorem put_SI {n:Int}:∀ {xs:List Int},SI xs→SI (put xs n)
  | [],_=>by simp [put,SI]
  | x :: xs,h=>by
    have h0:=h
    unfold SI at h
    rw [List.pairwise_cons] at h
    simp only [put]
    split
    · split
      · unfold SI
        rw [List.pairwise_cons]
        refine ⟨fun y hy=>?_,h0⟩
        rcases List.mem_cons.1 hy with rfl | hy
        · assumption
        · have:=h.1 y hy;omega
      · exact h0
    · unfold SI
      rw [List.pairwise_cons]
      refine ⟨fun y hy=>?_,put_SI h.2⟩
      rcases put_mem.1 hy with rfl | hy
      · omega
      · exact h.1 y hy
def nrm (l:List Int):List Int:=l.foldl put []
theorem nrm_acc:∀ (l acc:List Int),SI acc→SI (l.foldl put acc)∧∀ y,y∈l.foldl put acc↔y∈acc∨y∈l
  | [],acc,h=>⟨h,by simp⟩
  | x :: l,acc,h=>by
    obtain ⟨h1,h2⟩:=nrm_acc l (put acc x) (put_SI h)
    refine ⟨h1,fun y=>?_⟩
    rw [List.foldl_cons,h2,put_mem,List.mem_cons]
    constructor
    · rintro ((h | h) | h)
      · exact .inr (.inl h)
      · exact .inl h
      · exact .inr (.inr h)
    · rintro (h | h | h)
      · exact .inl (.inr h)
      · exact .inl (.inl h)
      · exact .inr h
theorem nrm_SI (l:List Int):SI (nrm l):=(nrm_acc l [] (by simp [SI])).1
theorem nrm_mem {l:List Int} {y:Int}:y∈nrm l↔y∈l:=by
  have:=(nrm_acc l [] (by simp [SI])).2 y
  simpa [nrm] using this
end Go.Ab
namespace Go.Proofs
open Go.Shelf
def Tryd.lfmt_ren:Go.Shelf.Ren:=⟨fun | 173=>64 | 246=>82 | 283=>96 | 284=>97 | 285=>98 | 286=>99 | 129=>116 | 317=>115 | 318=>117 | 319=>118 | 320=>119 | 337=>124 | 338=>125 | n=>n,fun | 2=>2 | 3=>3 | 9=>9 | 4=>4 | 171=>122 | 0=>0 | 53=>96 | 37=>31 | 5=>5 | 173=>125 | 212=>139 | 51=>140 | 20=>20 | 213=>141 | 46=>111 | 232=>155 | 233=>156 | n=>n,fun | 17=>3 | 18=>6 | 19=>7 | n=>n⟩
theorem Tryd.lfmt:Go.Proofs.Lays.n173 Tryd.prog Tryd.lfmt_ren:={
  mixed:=by kernel_rfl
  f129:=Tryd.func116.trans (congrArg some (by kernel_rfl))
  f173:=Tryd.func64.trans (congrArg some (by kernel_rfl))
  f246:=Tryd.func82.trans (congrArg some (by kernel_rfl))
  f283:=Tryd.func96.trans (congrArg some (by kernel_rfl))
  f284:=Tryd.func97.trans (congrArg some (by kernel_rfl))
  f285:=Tryd.func98.trans (congrArg some (by kernel_rfl))
  f286:=Tryd.func99.trans (congrArg some (by kernel_rfl))
  f317:=Tryd.func115.trans (congrArg some (by kernel_rfl))
  f318:=Tryd.func117.trans (congrArg some (by kernel_rfl))
  f319:=Tryd.func118.trans (congrArg some (by kernel_rfl))
  f320:=Tryd.func119.trans (congrArg some (by kernel_rfl))
  f337:=Tryd.func124.trans (congrArg some (by kernel_rfl))
  f338:=Tryd.func125.trans (congrArg some (by kernel_rfl))
  t0:=Tryd.underlying0
  a0:=Tryd.isAgg0
  z0:=Tryd.sizeOf0
  v0:=Tryd.zeroValue0
  t2:=Tryd.underlying2
  a2:=Tryd.isAgg2
  z2:=Tryd.sizeOf2
  v2:=Tryd.zeroValue2
  t3:=Tryd.underlying3
  a3:=Tryd.isAgg3
  z3:=Tryd.sizeOf3
  v3:=Tryd.zeroValue3
  t4:=Tryd.underlying4
  a4:=Tryd.isAgg4
  z4:=Tryd.sizeOf4
  v4:=Tryd.zeroValue4
  t5:=Tryd.underlying5
  a5:=Tryd.isAgg5
  z5:=Tryd.sizeOf5
  v5:=Tryd.zeroValue5
  t9:=Tryd.underlying9
  a9:=Tryd.isAgg9
  z9:=Tryd.sizeOf9
  v9:=Tryd.zeroValue9
  t20:=Tryd.underlying20
  a20:=Tryd.isAgg20
  z20:=Tryd.sizeOf20
  v20:=Tryd.zeroValue20
  t37:=Tryd.underlying31
  a37:=Tryd.isAgg31
  z37:=Tryd.sizeOf31
  v37:=Tryd.zeroValue31
  t46:=Tryd.underlying111
  a46:=Tryd.isAgg111
  z46:=Tryd.sizeOf111
  v46:=Tryd.zeroValue111
  t51:=Tryd.underlying140
  a51:=Tryd.isAgg140
  z51:=Tryd.sizeOf140
  v51:=Tryd.zeroValue140
  t53:=Tryd.underlying96
  a53:=Tryd.isAgg96
  z53:=Tryd.sizeOf96
  v53:=Tryd.zeroValue96
  t171:=Tryd.underlying122
  a171:=Tryd.isAgg122
  z171:=Tryd.sizeOf122
  v171:=Tryd.zeroValue122
  t173:=Tryd.underlying125
  a173:=Tryd.isAgg125
  z173:=Tryd.sizeOf125
  v173:=Tryd.zeroValue125
  t212:=Tryd.underlying139
  a212:=Tryd.isAgg139
  z212:=Tryd.sizeOf139
  v212:=Tryd.zeroValue139
  t213:=Tryd.underlying141
  a213:=Tryd.isAgg141
  z213:=Tryd.sizeOf141
  t232:=Tryd.underlying155
  a232:=Tryd.isAgg155
  z232:=Tryd.sizeOf155
  v232:=Tryd.zeroValue155
  t233:=Tryd.underlying156
  a233:=Tryd.isAgg156
  z233:=Tryd.sizeOf156
  v233:=Tryd.zeroValue156
  g17:=by kernel_rfl
  g18:=by kernel_rfl
  g19:=by kernel_rfl }
end Go.Proofs
namespace Go.Ab
open Go.Proofs
attribute [go_sem] dnL_rwo mvL_rwo rwo_len
end Go.Ab
namespace Go.Ab
open Go.Proofs
instance (l:List Int):Decidable (SI l):=inferInstanceAs (Decidable (l.Pairwise (·<·)))
theorem SI_len {n:Int}:∀ {set:List Int},SI set→(∀ x∈set,0≤x∧x<n)→(set.length:Int)≤n∨set=[]
  | set,h,hx=>by
    by_cases h0:set=[]
    · exact .inr h0
    left
    have key:∀ i,i<set.length→(i:Int)≤set.getD i 0:=by
      intro i
      induction i with
      | zero =>
        intro hi
        exact (hx _ (getD_mem hi 0)).1
      | succ i ih =>
        intro hi
        have h1:=ih (by omega)
        unfold SI at h
        rw [List.pairwise_iff_getElem] at h
        have h2:=h i (i+1) (by omega) hi (by omega)
        have e1:set.getD i 0=set[i]:=by rw [List.getD_eq_getElem?_getD,List.getElem?_eq_getElem (by omega)];rfl
        have e2:set.getD (i+1) 0=set[i+1]:=by rw [List.getD_eq_getElem?_getD,List.getElem?_eq_getElem hi];rfl
        rw [e1] at h1;rw [e2];omega
    have hp:0<set.length:=List.length_pos_iff.2 h0
    have h1:=key (set.length - 1) (by omega)
    have h2:=(hx _ (getD_mem (show set.length - 1<set.length by omega) 0)).2
    omega
end Go.Ab
namespace Go.Ab
open Go.Proofs
end Go.Ab
namespace Go.Ab
open Go.Proofs
end Go.Ab
namespace Go.Ab
theorem put_len_new {x:Int}:∀ {xs:List Int},x ∉ xs→(put xs x).length=xs.length+1
  | [],_=>by simp [put]
  | y :: xs,h=>by
    have h1:x≠y:=fun e=>h (by simp [e])
    have h2:x ∉ xs:=fun e=>h (by simp [e])
    simp only [put]
    split
    · split
      · simp
      · omega
    · have:=put_len_new (x:=x) (xs:=xs) h2
      simp only [List.length_cons];omega
theorem nrm_len_nd {l:List Int} (h:l.Nodup):(nrm l).length=l.length:=by
  have gen:∀ (l acc:List Int),l.Nodup→(∀ x∈l,x ∉ acc)→(l.foldl put acc).length=acc.length+l.length:=by
    intro l
    induction l with
    | nil=>intro acc _ _;simp
    | cons x l ih =>
      intro acc h1 h2
      rw [List.nodup_cons] at h1
      rw [List.foldl_cons,ih (put acc x) h1.2 (fun y hy hm=>?_),put_len_new (h2 x (by simp)),List.length_cons]
      · omega
      · rcases put_mem.1 hm with rfl | hm
        · exact h1.1 hy
        · exact h2 y (by simp [hy]) hm
  have:=gen l [] h (by simp)
  simpa [nrm] using this
structure Once (n:Int) (l:List Int):Prop where
  nd:l.Nodup
  rg:∀ x∈l,0≤x∧x<n
theorem Once.len {n:Int} {l:List Int} (hn:1≤n) (h:Once n l):(l.length:Int)≤n:=by
  have h1:=nrm_len_nd h.nd
  rcases SI_len (nrm_SI l) (fun x hx=>h.rg x (nrm_mem.1 hx)) with h2 | h2
  · omega
  · rw [h2] at h1;simp at h1;omega
theorem Once.snoc {n:Int} {l:List Int} {x:Int} (h:Once n l) (hx:0≤x∧x<n) (hm:x ∉ l):Once n (l ++ [x]):=by
  refine ⟨?_,?_⟩
  · rw [List.nodup_append]
    refine ⟨h.nd,by simp,?_⟩
    intro a ha b hb
    have:b=x:=by simpa using hb
    subst this
    rintro rfl
    exact hm ha
  · intro y hy
    rcases List.mem_append.1 hy with hy | hy
    · exact h.rg y hy
    · have:y=x:=by simpa using hy
      subst this;exact hx
def addL (l:List Int) (x:Int):List Int:=if l.contains x=true then l else l ++ [x]
theorem Once.add {n:Int} {l:List Int} {x:Int} (h:Once n l) (hx:0≤x∧x<n):Once n (addL l x):=by
  unfold addL
  split
  · exact h
  · rename_i h1
    exact h.snoc hx (by simpa using h1)
end Go.Ab
namespace Go.Ab
open Go.Proofs
end Go.Ab
namespace Go.Ab
open Go.Proofs
end Go.Ab
namespace Go.Ab
open Go.Proofs
end Go.Ab
namespace Go.Ab
open Go.Proofs
end Go.Ab
namespace Go.Ab
open Go.Proofs
def szC2 (x y:List (List Int)) (l:Int):Int:=if szLL x l<0 then -1 else szLL y (szLL x l)
theorem szC2_ge {x y:List (List Int)} {l:Int} (h:¬ szC2 x y l<0):0≤szLL x l∧0≤szLL y (szLL x l)∧szC2 x y l=szLL y (szLL x l):=by
  unfold szC2 at h ⊢
  split at h
  · omega
  · rename_i h1
    rw [if_neg h1]
    omega
theorem szLL_neg {x:List (List Int)} {l:Int} (h:szLL x l<0):szLL x l=-1:=by
  have gen:∀ (xss:List (List Int)) (l:Int),0≤l→szRows xss l<0→szRows xss l=-1:=by
    intro xss
    induction xss with
    | nil=>intro l h1 h2;simp only [szRows] at h2;omega
    | cons xs r ih =>
      intro l h1 h2
      simp only [szRows] at h2 ⊢
      split at h2
      · rename_i h3;rw [if_pos h3]
      · rename_i h3;rw [if_neg h3];exact ih _ (by omega) h2
  unfold szLL at h ⊢
  split at h
  · rename_i h1;rw [if_pos h1]
  · rename_i h1;rw [if_neg h1];exact gen _ _ (by omega) h
abbrev Rows2 (P:Program) (g:FuncId) (args:List AVal) (cs:List Int) (x y:List (List Int)):Prop :=
  Fn P g args fun rows res=>∃ v w,rows=[.row v 1 true (rws x),.row w 1 true (rws y)]∧res=.st (cs.map (fun c=>iv c) ++ [.own 6000 v,.own 6001 w])
theorem call_rows2 {P:Program} {pu:Bool} {σ:St} {g:FuncId} {As args:List AVal} {d:Nat} {s:Nat→Nat} {K:St→Prop} {cs:List Int} {x y:List (List Int)} (h:Rows2 P g args cs x y) (hco:CoeL σ.hp [] true args As)
    (hg:σ.hp d=.gone) (hg2:σ.hp (d+1000)=.gone)
    (hk:∀ v w,K (St.put ⟨σ.tm,upd (upd σ.hp d (.row v 1 true (rws x))) (d+1000) (.row w 1 true (rws y))⟩ (some d) (.st (cs.map (fun c=>iv c) ++ [.own d v,.own (d+1000) w])))):wpCall P pu σ g As (some d) s K:=by
  refine call_fn h hco (fun _=>⟨_,_,0,1,rfl,rfl⟩) ?_
  rintro rows res ⟨v,w,rfl,rfl⟩
  refine ⟨by simp,?_,?_⟩
  · simp only [Option.getD_some,gone_two];exact ⟨hg,hg2⟩
  · have e:(AVal.st (cs.map (fun c=>iv c) ++ [.own 6000 v,.own 6001 w])).ren (rid [] d 2) s=.st (cs.map (fun c=>iv c) ++ [.own d (s v),.own (d+1000) (s w)]):=by
      rw [ren_st]
      congr 1
      simp only [renL_eq,List.map_append,List.map_map,List.map_cons,List.map_nil]
      have h0:=ren_own_r0 (m:=[]) (d:=d) (n:=1) (v:=v) (s:=s)
      have h1:=ren_own_r1 (m:=[]) (d:=d) (n:=0) (v:=w) (s:=s)
      rw [h0,h1]
      congr 1
    simp only [Option.getD_some,Nat.not_lt_zero,range1,ren_val,ren_any,ren_ro,rnNm_n,rnNm_sn,rnNm_o,rnNm_s,ren_st,ren_tup,renL_nil,renL_cons,renL_intsK,renL_rws,renL_rwn,oren_box,oren_row,oren_map,ren_own_e0,ren_own_e1,ren_own_e2,ren_ptr_e0,ren_mp_e0,ren_mp_e1,ren_own_r0,ren_own_r1,ren_own_r2,ren_ptr_r0,ren_mp_r0,ren_mp_r1,List.range_zero,callHp_nil,callHp_one,callHp_two,gone_nil,gone_one,gone_two,AVal.fresh,freshL,fresh_intsK,fresh_rws,AObj.fresh,id,Option.isSome_some,or_true,true_or,List.length_cons,List.length_nil,Nat.zero_add,e]
    exact hk _ _
end Go.Ab
namespace Go.Ab
open Go.Proofs
end Go.Ab
namespace Go.Ab
open Go.Proofs
end Go.Ab
namespace Go.Ab
open Go.Proofs
end Go.Ab
namespace Go.Ab
open Go.Proofs
end Go.Ab
namespace Go.Ab
open Go.Proofs
end Go.Ab
namespace Go.Ab
open Go.Proofs
abbrev machA (n o:Int) (next out:List (List Int)):AVal:=.st [iv n,iv o,.ro none 1 (rwn next),.ro none 1 (rwn out)]
abbrev machP (n o:Int) (next out:List (List Int)):AVal:=.rp [iv n,iv o,.ro none 1 (rwn next),.ro none 1 (rwn out)] 0
theorem k_szMachine (n o:Int) (x y:List (List Int)) (left:Int) (h:0≤left∧left≤4611686018427387904) :
    Fun Tryd.prog nzx [machA n o x y,iv left] (iv (szC2 x y left)):=by
  refine fun_of mixed cz7r rfl ⟨rfl,trivial⟩ ?_
  simp only [Az3c,Bz3b,go_sem,yz0,xx9,xx8,xx6,xx7,xx5,xx0,xx1,xx2,reduceIte,xx3,xx4,reduceCtorEq]
  intro vs vs2
  refine yz1 (k_szInt64SS x left h) qCS trivial ?_
  by_cases h1:szLL x left<0
  · have e:szC2 x y left=-1:=by unfold szC2;rw [if_pos h1]
    simp only [Bz1n,Bz1k,decide_eq_true h1,e,go_sem,yz0,xx9,xx8,xx6,xx7,xx5,xx0,xx1,xx2,reduceIte,xx3,xx4,reduceCtorEq]
  · have e:szC2 x y left=szLL y (szLL x left):=by unfold szC2;rw [if_neg h1]
    have h2:=(szLL_ge (xss:=x) (l:=left) (by omega)).2.2
    simp only [Bz1n,Bz1k,Bz3a,decide_eq_false h1,e,go_sem,yz0,xx9,xx8,xx6,xx7,xx5,xx0,xx1,xx2,reduceIte,xx3,xx4,reduceCtorEq]
    intro vs3
    refine yz1 (k_szInt64SS y (szLL x left) ⟨by omega,by omega⟩) qCS trivial ?_
    by_cases h3:szLL y (szLL x left)<0
    · simp only [Bz1m,Bz1l,decide_eq_true h3,go_sem,yz0,xx9,xx8,xx6,xx7,xx5,xx0,xx1,xx2,reduceIte,xx3,xx4,reduceCtorEq]
      rw [szLL_neg h3]
    · simp only [Bz1m,Bz1l,Bz39,decide_eq_false h3,go_sem,yz0,xx9,xx8,xx6,xx7,xx5,xx0,xx1,xx2,reduceIte,xx3,xx4,reduceCtorEq]
theorem k_eqMachine (n n' o o':Int) (x y x' y':List (List Int)):Fun Tryd.prog nz10 [machA n o x y,machA n' o' x' y'] (bv (decide (n=n') && (decide (o=o') && (decide (x=x') && decide (y=y'))))):=by
  refine fun_of mixed cz7v rfl ⟨rfl,trivial⟩ ?_
  simp only [Az44,Bz43,go_sem,yz0,xx9,xx8,xx6,xx7,xx5,xx0,xx1,xx2,reduceIte,xx3,xx4,reduceCtorEq]
  intro vs
  by_cases hn:n=n'
  · subst hn
    by_cases ho:o=o'
    · subst ho
      simp only [Bzi,Bz1x,Bz1u,Bz42,bne_self_eq_false,go_sem,yz0,xx9,xx8,xx6,xx7,xx5,xx0,xx1,xx2,reduceIte,xx3,xx4,reduceCtorEq]
      intro vs3
      refine yz1 (k_eqInt64SS x x') qCS (by trivial) ?_
      by_cases h2:x=x'
      · simp only [Bz1v,Bz41,decide_eq_true h2,decide_true,go_sem,yz0,xx9,xx8,xx6,xx7,xx5,xx0,xx1,xx2,reduceIte,xx3,xx4,reduceCtorEq]
        intro vs4
        refine yz1 (k_eqInt64SS y y') qCS (by trivial) ?_
        by_cases h3:y=y'
        · simp only [Bz1w,Bz40,decide_eq_true h3,decide_true,Bool.and_self,go_sem,yz0,xx9,xx8,xx6,xx7,xx5,xx0,xx1,xx2,reduceIte,xx3,xx4,reduceCtorEq]
        · simp only [Bz1w,decide_eq_false h3,Bool.and_false,go_sem,yz0,xx9,xx8,xx6,xx7,xx5,xx0,xx1,xx2,reduceIte,xx3,xx4,reduceCtorEq]
      · simp only [Bz1v,decide_eq_false h2,Bool.false_and,Bool.and_false,go_sem,yz0,xx9,xx8,xx6,xx7,xx5,xx0,xx1,xx2,reduceIte,xx3,xx4,reduceCtorEq]
    · have hne:(o != o')=true:=by simpa using ho
      simp only [Bzi,Bz1x,Bz1u,bne_self_eq_false,hne,decide_eq_false ho,Bool.false_and,Bool.and_false,go_sem,yz0,xx9,xx8,xx6,xx7,xx5,xx0,xx1,xx2,reduceIte,xx3,xx4,reduceCtorEq]
  · have hne:(n != n')=true:=by simpa using hn
    simp only [Bzi,hne,decide_eq_false hn,Bool.false_and,go_sem,yz0,xx9,xx8,xx6,xx7,xx5,xx0,xx1,xx2,reduceIte,xx3,xx4,reduceCtorEq]
theorem k_toMachineN (n o:Int) (x y:List (List Int)) (h1:x.length * 24≤140737488355328) (h2:∀ xs∈x,xs.length * 8≤140737488355328) (h3:y.length * 24≤140737488355328) (h4:∀ xs∈y,xs.length * 8≤140737488355328) :
    Fn Tryd.prog nz2 [machA n o x y] (fun rows res=>∃ v w ps qs,rows=[.row v 1 true (rwp ps),.row w 1 true (rwp qs)]∧ps.map (·.2)=x∧qs.map (·.2)=y∧DJ (ps ++ qs)∧res=.st [iv n,iv o,.own 6000 v,.own 6001 w]):=by
  refine con_of mixed cz7t rfl (by simp) ?_
  simp only [Az3l,Bz3k,wpD_kp,wpD_regi,go_sem,yz0,xx9,xx8,xx6,xx7,xx5,xx0,xx1,xx2,reduceIte,xx3,xx4,reduceCtorEq]
  intro vs0 U0 hN0 vs1 U1 hN1
  simp only [Bz3j,Bz3i,wpD_kp,wpD_regi,go_sem,yz0,xx9,xx8,xx6,xx7,xx5,xx0,xx1,xx2,reduceIte,xx3,xx4,reduceCtorEq]
  intro vs2 U2 hN2 vs3 U3 hN3
  simp only [Bz3h,wpD_kp,wpD_regi,go_sem,yz0,xx9,xx8,xx6,xx7,xx5,xx0,xx1,xx2,reduceIte,xx3,xx4,reduceCtorEq]
  intro vs4 U4 hN4
  refine call_fn (k_toInt64SSn x h1 h2) qCS (by intro e;cases e) ?_
  rintro rows res ⟨v,ps,rfl,hps,hd,rfl⟩
  refine ⟨by simp,by simp only [Option.getD_some,gone_one];rfl,?_⟩
  simp only [Option.getD_some,List.length_singleton,renL_rwp,Bz3g,wpD_kp,wpD_regi,Nat.not_lt_zero,range1,ren_val,ren_any,ren_ro,rnNm_n,rnNm_sn,rnNm_o,rnNm_s,ren_st,ren_tup,renL_nil,renL_cons,renL_intsK,renL_rws,renL_rwn,oren_box,oren_row,oren_map,ren_own_e0,ren_own_e1,ren_own_e2,ren_ptr_e0,ren_mp_e0,ren_mp_e1,ren_own_r0,ren_own_r1,ren_own_r2,ren_ptr_r0,ren_mp_r0,ren_mp_r1,List.range_zero,callHp_nil,callHp_one,callHp_two,gone_nil,gone_one,gone_two,AVal.fresh,freshL,fresh_intsK,fresh_rws,AObj.fresh,id,Option.isSome_some,or_true,true_or,go_sem,yz0,xx9,xx8,xx6,xx7,xx5,xx0,xx1,xx2,reduceIte,xx3,xx4,reduceCtorEq]
  intro vs5 U5 hN5
  refine call_fn (k_toInt64SSn y h3 h4) qCS (by intro e;cases e) ?_
  rintro rows res ⟨w,qs,rfl,hqs,hdq,rfl⟩
  refine ⟨by simp,by simp only [Option.getD_some,gone_one];rfl,?_⟩
  simp only [Option.getD_some,List.length_singleton,renL_rwp,Bz3f,wpD_kp,wpD_regi,Nat.not_lt_zero,range1,ren_val,ren_any,ren_ro,rnNm_n,rnNm_sn,rnNm_o,rnNm_s,ren_st,ren_tup,renL_nil,renL_cons,renL_intsK,renL_rws,renL_rwn,oren_box,oren_row,oren_map,ren_own_e0,ren_own_e1,ren_own_e2,ren_ptr_e0,ren_mp_e0,ren_mp_e1,ren_own_r0,ren_own_r1,ren_own_r2,ren_ptr_r0,ren_mp_r0,ren_mp_r1,List.range_zero,callHp_nil,callHp_one,callHp_two,gone_nil,gone_one,gone_two,AVal.fresh,freshL,fresh_intsK,fresh_rws,AObj.fresh,id,Option.isSome_some,or_true,true_or,go_sem,yz0,xx9,xx8,xx6,xx7,xx5,xx0,xx1,xx2,reduceIte,xx3,xx4,reduceCtorEq]
  intro vs6 U6 hN6
  refine ⟨[12,16],by simp,by simp,by simp,?_⟩
  simp only [renL_rwp,Nat.not_lt_zero,range1,ren_val,ren_any,ren_ro,rnNm_n,rnNm_sn,rnNm_o,rnNm_s,ren_st,ren_tup,renL_nil,renL_cons,renL_intsK,renL_rws,renL_rwn,oren_box,oren_row,oren_map,ren_own_e0,ren_own_e1,ren_own_e2,ren_ptr_e0,ren_mp_e0,ren_mp_e1,ren_own_r0,ren_own_r1,ren_own_r2,ren_ptr_r0,ren_mp_r0,ren_mp_r1,List.range_zero,callHp_nil,callHp_one,callHp_two,gone_nil,gone_one,gone_two,AVal.fresh,freshL,fresh_intsK,fresh_rws,AObj.fresh,id,Option.isSome_some,or_true,true_or,go_sem,yz0,xx9,xx8,xx6,xx7,xx5,xx0,xx1,xx2,reduceIte,xx3,xx4,reduceCtorEq]
  have hU:=hN5.hp 12
  simp only [AObj.uses,go_sem,yz0,xx9,xx8,xx6,xx7,xx5,xx0,xx1,xx2,reduceIte,xx3,xx4,reduceCtorEq] at hU
  have hold:=usesL_rwp (rest:=[]) (by rw [List.append_nil];exact hU.2)
  refine ⟨⟨fresh_rwp,fresh_rwp⟩,_,_,ps.map (fun p=>(vs4 2 p.1,p.2)),qs.map (fun p=>(vs5 2 p.1,p.2)),?_,by rw [← hps,List.map_map];rfl,by rw [← hqs,List.map_map];rfl,?_,rfl⟩
  · have e:∀ l:List (Nat×List Int),l.map (fun p=>(p.1,p.2))=l:=fun l=>List.map_id l
    rw [e,e]
  · refine List.pairwise_append.2 ⟨hd.ren fun x y e=>(hN4.inj _ _ _ _ e).2,hdq.ren fun x y e=>(hN5.inj _ _ _ _ e).2,?_⟩
    intro p hp q hq
    obtain ⟨q0,_,rfl⟩:=List.mem_map.1 hq
    rcases hold p hp with h | h
    · exact .inl h
    · exact .inr (.inr fun e=>hN5.new 2 q0.1 (by have e:p.1=vs5 2 q0.1:=e;rw [← e];exact h))
theorem k_toMachine (n o:Int) (x y:List (List Int)) (h1:x.length * 24≤140737488355328) (h2:∀ xs∈x,xs.length * 8≤140737488355328) (h3:y.length * 24≤140737488355328) (h4:∀ xs∈y,xs.length * 8≤140737488355328) :
    Rows2 Tryd.prog nz2 [machA n o x y] [n,o] x y:=by
  refine Con.dnr (k_toMachineN n o x y h1 h2 h3 h4) ?_
  rintro oo r z ⟨rfl,v,w,ps,qs,rfl,hps,hqs,_,rfl⟩
  refine ⟨rfl,v,w,?_,by simp only [List.map_cons,List.map_nil,List.cons_append,List.nil_append,go_sem,yz0,xx9,xx8,xx6,xx7,xx5,xx0,xx1,xx2,reduceIte,xx3,xx4,reduceCtorEq]⟩
  simp only [List.map_cons,List.map_nil,odn_row,dnL_rwp]
  rw [hps,hqs]
end Go.Ab
namespace Go.Ab
open Go.Proofs
def outB (n o:Int) (row:List Int):Bool:=decide ((row.length:Int)=n) && allIn row 0 (o - 1)
def machB (n o:Int) (next out:List (List Int)):Bool:=autB n next && ((decide (1≤o) && decide (o≤3)) && (decide (out.length=next.length) && out.all (outB n o)))
structure Mach (n o:Int) (next out:List (List Int)):Prop where
  aut:Aut n next
  o1:1≤o
  o2:o≤3
  len:out.length=next.length
  row:∀ row∈out,(row.length:Int)=n∧∀ x∈row,0≤x∧x<o
theorem machB_iff {n o:Int} {next out:List (List Int)}:machB n o next out=true↔Mach n o next out:=by
  simp only [machB,outB,Bool.and_eq_true,decide_eq_true_eq,List.all_eq_true,allIn_iff,autB_iff]
  constructor
  · rintro ⟨h1,⟨h2,h3⟩,h4,h5⟩
    exact ⟨h1,h2,h3,h4,fun row hr=>⟨(h5 row hr).1,fun x hx=>by have:=(h5 row hr).2 x hx;omega⟩⟩
  · rintro ⟨h1,h2,h3,h4,h5⟩
    exact ⟨h1,⟨h2,h3⟩,h4,fun row hr=>⟨(h5 row hr).1,fun x hx=>by have:=(h5 row hr).2 x hx;omega⟩⟩
theorem k_forget (n o:Int) (next out:List (List Int)):Con Tryd.prog nz1b [] [machA n o next out] true fun outs rows res=>outs=[]∧rows=[]∧res=autA n next:=by
  refine con_sh mixed cz8d rfl (by simp) ?_
  simp only [Az6k,Bz6j,go_sem,yz0,xx9,xx8,xx6,xx7,xx5,xx0,xx1,xx2,reduceIte,xx3,xx4,reduceCtorEq]
  intro vs
  refine ⟨[],by simp,by simp,by simp,?_⟩
  simp only [Nat.not_lt_zero,range1,ren_val,ren_any,ren_ro,rnNm_n,rnNm_sn,rnNm_o,rnNm_s,ren_st,ren_tup,renL_nil,renL_cons,renL_intsK,renL_rws,renL_rwn,oren_box,oren_row,oren_map,ren_own_e0,ren_own_e1,ren_own_e2,ren_ptr_e0,ren_mp_e0,ren_mp_e1,ren_own_r0,ren_own_r1,ren_own_r2,ren_ptr_r0,ren_mp_r0,ren_mp_r1,List.range_zero,callHp_nil,callHp_one,callHp_two,gone_nil,gone_one,gone_two,AVal.fresh,freshL,fresh_intsK,fresh_rws,AObj.fresh,id,Option.isSome_some,or_true,true_or,go_sem,yz0,xx9,xx8,xx6,xx7,xx5,xx0,xx1,xx2,reduceIte,xx3,xx4,reduceCtorEq]
theorem k_l06Plain (n o:Int) (next out:List (List Int)):Con Tryd.prog nz19 [] [machP n o next out] true fun outs rows res=>outs=[]∧rows=[]∧res=autA n next:=by
  refine con_sh mixed cz8a rfl (by simp) ?_
  simp only [Az69,Bz68,go_sem,yz0,xx9,xx8,xx6,xx7,xx5,xx0,xx1,xx2,reduceIte,xx3,xx4,reduceCtorEq]
  intro vs
  refine ⟨[],by simp,by simp,by simp,?_⟩
  simp only [Nat.not_lt_zero,range1,ren_val,ren_any,ren_ro,rnNm_n,rnNm_sn,rnNm_o,rnNm_s,ren_st,ren_tup,renL_nil,renL_cons,renL_intsK,renL_rws,renL_rwn,oren_box,oren_row,oren_map,ren_own_e0,ren_own_e1,ren_own_e2,ren_ptr_e0,ren_mp_e0,ren_mp_e1,ren_own_r0,ren_own_r1,ren_own_r2,ren_ptr_r0,ren_mp_r0,ren_mp_r1,List.range_zero,callHp_nil,callHp_one,callHp_two,gone_nil,gone_one,gone_two,AVal.fresh,freshL,fresh_intsK,fresh_rws,AObj.fresh,id,Option.isSome_some,or_true,true_or,go_sem,yz0,xx9,xx8,xx6,xx7,xx5,xx0,xx1,xx2,reduceIte,xx3,xx4,reduceCtorEq]
theorem k_ValidMachine_1 (row:List Int) (n o:Int) (next out:List (List Int)) (ho:1≤o∧o≤3):Fun Tryd.prog nzc [.ro none 1 (ints row),machP n o next out] (bv !(outB n o row)):=by
  refine fun_of mixed cz8g rfl ⟨rfl,trivial⟩ ?_
  have w:IntKind.i64.wrap (o - 1)=o - 1:=w64 (by omega)
  simp only [Az6q,Bz6p,w,go_sem,yz0,xx9,xx8,xx6,xx7,xx5,xx0,xx1,xx2,reduceIte,xx3,xx4,reduceCtorEq]
  intro vs
  refine yz1 (k_size row) qCS trivial ?_
  by_cases h:(row.length:Int)=n
  · have h2:((row.length:Int) != n)=false:=by simp [h]
    simp only [h2,w,go_sem,yz0,xx9,xx8,xx6,xx7,xx5,xx0,xx1,xx2,reduceIte,xx3,xx4,reduceCtorEq]
    refine yz1 (k_areWithin row 0 (o - 1)) qCS trivial ?_
    simp only [go_sem,yz0,xx9,xx8,xx6,xx7,xx5,xx0,xx1,xx2,reduceIte,xx3,xx4,reduceCtorEq]
    simp [outB,h]
  · have h2:((row.length:Int) != n)=true:=by simp [h]
    simp only [h2,go_sem,yz0,xx9,xx8,xx6,xx7,xx5,xx0,xx1,xx2,reduceIte,xx3,xx4,reduceCtorEq]
    simp [outB,h]
theorem and_f {p q:Prop} [Decidable p] [Decidable q] (h:¬ (p∧q)):(decide p && decide q)=false:=by
  rw [Bool.and_eq_false_iff,decide_eq_false_iff_not,decide_eq_false_iff_not]
  by_cases hp:p
  · exact .inr fun hq=>h ⟨hp,hq⟩
  · exact .inl hp
theorem and_t {p q:Prop} [Decidable p] [Decidable q] (h:p∧q):(decide p && decide q)=true:=by
  rw [decide_eq_true h.1,decide_eq_true h.2];rfl
theorem k_ValidMachine (n o:Int) (next out:List (List Int)):Fun Tryd.prog nz13 [machA n o next out] (bv (machB n o next out)):=by
  refine fun_of mixed cz80 rfl ⟨rfl,trivial⟩ ?_
  simp only [Az57,Bz56,go_sem,yz0,xx9,xx8,xx6,xx7,xx5,xx0,xx1,xx2,reduceIte,xx3,xx4,reduceCtorEq]
  intro vs vs2
  refine call_sh (k_forget n o next out) qCS (fun e=>by cases e) ?_
  rintro outs rows res ⟨rfl,rfl,rfl⟩
  refine ⟨rfl,by simp,by simp,?_⟩
  simp only [Nat.not_lt_zero,range1,ren_val,ren_any,ren_ro,rnNm_n,rnNm_sn,rnNm_o,rnNm_s,ren_st,ren_tup,renL_nil,renL_cons,renL_intsK,renL_rws,renL_rwn,oren_box,oren_row,oren_map,ren_own_e0,ren_own_e1,ren_own_e2,ren_ptr_e0,ren_mp_e0,ren_mp_e1,ren_own_r0,ren_own_r1,ren_own_r2,ren_ptr_r0,ren_mp_r0,ren_mp_r1,List.range_zero,callHp_nil,callHp_one,callHp_two,gone_nil,gone_one,gone_two,AVal.fresh,freshL,fresh_intsK,fresh_rws,AObj.fresh,id,Option.isSome_some,or_true,true_or,go_sem,yz0,xx9,xx8,xx6,xx7,xx5,xx0,xx1,xx2,reduceIte,xx3,xx4,reduceCtorEq]
  refine yz1 (k_Valid n next) qCS trivial ?_
  cases hv:autB n next with
  | false=>simp only [machB,hv,Bool.false_and,go_sem,yz0,xx9,xx8,xx6,xx7,xx5,xx0,xx1,xx2,reduceIte,xx3,xx4,reduceCtorEq]
  | true =>
    simp only [go_sem,yz0,xx9,xx8,xx6,xx7,xx5,xx0,xx1,xx2,reduceIte,xx3,xx4,reduceCtorEq]
    refine yz1 (k_within o 1 3) qCS trivial ?_
    by_cases ho:1≤o∧o≤3
    · simp only [and_t ho,go_sem,yz0,xx9,xx8,xx6,xx7,xx5,xx0,xx1,xx2,reduceIte,xx3,xx4,reduceCtorEq]
      by_cases hl:out.length=next.length
      · have e:((out.length:Int) == (next.length:Int))=true:=by simp [hl]
        simp only [e,go_sem,yz0,xx9,xx8,xx6,xx7,xx5,xx0,xx1,xx2,reduceIte,xx3,xx4,reduceCtorEq]
        intros
        refine yz1 (k_ContainsFunc out nzc [machP n o next out] _ ⟨by simp only [go_sem,yz0,xx9,xx8,xx6,xx7,xx5,xx0,xx1,xx2,reduceIte,xx3,xx4,reduceCtorEq],by intros;simp only [rowIs,boxIs,coe_argN,coe_argNs,coe_ro_o,coeL_nil,coeL_cons,coe_any,coe_val,coe_ro,coe_ro_nil,coe_ro_own,coe_st,coe_st_agg,coe_rp,coe_rp_ptr,coe_clo,coe_own0,coe_ptr0,coeL_intsK,coeL_rws,coeL_rwn,L_hit,L_miss,L_nil,xx3,ne_eq,reduceCtorEq,not_false_eq_true,true_and,and_true,and_self,exists_eq_left,exists_eq_right,List.mem_cons,List.not_mem_nil,or_false,AObj.row.injEq,AObj.box.injEq,exists_eq_left',exists_and_left,exists_eq,Nat.zero_lt_one,Nat.lt_add_one,List.map_cons,List.map_nil,AObj.ver,xx5,not_true_eq_false]⟩ (fun x _=>k_ValidMachine_1 x n o next out ho)) qCS trivial ?_
        simp only [machB,hv,and_t ho,decide_eq_true hl,Bool.true_and,go_sem,yz0,xx9,xx8,xx6,xx7,xx5,xx0,xx1,xx2,reduceIte,xx3,xx4,reduceCtorEq]
        congr 2
        simp only [List.all_eq_not_any_not]
      · have e:((out.length:Int) == (next.length:Int))=false:=beq_false_of_ne (by omega)
        simp only [machB,hv,e,and_t ho,decide_eq_false hl,Bool.true_and,Bool.false_and,go_sem,yz0,xx9,xx8,xx6,xx7,xx5,xx0,xx1,xx2,reduceIte,xx3,xx4,reduceCtorEq]
        try (intros;trivial)
    · simp only [machB,hv,and_f ho,Bool.true_and,Bool.false_and,go_sem,yz0,xx9,xx8,xx6,xx7,xx5,xx0,xx1,xx2,reduceIte,xx3,xx4,reduceCtorEq]
theorem k_l06Ok (n o:Int) (next out:List (List Int)):Fun Tryd.prog nz11 [machP n o next out] (bv (machB n o next out)):=by
  refine fun_of mixed cz7x rfl ⟨rfl,trivial⟩ ?_
  simp only [Az4m,Bz4l,go_sem,yz0,xx9,xx8,xx6,xx7,xx5,xx0,xx1,xx2,reduceIte,xx3,xx4,reduceCtorEq]
  intro vs
  refine call_sh (k_l06Plain n o next out) qCS (fun e=>by cases e) ?_
  rintro outs rows res ⟨rfl,rfl,rfl⟩
  refine ⟨rfl,by simp,by simp,?_⟩
  simp only [Bz4k,Nat.not_lt_zero,range1,ren_val,ren_any,ren_ro,rnNm_n,rnNm_sn,rnNm_o,rnNm_s,ren_st,ren_tup,renL_nil,renL_cons,renL_intsK,renL_rws,renL_rwn,oren_box,oren_row,oren_map,ren_own_e0,ren_own_e1,ren_own_e2,ren_ptr_e0,ren_mp_e0,ren_mp_e1,ren_own_r0,ren_own_r1,ren_own_r2,ren_ptr_r0,ren_mp_r0,ren_mp_r1,List.range_zero,callHp_nil,callHp_one,callHp_two,gone_nil,gone_one,gone_two,AVal.fresh,freshL,fresh_intsK,fresh_rws,AObj.fresh,id,Option.isSome_some,or_true,true_or,go_sem,yz0,xx9,xx8,xx6,xx7,xx5,xx0,xx1,xx2,reduceIte,xx3,xx4,reduceCtorEq]
  intro vs2
  refine yz1 (k_l01Ok n next) qCS trivial ?_
  cases hv:autB n next with
  | false=>simp only [machB,hv,Bz5,Bool.false_and,go_sem,yz0,xx9,xx8,xx6,xx7,xx5,xx0,xx1,xx2,reduceIte,xx3,xx4,reduceCtorEq]
  | true =>
    simp only [go_sem,yz0,xx9,xx8,xx6,xx7,xx5,xx0,xx1,xx2,reduceIte,xx3,xx4,reduceCtorEq]
    refine yz1 (k_l00In o 1 3) qCS trivial ?_
    by_cases ho:1≤o∧o≤3
    · simp only [and_t ho,go_sem,yz0,xx9,xx8,xx6,xx7,xx5,xx0,xx1,xx2,reduceIte,xx3,xx4,reduceCtorEq]
      by_cases hl:out.length=next.length
      · have e:((out.length:Int) != (next.length:Int))=false:=by simp [hl]
        have hB:machB n o next out=out.all (outB n o):=by simp only [machB,hv,and_t ho,decide_eq_true hl,Bool.true_and]
        simp only [e,Bz5,Bz4j,Bz4h,go_sem,yz0,xx9,xx8,xx6,xx7,xx5,xx0,xx1,xx2,reduceIte,xx3,xx4,reduceCtorEq]
        refine wpD_lo (fun k=>out.length - k) (fun k=>k≤out.length∧(out.drop k).all (outB n o)=machB n o next out)
          (fun k:Nat=>⟨L .any [(0,machP n o next out),(4,iv k)],L .gone []⟩) 0 (by simp [hB]) (by simp only [Bzl,go_sem,yz0,xx9,xx8,xx6,xx7,xx5,xx0,xx1,xx2,reduceIte,xx3,xx4,reduceCtorEq];try rfl) ?_
        rintro k ⟨hk,he⟩
        by_cases hlt:(k:Int)<out.length
        · have hlt1:k<out.length:=by omega
          rw [drop_getD hlt1 []] at he
          simp only [List.all_cons] at he
          have w0:IntKind.i64.wrap (o - 1)=o - 1:=w64 (by omega)
          simp only [Bzl,Bz24,Bz4g,rwn_getD hlt1,decide_eq_true hlt,go_sem,yz0,xx9,xx8,xx6,xx7,xx5,xx0,xx1,xx2,reduceIte,xx3,xx4,reduceCtorEq]
          intro hM
          refine ⟨⟨by omega,hlt1⟩,hlt1,?_⟩
          generalize hrow:out.getD k []=row at he ⊢
          by_cases hn:(row.length:Int)=n
          · have e1:((row.length:Int) != n)=false:=by simp [hn]
            have hob:outB n o row=allIn row 0 (o - 1):=by simp only [outB,decide_eq_true hn,Bool.true_and]
            simp only [e1,Bz25,Bz4e,Bz4d,go_sem,yz0,xx9,xx8,xx6,xx7,xx5,xx0,xx1,xx2,reduceIte,xx3,xx4,reduceCtorEq]
            refine wpD_lo (fun s=>row.length - s) (fun s=>s≤row.length∧allIn (row.drop s) 0 (o - 1)=allIn row 0 (o - 1))
              (fun s:Nat=>⟨L .any [(0,machP n o next out),(4,iv k),(5,iv s)],L .gone []⟩) 0 (by simp) (by simp only [Bzk,go_sem,yz0,xx9,xx8,xx6,xx7,xx5,xx0,xx1,xx2,reduceIte,xx3,xx4,reduceCtorEq];try rfl) ?_
            rintro s ⟨hs,ha⟩
            by_cases hsl:(s:Int)<row.length
            · have hs1:s<row.length:=by omega
              have hrl:k<(rwn out).length:=by rw [rwn_len];exact hlt1
              rw [drop_getD hs1 0] at ha
              have ha:(decide (0≤row.getD s 0) && decide (row.getD s 0≤o - 1) && allIn (row.drop (s+1)) 0 (o - 1))=allIn row 0 (o - 1):=ha
              simp only [Bzk,Bz26,Bz4c,rwn_getD hlt1,hrow,intsK_getD hs1,w0,decide_eq_true hsl,go_sem,yz0,xx9,xx8,xx6,xx7,xx5,xx0,xx1,xx2,reduceIte,xx3,xx4,reduceCtorEq]
              refine ⟨⟨by omega,hlt1⟩,hlt1,?_⟩
              intro hM2 vs4
              refine ⟨⟨by omega,hlt1⟩,hlt1,⟨by omega,hs1⟩,hs1,?_⟩
              refine yz1 (k_l00In (row.getD s 0) 0 (o - 1)) qCS trivial ?_
              cases hx:(decide (0≤row.getD s 0) && decide (row.getD s 0≤o - 1)) with
              | true =>
                rw [hx,Bool.true_and] at ha
                simp only [Bz27,Bz4b,nat1 s _ hs1 hM2,go_sem,yz0,xx9,xx8,xx6,xx7,xx5,xx0,xx1,xx2,reduceIte,xx3,xx4,reduceCtorEq]
                exact ⟨s+1,by omega,⟨by omega,ha⟩,rfl⟩
              | false =>
                rw [hx,Bool.false_and] at ha
                have hf:machB n o next out=false:=by rw [← he,hob,← ha];rfl
                simp only [Bz27,hf,go_sem,yz0,xx9,xx8,xx6,xx7,xx5,xx0,xx1,xx2,reduceIte,xx3,xx4,reduceCtorEq]
            · have:s=row.length:=by omega
              subst this
              rw [List.drop_length] at ha
              have he2:(out.drop (k+1)).all (outB n o)=machB n o next out:=by rw [← he,hob,← ha];rfl
              simp only [Bzk,Bz26,Bz4f,rwn_getD hlt1,hrow,nat1 k _ hlt1 hM,decide_eq_false hsl,go_sem,yz0,xx9,xx8,xx6,xx7,xx5,xx0,xx1,xx2,reduceIte,xx3,xx4,reduceCtorEq]
              refine ⟨⟨by omega,hlt1⟩,hlt1,?_⟩
              intro _
              exact ⟨k+1,by omega,⟨by omega,he2⟩,rfl⟩
          · have e1:((row.length:Int) != n)=true:=by simp [hn]
            have hf:machB n o next out=false:=by rw [← he];simp only [outB,decide_eq_false hn,Bool.false_and]
            simp only [e1,Bz25,hf,go_sem,yz0,xx9,xx8,xx6,xx7,xx5,xx0,xx1,xx2,reduceIte,xx3,xx4,reduceCtorEq]
        · have:k=out.length:=by omega
          subst this
          rw [List.drop_length] at he
          simp only [Bzl,Bz24,Bz4i,decide_eq_false hlt,go_sem,yz0,xx9,xx8,xx6,xx7,xx5,xx0,xx1,xx2,reduceIte,xx3,xx4,reduceCtorEq]
          intro _
          rw [← he];rfl
      · have e:((out.length:Int) != (next.length:Int))=true:=by
          rw [bne_iff_ne];omega
        simp only [machB,hv,e,Bz5,and_t ho,decide_eq_false hl,Bool.true_and,Bool.false_and,go_sem,yz0,xx9,xx8,xx6,xx7,xx5,xx0,xx1,xx2,reduceIte,xx3,xx4,reduceCtorEq]
    · simp only [machB,hv,Bz5,and_f ho,Bool.true_and,Bool.false_and,go_sem,yz0,xx9,xx8,xx6,xx7,xx5,xx0,xx1,xx2,reduceIte,xx3,xx4,reduceCtorEq]
end Go.Ab
namespace Go.Ab
open Go Go.Proofs
abbrev strV (l:List UInt8):AVal:=.val (.string ⟨l.toArray⟩)
theorem binV_cat {a b:List UInt8} (h:a.length+b.length≤maxLen):binV .add (.string ⟨a.toArray⟩) (.string ⟨b.toArray⟩)=some (.string ⟨(a ++ b).toArray⟩):=by
  have e:(ByteArray.mk a.toArray ++ ByteArray.mk b.toArray)=ByteArray.mk (a ++ b).toArray:=by
    ext1
    simp [ByteArray.data_append]
  have h1:(ByteArray.mk a.toArray).size+(ByteArray.mk b.toArray).size≤maxLen:=h
  simp only [binV,if_pos h1,e]
theorem ifcat {a b:List UInt8} (h:a.length+b.length≤maxLen) :
    (if (List.toArray a).size+(List.toArray b).size≤maxLen then some (Value.string ((⟨a.toArray⟩:ByteArray) ++ ⟨b.toArray⟩)) else none)=some (.string ⟨(a ++ b).toArray⟩):=by
  have:=binV_cat h
  simp only [binV] at this
  exact this
theorem max_big {n:Nat} (h:n≤1000000000):n≤maxLen:=Nat.le_trans h (by decide)
theorem u8dig {m:Nat} (h:m<10):IntKind.u8.wrap (IntKind.i64.wrap (48+(m:Int)))=((48+m:Nat):Int):=by
  rw [w64 (by omega)]
  unfold IntKind.wrap
  simp [IntKind.bits,IntKind.signed]
  omega
def decS (n:Nat):List UInt8:=if n<10 then [UInt8.ofNat (48+n)] else [UInt8.ofNat (48+n / 10),UInt8.ofNat (48+n % 10)]
theorem decS_lib:∀ n:Fin 100,Lib.decDigits n.val=decS n.val:=by decide +kernel
theorem decS_len {n:Nat}:(decS n).length≤2:=by unfold decS;split <;> simp
theorem fun_lib {P:Program} {g:FuncId} {args:List Value} {r:Value} (hfn:∃ fn,P.funcs[g]?=some fn∧fn.body.isSome=true∧isNumG fn=false)
    (h:∀ w,Calls P g args.toArray w fun e w'=>e=.returned r∧w'=w):Fun P g (args.map .val) (.val r):=by
  refine ⟨hfn,fun c0 outsB vs G hhp hrep=>?_⟩
  have hvs:vs=args:=by
    have:∀ (bs:List Value) (us:List Value),RepL c0 (bs.map .val) us→us=bs:=by
      intro bs
      induction bs with
      | nil=>intro us h;cases us with
        | nil=>rfl
        | cons u us=>simp [RepL] at h
      | cons a bs ih=>intro us h;cases us with
        | nil=>simp [RepL] at h
        | cons u us =>
          simp only [List.map_cons,RepL] at h
          obtain ⟨h1,h2⟩:=h
          rw [ih us h2]
          have:u=a:=by simpa [Rep] using h1
          rw [this]
    exact this args vs hrep
  subst hvs
  refine (h c0.w).mono ?_
  rintro e w' ⟨he,rfl⟩
  have hgone:∀ r,c0.hp r=.gone:=fun r=>by
    rw [hhp]
    unfold outHp
    split
    · rfl
    · split
      · rfl
      · split <;> rfl
  refine ⟨r,{ c0 with ext:=outsB },[],[],.val r,⟨rfl,rfl,rfl⟩,he,rfl,?_,hhp,by simp [Rep],fun b hb=>.inr hb,fun b hb=>hb,fun _ _ _ h=>⟨h,rfl⟩,fun _ h=>h⟩
  exact
    { base:=G.base
      obj:=fun r=>by show ObjRep _ (c0.loc r) (c0.hp r);rw [hgone r];trivial
      inj:=G.inj,own:=G.own,verU:=G.verU,verInj:=G.verInj
      outExt:=fun b hb=>⟨hb,(G.outExt b hb).2⟩
      nam:=G.nam,namInj:=G.namInj,fin:=G.fin,os:=G.os,tape:=G.tape,output:=G.output,size:=G.size,frame:=G.frame }
theorem k_FormatInt (n:Nat) (h:n<100):Fun Tryd.prog nz1c [iv (n:Int),iv 10] (strV (decS n)):=by
  have hl:=decS_lib ⟨n,h⟩
  exact fun_lib (args:=[.int .i64 n,.int .i64 10]) x_strconv_FormatInt fun w=>by
    have:=Any.strconv_FormatInt_10_small Tryd.lfmt n h w
    rw [← hl]
    exact this
theorem k_decimal (n:Nat) (h:n<100):Fun Tryd.prog nz3 [iv (n:Int)] (strV (decS n)):=by
  refine fun_of mixed cz83 rfl ⟨rfl,trivial⟩ ?_
  simp only [Az5i,Bz5h,go_sem,yz0,xx9,xx8,xx6,xx7,xx5,xx0,xx1,xx2,reduceIte,xx3,xx4,reduceCtorEq]
  intro vs
  refine yz1 (k_FormatInt n h) qCS trivial ?_
  simp only [go_sem,yz0,xx9,xx8,xx6,xx7,xx5,xx0,xx1,xx2,reduceIte,xx3,xx4,reduceCtorEq]
theorem k_Decimal1 (n:Nat) (h:n<10):Fun Tryd.prog nz0 [iv (n:Int)] (strV (decS n)):=by
  refine fun_of mixed cz6c rfl ⟨rfl,trivial⟩ ?_
  have h1:decide ((10:Int)≤n)=false:=decide_eq_false (by omega)
  simp only [Az2l,Bz2k,Bz2i,Bz2j,h1,go_sem,yz0,xx9,xx8,xx6,xx7,xx5,xx0,xx1,xx2,reduceIte,xx3,xx4,reduceCtorEq]
  have w1:=u8dig h
  rw [w1]
  refine ⟨⟨_,rfl,rfl⟩,rfl,?_⟩
  unfold decS
  rw [if_pos h]
  simp only [List.filterMap_cons,List.filterMap_nil,byteOfCell,Int.toNat_natCast]
theorem k_Decimal (n:Nat) (h:n<100):Fun Tryd.prog nz0 [iv (n:Int)] (strV (decS n)):=by
  by_cases h10:n<10
  · exact k_Decimal1 n h10
  · refine fun_of mixed cz6c rfl ⟨rfl,trivial⟩ ?_
    have h1:decide ((10:Int)≤n)=true:=decide_eq_true (by omega)
    have h0:((10:Int)=0)=False:=by simp
    have d1:IntKind.i64.wrap ((n:Int).tdiv 10)=((n / 10:Nat):Int):=by
      rw [show (n:Int).tdiv 10=((n / 10:Nat):Int) from rfl,w64 (by omega)]
    have d2:IntKind.i64.wrap ((n:Int).tmod 10)=((n % 10:Nat):Int):=by
      rw [show (n:Int).tmod 10=((n % 10:Nat):Int) from rfl,w64 (by omega)]
    simp only [Az2l,Bz2k,Bz2i,Bz2j,h1,h0,d1,d2,if_false,go_sem,yz0,xx9,xx8,xx6,xx7,xx5,xx0,xx1,xx2,reduceIte,xx3,xx4,reduceCtorEq]
    intro vs
    refine yz1 (k_Decimal1 (n / 10) (by omega)) qCS trivial ?_
    have d3:(n:Int).tmod 10=((n % 10:Nat):Int):=rfl
    have d4:=u8dig (show n % 10<10 by omega)
    have d5:(48+n % 10)<256:=by omega
    have hs1:decS (n / 10)=[UInt8.ofNat (48+n / 10)]:=by unfold decS;rw [if_pos (by omega)]
    have hs:decS n=[UInt8.ofNat (48+n / 10)] ++ [UInt8.ofNat (48+n % 10)]:=by unfold decS;rw [if_neg h10];rfl
    have hc:=ifcat (a:=[UInt8.ofNat (48+n / 10)]) (b:=[UInt8.ofNat (48+n % 10)]) (max_big (by simp))
    simp only [h0,d2,d3,d4,hs1,hs,if_false,byteOfCell,List.filterMap_cons,List.filterMap_nil,Int.toNat_natCast,hc,go_sem,yz0,xx9,xx8,xx6,xx7,xx5,xx0,xx1,xx2,reduceIte,xx3,xx4,reduceCtorEq]
    exact ⟨_,rfl,rfl⟩
def numS (xs:List Int):List UInt8:=xs.flatMap fun x=>32 :: decS x.toNat
theorem numS_snoc {xs:List Int} {x:Int}:numS (xs ++ [x])=numS xs ++ (32 :: decS x.toNat):=by simp [numS]
theorem numS_len:∀ {xs:List Int},(numS xs).length≤3 * xs.length
  | []=>by simp [numS]
  | x :: xs=>by
    have h:=numS_len (xs:=xs)
    have h2:=decS_len (n:=x.toNat)
    unfold numS at h ⊢
    rw [List.flatMap_cons,List.length_append,List.length_cons,List.length_cons]
    omega
def lineS (pre:List UInt8) (xs:List Int):List UInt8:=pre ++ numS xs ++ [10]
theorem k_line (pre:List UInt8) (xs:List Int) (hx:∀ x∈xs,0≤x∧x<100) (hp:pre.length≤1000) (hl:xs.length≤1000):Fun Tryd.prog nz14 [strV pre,.ro none 1 (ints xs)] (strV (lineS pre xs)):=by
  refine fun_of mixed cz81 rfl ⟨rfl,trivial⟩ ?_
  simp only [Az5e,Bz5d,Bz5b,go_sem,yz0,xx9,xx8,xx6,xx7,xx5,xx0,xx1,xx2,reduceIte,xx3,xx4,reduceCtorEq]
  intro hM
  refine wpD_lo (fun (i:Nat)=>xs.length - i) (fun i=>i≤xs.length)
    (fun (i:Nat)=>⟨L .any [(0,strV (pre ++ numS (xs.take i))),(7,.ro none 1 (ints xs)),(8,iv xs.length),(9,iv i)],L .gone []⟩) 0 (Nat.zero_le _) (by simp only [Bzo,numS,List.take_zero,List.flatMap_nil,List.append_nil,go_sem,yz0,xx9,xx8,xx6,xx7,xx5,xx0,xx1,xx2,reduceIte,xx3,xx4,reduceCtorEq];try rfl) ?_
  intro i hi
  have hi:i≤xs.length:=hi
  have hnl:=numS_len (xs:=xs.take i)
  rw [List.length_take] at hnl
  by_cases hlt:(i:Int)<xs.length
  · have hlt1:i<xs.length:=by omega
    have wi:IntKind.i64.wrap ((i:Int)+1)=((i+1:Nat):Int):=by rw [w64 (by omega)];simp
    have hxi:=hx _ (getD_mem hlt1 0)
    obtain ⟨y,hy⟩:∃ y:Nat,xs.getD i 0=(y:Int):=⟨(xs.getD i 0).toNat,by omega⟩
    have htk:xs.take (i+1)=xs.take i ++ [xs.getD i 0]:=by
      rw [List.take_succ_eq_append_getElem hlt1,List.getD_eq_getElem?_getD,List.getElem?_eq_getElem hlt1];rfl
    have hyl:=decS_len (n:=y)
    simp only [Bzo,Bz2c,Bz5a,decide_eq_true hlt,intsK_getD hlt1,hy,go_sem,yz0,xx9,xx8,xx6,xx7,xx5,xx0,xx1,xx2,reduceIte,xx3,xx4,reduceCtorEq]
    refine ⟨⟨by omega,hlt1⟩,hlt1,?_⟩
    simp only [Bz58,go_sem,yz0,xx9,xx8,xx6,xx7,xx5,xx0,xx1,xx2,reduceIte,xx3,xx4,reduceCtorEq]
    intro vs
    refine yz1 (k_decimal y (by omega)) qCS trivial ?_
    have c1:=ifcat (a:=[32]) (b:=decS y) (max_big (by simp;omega))
    have c2:=ifcat (a:=pre ++ numS (xs.take i)) (b:=32 :: decS y) (max_big (by rw [List.length_append,List.length_cons];omega))
    simp only [List.cons_append,List.nil_append] at c1
    simp only [Bz59,c1,c2,wi,go_sem,yz0,xx9,xx8,xx6,xx7,xx5,xx0,xx1,xx2,reduceIte,xx3,xx4,reduceCtorEq]
    refine ⟨i+1,by omega,by omega,?_⟩
    rw [htk,hy,numS_snoc,Int.toNat_natCast,List.append_assoc]
  · obtain rfl:i=xs.length:=by omega
    have hnl2:=numS_len (xs:=xs)
    have c1:=ifcat (a:=pre ++ numS xs) (b:=[10]) (max_big (by rw [List.length_append,List.length_singleton];omega))
    simp only [Bzo,Bz2c,Bz5c,decide_eq_false hlt,List.take_length,c1,lineS,go_sem,yz0,xx9,xx8,xx6,xx7,xx5,xx0,xx1,xx2,reduceIte,xx3,xx4,reduceCtorEq]
def pairS (t o:Int):List UInt8:=(32 :: decS t.toNat) ++ [47] ++ decS o.toNat
def rowS (next out:List Int) (i:Nat):List UInt8:=((List.range i).map fun s=>pairS (next.getD s 0) (out.getD s 0)).flatten
theorem rowS_succ {next out:List Int} {i:Nat}:rowS next out (i+1)=rowS next out i ++ pairS (next.getD i 0) (out.getD i 0):=by
  simp [rowS,List.range_succ]
theorem pairS_len {t o:Int}:(pairS t o).length≤6:=by
  have h1:=decS_len (n:=t.toNat)
  have h2:=decS_len (n:=o.toNat)
  simp only [pairS,List.length_append,List.length_cons,List.length_nil]
  omega
theorem rowS_len {next out:List Int}:∀ {i:Nat},(rowS next out i).length≤6 * i
  | 0=>by simp [rowS]
  | i+1=>by
    have h:=rowS_len (next:=next) (out:=out) (i:=i)
    have h2:=pairS_len (t:=next.getD i 0) (o:=out.getD i 0)
    rw [rowS_succ,List.length_append];omega
def lettS:List UInt8:=[108,101,116,116,101,114]
def tabS (n:Nat) (next out:List (List Int)) (k:Nat):List UInt8:=((List.range k).map fun l=>lettS ++ rowS (next.getD l []) (out.getD l []) n ++ [10]).flatten
theorem tabS_succ {n:Nat} {next out:List (List Int)} {k:Nat}:tabS n next out (k+1)=tabS n next out k ++ (lettS ++ rowS (next.getD k []) (out.getD k []) n ++ [10]):=by
  simp [tabS,List.range_succ]
theorem tabS_len {n:Nat} {next out:List (List Int)}:∀ {k:Nat},(tabS n next out k).length≤(6 * n+7) * k
  | 0=>by simp [tabS]
  | k+1=>by
    have h:=tabS_len (n:=n) (next:=next) (out:=out) (k:=k)
    have h2:=rowS_len (next:=next.getD k []) (out:=out.getD k []) (i:=n)
    rw [tabS_succ,List.length_append,List.length_append,List.length_append,List.length_singleton,show lettS.length=6 from rfl,Nat.mul_succ];omega
def machS:List UInt8:=[109,97,99,104,105,110,101]
def machT (n o:Int) (next out:List (List Int)):List UInt8:=lineS machS [n,o,(next.length:Int)] ++ tabS n.toNat next out next.length
theorem k_DecimalI (x:Int) (h:0≤x∧x<100):Fun Tryd.prog nz0 [iv x] (strV (decS x.toNat)):=by
  have:=k_Decimal x.toNat (by omega)
  rwa [show ((x.toNat:Nat):Int)=x by omega] at this
theorem k_decimalI (x:Int) (h:0≤x∧x<100):Fun Tryd.prog nz3 [iv x] (strV (decS x.toNat)):=by
  have:=k_decimal x.toNat (by omega)
  rwa [show ((x.toNat:Nat):Int)=x by omega] at this
theorem ifcatN {a b:List UInt8} (h:a.length+b.length≤1000000000):∃ T:List UInt8,T=a ++ b∧T.length=a.length+b.length ∧
    (if (List.toArray a).size+(List.toArray b).size≤maxLen then some (Value.string ((⟨a.toArray⟩:ByteArray) ++ ⟨b.toArray⟩)) else none)=some (.string ⟨T.toArray⟩) :=
  ⟨_,rfl,List.length_append,ifcat (max_big h)⟩
theorem k_l06Text (n o:Int) (next out:List (List Int)) (M:Mach n o next out):Fun Tryd.prog nz12 [machP n o next out] (strV (machT n o next out)):=by
  refine fun_of mixed cz7y rfl ⟨rfl,trivial⟩ ?_
  have n1:=M.aut.n1
  have n2:=M.aut.n2
  have l2:=M.aut.l2
  have o1:=M.o1
  have o2:=M.o2
  have hlen:=M.len
  have dn:=decS_len (n:=n.toNat)
  have dO:=decS_len (n:=o.toNat)
  have dk:=decS_len (n:=next.length)
  have hML:=maxLen_le
  simp only [Az4y,Bz4x,go_sem,yz0,xx9,xx8,xx6,xx7,xx5,xx0,xx1,xx2,reduceIte,xx3,xx4,reduceCtorEq]
  intro vs
  refine yz1 (k_DecimalI n (by omega)) qCS trivial ?_
  obtain ⟨T1,hT1,hl1,c1⟩:=ifcatN (a:=[109,97,99,104,105,110,101,32]) (b:=decS n.toNat) (by simp only [List.length_cons,List.length_nil];omega)
  obtain ⟨T2,hT2,hl2,c2⟩:=ifcatN (a:=T1) (b:=[32]) (by simp only [List.length_cons,List.length_nil] at hl1 ⊢;omega)
  simp only [c1,c2,go_sem,yz0,xx9,xx8,xx6,xx7,xx5,xx0,xx1,xx2,reduceIte,xx3,xx4,reduceCtorEq]
  refine yz1 (k_DecimalI o (by omega)) qCS trivial ?_
  simp only [List.length_cons,List.length_nil] at hl1 hl2
  obtain ⟨T3,hT3,hl3,c3⟩:=ifcatN (a:=T2) (b:=decS o.toNat) (by omega)
  obtain ⟨T4,hT4,hl4,c4⟩:=ifcatN (a:=T3) (b:=[32]) (by simp only [List.length_cons,List.length_nil];omega)
  simp only [c3,c4,go_sem,yz0,xx9,xx8,xx6,xx7,xx5,xx0,xx1,xx2,reduceIte,xx3,xx4,reduceCtorEq]
  refine yz1 (k_Decimal next.length (by omega)) qCS trivial ?_
  simp only [List.length_cons,List.length_nil] at hl4
  obtain ⟨T5,hT5,hl5,c5⟩:=ifcatN (a:=T4) (b:=decS next.length) (by omega)
  obtain ⟨T6,hT6,hl6,c6⟩:=ifcatN (a:=T5) (b:=[10]) (by simp only [List.length_cons,List.length_nil];omega)
  simp only [List.length_cons,List.length_nil] at hl6
  have hH:T6=lineS machS [n,o,(next.length:Int)]:=by
    rw [hT6,hT5,hT4,hT3,hT2,hT1]
    simp [lineS,numS,machS]
  clear hT6 hT5 hT4 hT3 hT2 hT1
  simp only [c5,c6,go_sem,yz0,xx9,xx8,xx6,xx7,xx5,xx0,xx1,xx2,reduceIte,xx3,xx4,reduceCtorEq]
  clear c1 c2 c3 c4 c5 c6
  simp only [Bz4w,Bz4u,go_sem,yz0,xx9,xx8,xx6,xx7,xx5,xx0,xx1,xx2,reduceIte,xx3,xx4,reduceCtorEq]
  refine wpD_lo (fun (k:Nat)=>next.length - k) (fun k=>k≤next.length)
    (fun (k:Nat)=>⟨L .any [(0,machP n o next out),(3,strV (T6 ++ tabS n.toNat next out k)),(4,iv k)],L .gone []⟩) 0 (Nat.zero_le _) (by simp only [Bzn,tabS,List.range_zero,List.map_nil,List.flatten_nil,List.append_nil,go_sem,yz0,xx9,xx8,xx6,xx7,xx5,xx0,xx1,xx2,reduceIte,xx3,xx4,reduceCtorEq];try rfl) ?_
  intro k hk
  have hk:k≤next.length:=hk
  have htl:=tabS_len (n:=n.toNat) (next:=next) (out:=out) (k:=k)
  have hnn:(6 * n.toNat+7) * k≤67 * 3:=Nat.mul_le_mul (by omega) (by omega)
  by_cases hlt:(k:Int)<next.length
  · have hlt1:k<next.length:=by omega
    have hlo:k<out.length:=by omega
    have wk:IntKind.i64.wrap ((k:Int)+1)=((k+1:Nat):Int):=by rw [w64 (by omega)];simp
    have hr1:=M.aut.row _ (getD_mem hlt1 [])
    have hr2:=M.row _ (getD_mem hlo [])
    obtain ⟨T,hT,hTl,d1⟩:=ifcatN (a:=T6 ++ tabS n.toNat next out k) (b:=[108,101,116,116,101,114]) (by rw [List.length_append];simp only [List.length_cons,List.length_nil];omega)
    rw [List.length_append] at hTl
    simp only [List.length_cons,List.length_nil] at hTl
    simp only [Bzn,Bz28,Bz4t,Bz4r,Bz4p,decide_eq_true hlt,d1,rwn_len,go_sem,yz0,xx9,xx8,xx6,xx7,xx5,xx0,xx1,xx2,reduceIte,xx3,xx4,reduceCtorEq]
    try intro hM0
    refine wpD_lo (fun (i:Nat)=>n.toNat - i) (fun i=>i≤n.toNat)
      (fun (i:Nat)=>⟨L .any [(0,machP n o next out),(3,strV (T ++ rowS (next.getD k []) (out.getD k []) i)),(4,iv k),(5,iv i)],L .gone []⟩) 0 (Nat.zero_le _) (by simp only [Bzm,rowS,List.range_zero,List.map_nil,List.flatten_nil,List.append_nil,go_sem,yz0,xx9,xx8,xx6,xx7,xx5,xx0,xx1,xx2,reduceIte,xx3,xx4,reduceCtorEq];try rfl) ?_
    intro i hi
    have hi:i≤n.toNat:=hi
    have hrl:=rowS_len (next:=next.getD k []) (out:=out.getD k []) (i:=i)
    by_cases hli:(i:Int)<(next.getD k []).length
    · have hli1:i<(next.getD k []).length:=by omega
      have hlo1:i<(out.getD k []).length:=by omega
      have wi:IntKind.i64.wrap ((i:Int)+1)=((i+1:Nat):Int):=by rw [w64 (by omega)];simp
      have hx1:=hr1.2 _ (getD_mem hli1 0)
      have hx2:=hr2.2 _ (getD_mem hlo1 0)
      simp only [Bzm,Bz29,Bz4o,decide_eq_true hli,rwn_getD hlt1,rwn_getD hlo,intsK_getD hli1,intsK_getD hlo1,go_sem,yz0,xx9,xx8,xx6,xx7,xx5,xx0,xx1,xx2,reduceIte,xx3,xx4,reduceCtorEq]
      refine ⟨⟨by omega,hlt1⟩,hlt1,fun hM1 vs2=>⟨⟨by omega,hlt1⟩,hlt1,⟨by omega,hli1⟩,hli1,?_⟩⟩
      refine yz1 (k_DecimalI ((next.getD k []).getD i 0) (by omega)) qCS trivial ?_
      have e1:=decS_len (n:=((next.getD k []).getD i 0).toNat)
      have e2:=decS_len (n:=((out.getD k []).getD i 0).toNat)
      obtain ⟨U1,hU1,hul1,u1⟩:=ifcatN (a:=[32]) (b:=decS ((next.getD k []).getD i 0).toNat) (by simp only [List.length_cons,List.length_nil];omega)
      simp only [List.length_cons,List.length_nil] at hul1
      obtain ⟨U2,hU2,hul2,u2⟩:=ifcatN (a:=U1) (b:=[47]) (by simp only [List.length_cons,List.length_nil];omega)
      simp only [List.length_cons,List.length_nil] at hul2
      simp only [u1,u2,rwn_getD hlo,intsK_getD hlo1,go_sem,yz0,xx9,xx8,xx6,xx7,xx5,xx0,xx1,xx2,reduceIte,xx3,xx4,reduceCtorEq]
      refine ⟨⟨by omega,hlo⟩,hlo,⟨by omega,hlo1⟩,hlo1,?_⟩
      refine yz1 (k_DecimalI ((out.getD k []).getD i 0) (by omega)) qCS trivial ?_
      obtain ⟨U3,hU3,hul3,u3⟩:=ifcatN (a:=U2) (b:=decS ((out.getD k []).getD i 0).toNat) (by omega)
      obtain ⟨U4,hU4,hul4,u4⟩:=ifcatN (a:=T ++ rowS (next.getD k []) (out.getD k []) i) (b:=U3) (by rw [List.length_append];omega)
      have hU:U4=T ++ rowS (next.getD k []) (out.getD k []) (i+1):=by
        rw [hU4,hU3,hU2,hU1,rowS_succ,List.append_assoc]
        simp [pairS]
      simp only [u3,u4,Bz4n,wi,go_sem,yz0,xx9,xx8,xx6,xx7,xx5,xx0,xx1,xx2,reduceIte,xx3,xx4,reduceCtorEq]
      exact ⟨i+1,by omega,by omega,by rw [hU]⟩
    · obtain rfl:i=n.toNat:=by omega
      obtain ⟨U,hU,hul,u1⟩:=ifcatN (a:=T ++ rowS (next.getD k []) (out.getD k []) n.toNat) (b:=[10]) (by rw [List.length_append];simp only [List.length_cons,List.length_nil];omega)
      have hU:U=T6 ++ tabS n.toNat next out (k+1):=by
        rw [hU,hT,tabS_succ]
        simp [lettS]
      simp only [Bzm,Bz29,Bz4q,Bz4s,decide_eq_false hli,rwn_getD hlt1,u1,wk,go_sem,yz0,xx9,xx8,xx6,xx7,xx5,xx0,xx1,xx2,reduceIte,xx3,xx4,reduceCtorEq]
      refine ⟨⟨by omega,hlt1⟩,hlt1,fun hM1=>⟨k+1,by omega,by omega,by rw [hU]⟩⟩
  · obtain rfl:k=next.length:=by omega
    simp only [Bzn,Bz28,Bz4v,decide_eq_false hlt,hH,machT,go_sem,yz0,xx9,xx8,xx6,xx7,xx5,xx0,xx1,xx2,reduceIte,xx3,xx4,reduceCtorEq]
    try (intro hM0;rfl)
end Go.Ab
namespace Go.Ab
open Go Go.Proofs
def machTX (n o:Int) (next out:List (List Int)):List UInt8:=if machB n o next out=true then machT n o next out else []
theorem k_specMachineText (n o:Int) (next out:List (List Int)):Fun Tryd.prog nzy [machA n o next out] (strV (machTX n o next out)):=by
  refine fun_of mixed cz7s rfl ⟨rfl,trivial⟩ ?_
  simp only [Az3e,Bz3d,go_sem,yz0,xx9,xx8,xx6,xx7,xx5,xx0,xx1,xx2,reduceIte,xx3,xx4,reduceCtorEq]
  intro vs vs1
  refine yz1 (k_l06Ok n o next out) qCS trivial ?_
  cases hm:machB n o next out with
  | false=>simp only [Bz1o,Bz1p,machTX,hm,Bool.not_false,Bool.false_eq_true,go_sem,yz0,xx9,xx8,xx6,xx7,xx5,xx0,xx1,xx2,reduceIte,xx3,xx4,reduceCtorEq]
  | true =>
    have M:=machB_iff.1 hm
    simp only [Bz1o,Bz1p,machTX,hm,Bool.not_true,go_sem,yz0,xx9,xx8,xx6,xx7,xx5,xx0,xx1,xx2,reduceIte,xx3,xx4,reduceCtorEq]
    intro vs2
    refine yz1 (k_l06Text n o next out M) qCS trivial ?_
    simp only [go_sem,yz0,xx9,xx8,xx6,xx7,xx5,xx0,xx1,xx2,reduceIte,xx3,xx4,reduceCtorEq]
theorem k_MachineText (n o:Int) (next out:List (List Int)):Fun Tryd.prog nzz [machA n o next out] (strV (machTX n o next out)):=by
  refine fun_of mixed cz7u rfl ⟨rfl,trivial⟩ ?_
  have hML:=maxLen_le
  simp only [Az3z,Bz3y,go_sem,yz0,xx9,xx8,xx6,xx7,xx5,xx0,xx1,xx2,reduceIte,xx3,xx4,reduceCtorEq]
  intro vs vs1
  refine yz1 (k_ValidMachine n o next out) qCS trivial ?_
  cases hm:machB n o next out with
  | false=>simp only [Bz1q,Bz1t,machTX,hm,Bool.not_false,Bool.false_eq_true,go_sem,yz0,xx9,xx8,xx6,xx7,xx5,xx0,xx1,xx2,reduceIte,xx3,xx4,reduceCtorEq]
  | true =>
    have M:=machB_iff.1 hm
    have n1:=M.aut.n1
    have n2:=M.aut.n2
    have l2:=M.aut.l2
    have o1:=M.o1
    have o2:=M.o2
    have hlen:=M.len
    simp only [Bz1q,Bz1t,machTX,hm,Bool.not_true,if_true,go_sem,yz0,xx9,xx8,xx6,xx7,xx5,xx0,xx1,xx2,reduceIte,xx3,xx4,reduceCtorEq]
    intro vs2
    refine yz1 (k_size1 next) qCS trivial ?_
    simp only [go_sem,yz0,xx9,xx8,xx6,xx7,xx5,xx0,xx1,xx2,reduceIte,xx3,xx4,reduceCtorEq]
    refine ⟨⟨⟨_,rfl,rfl⟩,⟨_,rfl,rfl⟩,⟨_,rfl,rfl⟩⟩,?_⟩
    have hk:[AVal.val (Value.int .i64 n),AVal.val (Value.int .i64 o),AVal.val (Value.int .i64 (next.length:Int))]=ints [n,o,(next.length:Int)]:=rfl
    rw [hk]
    refine yz1 (k_line machS [n,o,(next.length:Int)] (fun x hx=>by
      simp only [List.mem_cons,List.not_mem_nil,or_false] at hx
      rcases hx with rfl | rfl | rfl <;> omega) (by decide) (by simp)) (by simp only [rowIs,boxIs,coe_argN,coe_argNs,coe_ro_o,coeL_nil,coeL_cons,coe_any,coe_val,coe_ro,coe_ro_nil,coe_ro_own,coe_st,coe_st_agg,coe_rp,coe_rp_ptr,coe_clo,coe_own0,coe_ptr0,coeL_intsK,coeL_rws,coeL_rwn,L_hit,L_miss,L_nil,xx3,ne_eq,reduceCtorEq,not_false_eq_true,true_and,and_true,and_self,exists_eq_left,exists_eq_right,List.mem_cons,List.not_mem_nil,or_false,AObj.row.injEq,AObj.box.injEq,exists_eq_left',exists_and_left,exists_eq,Nat.zero_lt_one,Nat.lt_add_one,List.map_cons,List.map_nil,AObj.ver,xx5,not_true_eq_false];rfl) trivial ?_
    have dn:=decS_len (n:=n.toNat)
    have dO:=decS_len (n:=o.toNat)
    have dk:=decS_len (n:=((next.length:Nat):Int).toNat)
    have hHl:(lineS machS [n,o,(next.length:Int)]).length≤30:=by
      simp only [lineS,numS,machS,List.flatMap_cons,List.flatMap_nil,List.length_append,List.length_cons,List.length_nil];omega
    unfold machT
    generalize lineS machS [n,o,(next.length:Int)]=T6 at hHl
    simp only [Bz3x,Bz3v,go_sem,yz0,xx9,xx8,xx6,xx7,xx5,xx0,xx1,xx2,reduceIte,xx3,xx4,reduceCtorEq]
    try intro hM0
    refine wpD_lo (fun (k:Nat)=>next.length - k) (fun k=>k≤next.length)
      (fun (k:Nat)=>⟨L .any [(1,.ptr 1 (vs 0 0) 0),(3,strV (T6 ++ tabS n.toNat next out k)),(21,.ro none 1 (rwn next)),(22,iv next.length),(23,iv k)],L .gone [(1,.box (vs 0 0) [iv n,iv o,.ro none 1 (rwn next),.ro none 1 (rwn out)])]⟩) 0 (Nat.zero_le _) (by simp only [Bzh,tabS,List.range_zero,List.map_nil,List.flatten_nil,List.append_nil,go_sem,yz0,xx9,xx8,xx6,xx7,xx5,xx0,xx1,xx2,reduceIte,xx3,xx4,reduceCtorEq];try rfl) ?_
    intro k hk
    have hk:k≤next.length:=hk
    have htl:=tabS_len (n:=n.toNat) (next:=next) (out:=out) (k:=k)
    have hnn:(6 * n.toNat+7) * k≤67 * 3:=Nat.mul_le_mul (by omega) (by omega)
    by_cases hlt:(k:Int)<next.length
    · have hlt1:k<next.length:=by omega
      have hlo:k<out.length:=by omega
      have wk:IntKind.i64.wrap ((k:Int)+1)=((k+1:Nat):Int):=by rw [w64 (by omega)];simp
      have hr1:=M.aut.row _ (getD_mem hlt1 [])
      have hr2:=M.row _ (getD_mem hlo [])
      have hrn:(next.getD k []).length=n.toNat:=by have:=hr1.1;omega
      obtain ⟨T,hT,hTl,d1⟩:=ifcatN (a:=T6 ++ tabS n.toNat next out k) (b:=[108,101,116,116,101,114]) (by rw [List.length_append];simp only [List.length_cons,List.length_nil];omega)
      rw [List.length_append] at hTl
      simp only [List.length_cons,List.length_nil] at hTl
      simp only [Bzh,Bz1s,Bz3u,decide_eq_true hlt,rwn_getD hlt1,go_sem,yz0,xx9,xx8,xx6,xx7,xx5,xx0,xx1,xx2,reduceIte,xx3,xx4,reduceCtorEq]
      refine ⟨⟨by omega,hlt1⟩,hlt1,?_⟩
      simp only [Bz3s,Bz3r,Bz3p,d1,go_sem,yz0,xx9,xx8,xx6,xx7,xx5,xx0,xx1,xx2,reduceIte,xx3,xx4,reduceCtorEq]
      try intro hM1
      refine wpD_lo (fun (i:Nat)=>n.toNat - i) (fun i=>i≤n.toNat)
        (fun (i:Nat)=>⟨L .any [(1,.ptr 1 (vs 0 0) 0),(3,strV (T ++ rowS (next.getD k []) (out.getD k []) i)),(4,iv k),(21,.ro none 1 (rwn next)),(22,iv next.length),(23,iv k),(30,.ro none 1 (ints (next.getD k []))),(31,iv (next.getD k []).length),(32,iv i)],L .gone [(1,.box (vs 0 0) [iv n,iv o,.ro none 1 (rwn next),.ro none 1 (rwn out)])]⟩) 0 (Nat.zero_le _) (by simp only [Bzg,rowS,List.range_zero,List.map_nil,List.flatten_nil,List.append_nil,go_sem,yz0,xx9,xx8,xx6,xx7,xx5,xx0,xx1,xx2,reduceIte,xx3,xx4,reduceCtorEq];try rfl) ?_
      intro i hi
      have hi:i≤n.toNat:=hi
      have hrl:=rowS_len (next:=next.getD k []) (out:=out.getD k []) (i:=i)
      by_cases hli:(i:Int)<(next.getD k []).length
      · have hli1:i<(next.getD k []).length:=by omega
        have hlo1:i<(out.getD k []).length:=by omega
        have wi:IntKind.i64.wrap ((i:Int)+1)=((i+1:Nat):Int):=by rw [w64 (by omega)];simp
        have hx1:=hr1.2 _ (getD_mem hli1 0)
        have hx2:=hr2.2 _ (getD_mem hlo1 0)
        simp only [Bzg,Bz1r,Bz3o,decide_eq_true hli,intsK_getD hli1,go_sem,yz0,xx9,xx8,xx6,xx7,xx5,xx0,xx1,xx2,reduceIte,xx3,xx4,reduceCtorEq]
        refine ⟨⟨by omega,hli1⟩,hli1,?_⟩
        simp only [Bz3m,go_sem,yz0,xx9,xx8,xx6,xx7,xx5,xx0,xx1,xx2,reduceIte,xx3,xx4,reduceCtorEq]
        intro vs3
        refine yz1 (k_decimalI ((next.getD k []).getD i 0) (by omega)) qCS trivial ?_
        have e1:=decS_len (n:=((next.getD k []).getD i 0).toNat)
        have e2:=decS_len (n:=((out.getD k []).getD i 0).toNat)
        obtain ⟨U1,hU1,hul1,u1⟩:=ifcatN (a:=[32]) (b:=decS ((next.getD k []).getD i 0).toNat) (by simp only [List.length_cons,List.length_nil];omega)
        simp only [List.length_cons,List.length_nil] at hul1
        obtain ⟨U2,hU2,hul2,u2⟩:=ifcatN (a:=U1) (b:=[47]) (by simp only [List.length_cons,List.length_nil];omega)
        simp only [List.length_cons,List.length_nil] at hul2
        simp only [u1,u2,rwn_getD hlo,intsK_getD hlo1,go_sem,yz0,xx9,xx8,xx6,xx7,xx5,xx0,xx1,xx2,reduceIte,xx3,xx4,reduceCtorEq]
        refine ⟨⟨by omega,hlo⟩,hlo,⟨by omega,hlo1⟩,hlo1,?_⟩
        refine yz1 (k_decimalI ((out.getD k []).getD i 0) (by omega)) qCS trivial ?_
        obtain ⟨U3,hU3,hul3,u3⟩:=ifcatN (a:=U2) (b:=decS ((out.getD k []).getD i 0).toNat) (by omega)
        obtain ⟨U4,hU4,hul4,u4⟩:=ifcatN (a:=T ++ rowS (next.getD k []) (out.getD k []) i) (b:=U3) (by rw [List.length_append];omega)
        have hU:U4=T ++ rowS (next.getD k []) (out.getD k []) (i+1):=by
          rw [hU4,hU3,hU2,hU1,rowS_succ,List.append_assoc]
          simp [pairS]
        simp only [u3,u4,Bz3n,wi,go_sem,yz0,xx9,xx8,xx6,xx7,xx5,xx0,xx1,xx2,reduceIte,xx3,xx4,reduceCtorEq]
        exact ⟨i+1,by omega,by omega,by rw [hU]⟩
      · obtain rfl:i=n.toNat:=by omega
        obtain ⟨U,hU,hul,u1⟩:=ifcatN (a:=T ++ rowS (next.getD k []) (out.getD k []) n.toNat) (b:=[10]) (by rw [List.length_append];simp only [List.length_cons,List.length_nil];omega)
        have hU:U=T6 ++ tabS n.toNat next out (k+1):=by
          rw [hU,hT,tabS_succ]
          simp [lettS]
        simp only [Bzg,Bz1r,Bz3q,Bz3t,decide_eq_false hli,u1,wk,go_sem,yz0,xx9,xx8,xx6,xx7,xx5,xx0,xx1,xx2,reduceIte,xx3,xx4,reduceCtorEq]
        exact ⟨k+1,by omega,by omega,by rw [hU]⟩
    · obtain rfl:k=next.length:=by omega
      simp only [Bzh,Bz1s,Bz3w,decide_eq_false hlt,go_sem,yz0,xx9,xx8,xx6,xx7,xx5,xx0,xx1,xx2,reduceIte,xx3,xx4,reduceCtorEq]
      try (intro hM0;rfl)
end Go.Ab
namespace Go.Ab
open Go.Proofs
theorem k_FnExactMachineText (n o:Int) (next out:List (List Int)):Fun Tryd.prog nz2x [.st [iv n,iv o,.ro (some (some 0)) 1 (rwo next),.ro (some (some 0)) 1 (rwo out)]] (bv true):=by
  refine fun_of mixed cz7q rfl ⟨rfl,trivial⟩ ?_
  simp only [Az38,Bz37,go_sem,yz0,xx9,xx8,xx6,xx7,xx5,xx0,xx1,xx2,reduceIte,xx3,xx4,reduceCtorEq]
  intro vs
  simp only [Bz36,go_sem,yz0,xx9,xx8,xx6,xx7,xx5,xx0,xx1,xx2,reduceIte,xx3,xx4,reduceCtorEq]
  intro vs1
  refine yz1 (k_szMachine n o next out 1048576 (by omega)) qCO trivial ?_
  by_cases hsz:szC2 next out 1048576<0
  · simp only [Bz1j,Bz1i,decide_eq_true hsz,go_sem,yz0,xx9,xx8,xx6,xx7,xx5,xx0,xx1,xx2,reduceIte,xx3,xx4,reduceCtorEq]
  obtain ⟨g1,g2,g3⟩:=szC2_ge hsz
  obtain ⟨hs1,hs2,hs3⟩:=szLL_ge (xss:=next) (l:=1048576) g1
  obtain ⟨ht1,ht2,ht3⟩:=szLL_ge (xss:=out) (l:=szLL next 1048576) g2
  have hb1:next.length * 24≤140737488355328:=by omega
  have hb2:∀ xs∈next,xs.length * 8≤140737488355328:=fun xs hx=>by have:=hs2 xs hx;omega
  have hb3:out.length * 24≤140737488355328:=by omega
  have hb4:∀ xs∈out,xs.length * 8≤140737488355328:=fun xs hx=>by have:=ht2 xs hx;omega
  simp only [Bz1j,Bz1i,Bz35,decide_eq_false hsz,go_sem,yz0,xx9,xx8,xx6,xx7,xx5,xx0,xx1,xx2,reduceIte,xx3,xx4,reduceCtorEq]
  intro vs2
  refine call_rows2 (k_toMachine n o next out hb1 hb2 hb3 hb4) qCO rfl rfl fun v1 w1=>?_
  simp only [go_sem,yz0,xx9,xx8,xx6,xx7,xx5,xx0,xx1,xx2,reduceIte,xx3,xx4,reduceCtorEq]
  refine yz1 (k_specMachineText n o next out) qCS trivial ?_
  simp only [Bz34,go_sem,yz0,xx9,xx8,xx6,xx7,xx5,xx0,xx1,xx2,reduceIte,xx3,xx4,reduceCtorEq]
  intro vs3
  refine call_rows2 (k_toMachine n o next out hb1 hb2 hb3 hb4) qCO rfl rfl fun v2 w2=>?_
  simp only [Bz33,go_sem,yz0,xx9,xx8,xx6,xx7,xx5,xx0,xx1,xx2,reduceIte,xx3,xx4,reduceCtorEq]
  intro vs4
  refine yz1 (k_MachineText n o next out) qCS trivial ?_
  simp only [Bz32,Bz2y,Bz31,beq_self_eq_true,Bool.not_true,go_sem,yz0,xx9,xx8,xx6,xx7,xx5,xx0,xx1,xx2,reduceIte,xx3,xx4,reduceCtorEq]
  intro vs5
  refine call_rows2 (k_toMachine n o next out hb1 hb2 hb3 hb4) qCO rfl rfl fun v3 w3=>?_
  simp only [go_sem,yz0,xx9,xx8,xx6,xx7,xx5,xx0,xx1,xx2,reduceIte,xx3,xx4,reduceCtorEq]
  refine yz1 (k_eqMachine n n o o next out next out) qCS trivial ?_
  simp only [Bz2z,Bz30,decide_true,Bool.and_self,go_sem,yz0,xx9,xx8,xx6,xx7,xx5,xx0,xx1,xx2,reduceIte,xx3,xx4,reduceCtorEq]
end Go.Ab
namespace Go.Ab
open Go
variable {P:Program}
theorem arg_mach {t:TypeId} {A:AVal} {fs:Array Field} {f1 f2 f3 f4:Field} (h:P.underlying t=some (.struct fs)) (hfs:fs.toList=[f1,f2,f3,f4]) (ht1:P.underlying f1.type=some (.int .i64)) (ht2:P.underlying f2.type=some (.int .i64))
    {e f:TypeId} (h2:P.underlying f3.type=some (.slice e)) (h3:P.underlying f4.type=some (.slice e)) (h1:P.cellsOf e=1) (he:P.underlying e=some (.slice f)) (hf1:P.cellsOf f=1) (hf:P.underlying f=some (.int .i64))
    (hA:ArgShp P t A):∃ n o x y,A=.st [iv n,iv o,.ro (some (some 0)) 1 (rwo x),.ro (some (some 0)) 1 (rwo y)]:=by
  obtain ⟨As,rfl,hF⟩:=arg_struct h hA
  rw [hfs] at hF
  cases hF with
  | cons hA1 hF =>
    cases hF with
    | cons hA2 hF =>
      cases hF with
      | cons hA3 hF =>
        cases hF with
        | cons hA4 hF =>
          cases hF
          obtain ⟨n,rfl⟩:=shp_int ht1 hA1
          obtain ⟨o,rfl⟩:=shp_int ht2 hA2
          obtain ⟨x,rfl⟩:=shp_rows h2 h1 he hf1 hf hA3
          obtain ⟨y,rfl⟩:=shp_rows h3 h1 he hf1 hf hA4
          exact ⟨n,o,x,y,rfl⟩
end Go.Ab
