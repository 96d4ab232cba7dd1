/- Contracts and what they lean on, part 2. Conditions: none. -/
import Derived.Great.FillDense
import Derived.Laws.MakeOwn
import Derived.Laws.BytesString
import Derived.Laws.Tables
import Derived.Test.YtmmpllmppgelgaaDoorZ1
set_option maxRecDepth 100000
set_option maxHeartbeats 4000000
set_option linter.all false
open Nat renaming reduceLeDiff → xx0, reduceMul → xx1, reduceSub → xx2, reduceEqDiff → xx3, reduceAdd → xx4, reduceLT → xx5
open Int renaming reduceToNat → xx6, reduceNeg → xx7, reduceLE → xx8, reduceLT → xx9
namespace Go.Ab
section
variable {P:Program} {w0:World} {outs:Nat→Prop} {N:Nat} {σ:St} {o:Oper} {a:Act} {c:Cz} {ver:Nat}
theorem one_cell (G:Good w0 outs c) {A:AVal} {v:Value} (h:Rep c A v) (h1:One c.hp A):v.oneCell'=true:=by
  cases A with
  | val x=>rw [rep_val h];exact h1
  | ro nm k cs=>simp only [Rep] at h;obtain ⟨base,len,cap,rfl,_⟩:=h;rfl
  | rp cs off=>simp only [Rep] at h;obtain ⟨b,p,rfl,_⟩:=h;rfl
  | clo f caps=>simp only [Rep] at h;obtain ⟨vs,rfl,_⟩:=h;rfl
  | own r v' =>
    obtain ⟨k,nn,cs,hr⟩:=h1
    simp only [Rep] at h
    have hO:=G.obj r
    rw [hr] at hO h
    obtain ⟨base,n,cap,hl,_⟩:=hO
    rw [h.2 rfl,hl];rfl
  | ptr r v' off =>
    simp only [Rep] at h
    obtain ⟨b,p,_,hv⟩:=h.2 h1
    rw [hv];rfl
  | mp r v' =>
    obtain ⟨ks,vs,hr⟩:=h1
    simp only [Rep] at h
    have hO:=G.obj r
    rw [hr] at hO h
    obtain ⟨b,clock,ents,hl,_⟩:=hO
    rw [h.2 rfl,hl];rfl
  | _=>exact h1.elim
theorem cells_one {v:Value} (h:v.oneCell'=true):v.cells=#[v]:=by cases v <;> simp_all [Value.oneCell',Value.cells]
theorem repL_vals:∀ (vs:List Value),RepL c (vs.map .val) vs
  | []=>by simp [RepL]
  | v :: vs=>by simp only [List.map_cons,RepL];exact ⟨yzy,repL_vals vs⟩
theorem RepL.one (G:Good w0 outs c):∀ {cs:List AVal} {vs:List Value},RepL c cs vs→(∀ A∈cs,One c.hp A)→∀ u∈vs,u.oneCell'=true
  | [],[],_,_=>by simp
  | [],_ :: _,h,_=>by simp [RepL] at h
  | _ :: _,[],h,_=>by simp [RepL] at h
  | A :: cs,v :: vs,h,h1=>by
    simp only [RepL] at h
    intro u hu
    rcases List.mem_cons.1 hu with rfl | hu
    · exact one_cell G h.1 (h1 A (by simp))
    · exact RepL.one G h.2 (fun B hB=>h1 B (by simp [hB])) u hu
theorem cells_rep (G:Good w0 outs c) {A:AVal} {v:Value} (h:Rep c A v) (h1:∀ B∈A.cells,One c.hp B):RepL c A.cells v.cells.toList∧∀ u∈v.cells.toList,u.oneCell'=true:=by
  have plain:A.cells=[A]→RepL c A.cells v.cells.toList∧∀ u∈v.cells.toList,u.oneCell'=true:=by
    intro e
    have h1':=one_cell G h (h1 A (by rw [e];simp))
    rw [cells_one h1',e]
    exact ⟨by simp only [RepL];exact ⟨h,trivial⟩,by simpa using h1'⟩
  cases A with
  | st cs =>
    simp only [Rep] at h
    obtain ⟨vs,rfl,hl⟩:=h
    exact ⟨hl,hl.one G h1⟩
  | val x =>
    cases x with
    | agg vs =>
      have:=rep_val h
      subst this
      have hl:RepL c (vs.toList.map .val) vs.toList:=repL_vals vs.toList
      exact ⟨hl,hl.one G h1⟩
    | _=>exact plain rfl
  | _=>exact plain rfl
theorem Good.new (G:Good w0 outs c) {d:Nat} (hd:c.hp d=.gone) (hver:¬ c.used ver) (o:Obj) (ao:AObj) (v:Value) (h1:ao.ver=some ver) (w':World)
    (hos:w'.os=c.w.os) (htape:w'.tape=c.w.tape) (hout:w'.output=c.w.output) (hheap:w'.heap=c.w.heap.push o)
    (hb:∀ b,blockOf v=some b→b=c.w.heap.size) (hobj:Keeps c (c.upd w' d ao v ver)→ObjRep (c.upd w' d ao v ver) v ao) (hdr:c.w.drawn≤w'.drawn:=by first | exact Nat.le_refl _ | exact Nat.le_succ _ | assumption) :
    Good w0 outs (c.upd w' d ao v ver)∧Keeps c (c.upd w' d ao v ver):=by
  refine G.upd w' d ao v ver hos htape hout (by rw [hheap];simp) ?_ ?_ (.inr (.inl ⟨h1,hver⟩)) hobj
  · intro b hlt _
    rw [hheap,Array.getElem?_push,if_neg (by omega)]
  · intro b hb'
    have:=hb b hb'
    refine ⟨.inr (by omega),?_⟩
    rw [hheap];simp;omega
theorem hp_upd {w':World} {d:Nat} {ao:AObj} {v:Value} (hc:c.hp=σ.hp):(c.upd w' d ao v ver).hp=fun n=>if n=d then ao else σ.hp n:=by
  simp only [Cz.upd,hc]
theorem used_upd {w':World} {d:Nat} {ao:AObj} {v:Value}:∀ u,(c.upd w' d ao v ver).used u→c.used u∨u=ver:=fun _ h=>h
theorem ex_box {t:TypeId} {x1:Operand} {y1:AOpd} (S:Sim w0 outs N σ a c) (hv:¬ c.used ver) (ho:o.op=.box t x1) (h1:cOpd x1=some y1)
    (hp:AI.pre σ (o.dst.getD 0) (.box y1)):Ex1 P w0 outs o a c (AI.hpw σ ver (o.dst.getD 0) (.box y1)) (AI.out σ ver (o.dst.getD 0) (.box y1)) ver:=by
  have e1:=S.ev h1
  obtain ⟨hd,hone⟩:=hp
  rw [← S.hp] at hd hone
  obtain ⟨hl,h1c⟩:=cells_rep S.good e1 hone
  have hG:=S.good.new hd hv (.cells (a.eval x1).cells t) (.box ver (σ.ev y1).cells) (.pointer (some ⟨c.w.heap.size,0,none⟩)) rfl (c.w.alloc (.cells (a.eval x1).cells t)) rfl rfl rfl rfl
    (by intro b h;simpa [blockOf] using h.symm) (fun K=>⟨c.w.heap.size,t,(a.eval x1).cells,rfl,heap_alloc_new c.w _,RepL.keeps K _ _ hl⟩)
  refine ⟨.pointer (some ⟨c.w.heap.size,0,none⟩),_,.inl ?_,hG.1,hG.2,hp_upd S.hp,?_,used_upd,rfl,rfl⟩
  · simp [execOp,ho,Instr.box,newVar,newRow,Cz.upd]
  · simp only [AI.out,Rep]
    exact ⟨.inr rfl,fun _=>⟨c.w.heap.size,0,by simp [Cz.upd,baseOf],rfl⟩⟩
theorem ex_new {t:TypeId} {i:TypeInfo} {z:Value} (S:Sim w0 outs N σ a c) (hv:¬ c.used ver) (ho:o.op=.alloc t) (hi:P.info? t=some i) (hz:i.zero=some z)
    (hp:AI.pre σ (o.dst.getD 0) (.new z.cells.toList)):Ex1 P w0 outs o a c (AI.hpw σ ver (o.dst.getD 0) (.new z.cells.toList)) (AI.out σ ver (o.dst.getD 0) (.new z.cells.toList)) ver:=by
  have hd:c.hp (o.dst.getD 0)=.gone:=by rw [S.hp];exact hp
  have hG:=S.good.new hd hv (.cells z.cells t) (.box ver (z.cells.toList.map .val)) (.pointer (some ⟨c.w.heap.size,0,none⟩)) rfl (c.w.alloc (.cells z.cells t)) rfl rfl rfl rfl
    (by intro b h;simpa [blockOf] using h.symm) (fun K=>⟨c.w.heap.size,t,z.cells,rfl,heap_alloc_new c.w _,repL_vals _⟩)
  refine ⟨.pointer (some ⟨c.w.heap.size,0,none⟩),_,.inl ?_,hG.1,hG.2,hp_upd S.hp,?_,used_upd,rfl,rfl⟩
  · simp [execOp,ho,Instr.alloc,zeroValue,typeInfo,hi,hz,newVar,newRow,Cz.upd]
  · simp only [AI.out,Rep]
    exact ⟨.inr rfl,fun _=>⟨c.w.heap.size,0,by simp [Cz.upd,baseOf],rfl⟩⟩
theorem ex_mkm {t:TypeId} (S:Sim w0 outs N σ a c) (hv:¬ c.used ver) (ho:o.op=.makeMap t none)
    (hp:AI.pre σ (o.dst.getD 0) .mkm):Ex1 P w0 outs o a c (AI.hpw σ ver (o.dst.getD 0) .mkm) (AI.out σ ver (o.dst.getD 0) .mkm) ver:=by
  have hd:c.hp (o.dst.getD 0)=.gone:=by rw [S.hp];exact hp
  have hG:=S.good.new hd hv (.map #[] 0) (.map ver [] []) (.map (some c.w.heap.size)) rfl (c.w.alloc (.map #[] 0)) rfl rfl rfl rfl
    (by intro b h;simpa [blockOf] using h.symm) (fun K=>⟨c.w.heap.size,0,#[],rfl,heap_alloc_new c.w _,⟨rfl,by simp,by simp⟩,by simp [RepL]⟩)
  refine ⟨.map (some c.w.heap.size),_,.inl ?_,hG.1,hG.2,hp_upd S.hp,?_,used_upd,rfl,rfl⟩
  · simp [execOp,ho,Instr.makeMap,Cz.upd]
  · simp only [AI.out,Rep]
    exact ⟨.inr rfl,fun _=>by simp [Cz.upd]⟩
theorem madeCells_list (z:List Value) (n k:Nat) (hk:0<k) (hz:z.length=k):(madeCells z.toArray (n * k)).toList=(List.replicate n z).flatten:=by
  apply List.ext_getElem?
  intro i
  have hlen:(madeCells z.toArray (n * k)).toList.length=n * k:=by simp [madeCells]
  have hlen2:(List.replicate n z).flatten.length=n * k:=by simp [hz]
  by_cases hi:i<n * k
  · have h1:i % k<z.length:=by rw [hz];exact Nat.mod_lt _ hk
    have hL:(madeCells z.toArray (n * k)).toList[i]?=some (z[i % k]'h1):=by
      simp only [madeCells,Array.toList_map,Array.toList_range,List.getElem?_map,List.getElem?_range hi,Option.map_some,List.size_toArray,hz]
      rw [getElem!_pos z.toArray (i % k) (by simpa using h1)]
      simp
    rw [hL]
    clear hL hlen hlen2
    induction n generalizing i with
    | zero=>simp at hi
    | succ n ih =>
      simp only [List.replicate_succ,List.flatten_cons]
      by_cases hik:i<k
      · rw [List.getElem?_append_left (by omega)]
        have:i % k=i:=Nat.mod_eq_of_lt hik
        simp [this,List.getElem?_eq_getElem (show i<z.length by omega)]
      · rw [List.getElem?_append_right (by omega),hz]
        have h2:(i - k) % k=i % k:=by
          rw [← Nat.mod_eq_sub_mod (by omega)]
        have h3:i - k<n * k:=by rw [Nat.succ_mul] at hi;omega
        have:=ih (i:=i - k) h3 (by rw [hz];exact Nat.mod_lt _ hk)
        rw [← this]
        simp [h2]
  · rw [List.getElem?_eq_none (by omega),List.getElem?_eq_none (by omega)]
theorem ex_mks {t:TypeId} {k by_:Nat} {z:Value} {x1 x2:Operand} {y1 y2:AOpd} (S:Sim w0 outs N σ a c) (hv:¬ c.used ver) (ho:o.op=.makeSlice t x1 x2) (ht:cElem P t=some (k,by_,z)) (h1:cOpd x1=some y1) (h2:cOpd x2=some y2)
    (hp:AI.pre σ (o.dst.getD 0) (.mks k by_ z.cells.toList y1 y2)):Ex1 P w0 outs o a c (AI.hpw σ ver (o.dst.getD 0) (.mks k by_ z.cells.toList y1 y2)) (AI.out σ ver (o.dst.getD 0) (.mks k by_ z.cells.toList y1 y2)) ver:=by
  obtain ⟨e,i,hu,hi,hz,hsz,hby,hk0,hzs,hb0⟩:=cElem_spec ht
  have e1:=S.ev h1;have e2:=S.ev h2
  simp only [AI.pre] at hp
  split at hp
  · rename_i n m hn hm
    obtain ⟨hd,h0,hnm,hbytes,h63⟩:=hp
    rw [hn] at e1;rw [hm] at e2
    have e1':=rep_val e1;have e2':=rep_val e2
    have hd':c.hp (o.dst.getD 0)=.gone:=by rw [S.hp];exact hd
    have hb2:(i.bytes:Int) * m≤281474976710656:=by
      rw [hby,Int.mul_comm];omega
    have hr:=run_make (P:=P) c.w t e i z hu hi hz .i64 .i64 n m h0 hnm hb2 h63
    have hcells:(madeCells z.cells (m.toNat * i.size)).toList=(List.replicate m.toNat z.cells.toList).flatten:=by
      rw [hsz];exact madeCells_list z.cells.toList m.toNat k hk0 (by simpa using hzs)
    have hflat:∀ q:Nat,q≤m.toNat→((List.replicate m.toNat z.cells.toList).flatten).take (q * k)=(List.replicate q z.cells.toList).flatten:=by
      intro q hq
      obtain ⟨r,hr⟩:=Nat.exists_eq_add_of_le hq
      rw [hr,← List.replicate_append_replicate,List.flatten_append,List.take_left' (by simp [hzs])]
    have hG:=S.good.new hd' hv (.cells (madeCells z.cells (m.toNat * i.size)) e) (.row ver k true (List.replicate n.toNat (z.cells.toList.map .val)).flatten)
      (.slice (some ⟨c.w.heap.size,0,none⟩) n.toNat m.toNat) rfl (c.w.alloc (.cells (madeCells z.cells (m.toNat * i.size)) e)) rfl rfl rfl rfl
      (by intro b h;simp only [blockOf] at h;split at h <;> simp at h;exact h.symm)
      (fun K=>by
        refine ⟨_,_,_,rfl,hk0,?_,by omega,by simp only [maxLen];omega,by simp,?_⟩
        · simp [hzs]
        · right
          refine ⟨c.w.heap.size,0,e,_,rfl,heap_alloc_new c.w _,?_,?_⟩
          · simp [madeCells,hsz]
          · rw [hcells,List.drop_zero,hflat n.toNat (by omega)]
            have:(List.replicate n.toNat (z.cells.toList.map AVal.val)).flatten=((List.replicate n.toNat z.cells.toList).flatten).map AVal.val:=by
              simp [List.map_flatten]
            rw [this];exact repL_vals _)
    refine ⟨.slice (some ⟨c.w.heap.size,0,none⟩) n.toNat m.toNat,_,.inl ?_,hG.1,hG.2,?_,?_,used_upd,rfl,rfl⟩
    · simp only [execOp,ho,e1',e2',Sem.run_bind,hr,Result.andThen_ok];rfl
    · simp only [AI.hpw,hn];exact hp_upd S.hp
    · simp only [AI.out,Rep]
      exact ⟨.inr rfl,fun _=>by simp [Cz.upd]⟩
  · exact hp.elim
theorem owned_mem:∀ {cs:List AVal} {r:Nat},r∈owned cs↔∃ v,AVal.own r v∈cs
  | [],r=>by simp [owned]
  | A :: cs,r=>by
    have ih:=owned_mem (cs:=cs) (r:=r)
    cases A <;> simp [owned,ih,List.mem_cons,eq_comm]
    constructor
    · rintro (h | ⟨v,h⟩)
      · subst h;exact ⟨_,.inl ⟨rfl,rfl⟩⟩
      · exact ⟨v,.inr h⟩
    · rintro ⟨v,⟨h,_⟩ | h⟩
      · exact .inl h
      · exact .inr ⟨v,h⟩
theorem frz_other {hp hp':Nat→AObj} {A:AVal} (h:∀ r v,A=.own r v→hp' r=hp r):frz hp' A=frz hp A:=by
  cases A with
  | own r v=>simp only [frz,h r v rfl]
  | _=>rfl
theorem frzL:∀ (cs:List AVal) (vs:List Value) (c:Cz),Good w0 outs c→RepL c cs vs→(∀ r v,AVal.own r v∈cs→∃ k nn l,c.hp r=.row v k nn l)→(owned cs).Nodup →
    ∃ c1,Good w0 outs c1∧Keeps c c1∧c1.w=c.w∧c1.used=c.used∧c1.ext=c.ext∧c1.base=c.base∧c1.loc=c.loc∧(c1.hp=fun n=>if n∈owned cs then .gone else c.hp n)∧RepL c1 (cs.map (frz c.hp)) vs
  | [],vs,c,G,h,_,_=>⟨c,G,Keeps.refl c,rfl,rfl,rfl,rfl,rfl,by simp [owned],h⟩
  | _ :: _,[],_,_,h,_,_=>by simp [RepL] at h
  | A :: cs,v :: vs,c,G,h,hown,hnd=>by
    simp only [RepL] at h
    by_cases hA:∃ r ver,A=.own r ver
    · obtain ⟨r,ver,rfl⟩:=hA
      obtain ⟨k,nn,l,hr⟩:=hown r ver (by simp)
      obtain ⟨nm,G1,K1,hrep⟩:=G.frz hr
      simp only [owned,List.nodup_cons] at hnd
      have hne:∀ r' v',AVal.own r' v'∈cs→r'≠r:=fun r' v' hm e=>hnd.1 (owned_mem.2 ⟨v',e ▸ hm⟩)
      have hhp:∀ r',r'≠r→(c.frz r nm).hp r'=c.hp r':=fun r' e=>by simp only [Cz.frz,if_neg e]
      obtain ⟨c2,G2,K2,hw,hu,hx,hb,hloc,hh,hl⟩:=frzL cs vs (c.frz r nm) G1 (RepL.keeps K1 _ _ h.2)
        (fun r' v' hm=>by rw [hhp r' (hne r' v' hm)];exact hown r' v' (by simp [hm])) hnd.2
      refine ⟨c2,G2,K1.trans K2,hw,hu,hx,hb,hloc,?_,?_⟩
      · rw [hh]
        funext n
        simp only [owned,List.mem_cons]
        by_cases e:n=r
        · subst e;simp [Cz.frz]
        · simp [e,hhp n e]
      · simp only [List.map_cons,RepL]
        constructor
        · have hv:v=c.loc r:=by
            have:=h.1
            simp only [Rep] at this
            exact this.2 (by rw [hr];rfl)
          simp only [frz,hr]
          rw [hv]
          exact Rep.keeps K2 _ _ hrep
        · have:cs.map (frz c.hp)=cs.map (frz (c.frz r nm).hp):=by
            apply List.map_congr_left
            intro B hB
            exact (frz_other fun r' v' e=>hhp r' (hne r' v' (e ▸ hB))).symm
          rw [this];exact hl
    · have hA':owned (A :: cs)=owned cs:=by
        cases A with
        | own r ver=>exact absurd ⟨r,ver,rfl⟩ hA
        | _=>rfl
      have hf:frz c.hp A=A:=by
        cases A with
        | own r ver=>exact absurd ⟨r,ver,rfl⟩ hA
        | _=>rfl
      rw [hA'] at hnd
      obtain ⟨c2,G2,K2,hw,hu,hx,hb,hloc,hh,hl⟩:=frzL cs vs c G h.2 (fun r' v' hm=>hown r' v' (by simp [hm])) hnd
      refine ⟨c2,G2,K2,hw,hu,hx,hb,hloc,by rw [hA'];exact hh,?_⟩
      simp only [List.map_cons,RepL,hf]
      exact ⟨Rep.keeps K2 _ _ h.1,hl⟩
theorem own_of_one {hp:Nat→AObj} {cs:List AVal} (h:∀ A∈cs,One hp A):∀ r v,AVal.own r v∈cs→∃ k nn l,hp r=.row v k nn l:=fun r v hm=>h _ hm
theorem cParts_spec:∀ {ps:List (Nat×Operand)} {i:Nat} {ys:List AOpd},cParts i ps=some ys→∃ xs,cOpds xs=some ys∧ps=(xs.zipIdx i).map fun x=>(x.2,x.1)
  | [],i,ys,h=>by simp [cParts] at h;subst h;exact ⟨[],by simp [cOpds],by simp⟩
  | (j,x) :: ps,i,ys,h=>by
    simp only [cParts] at h
    split at h
    · rename_i e
      subst e
      split at h
      · rename_i y ys' hy hys
        simp only [Option.some.injEq] at h;subst h
        obtain ⟨xs,hxs,hps⟩:=cParts_spec hys
        refine ⟨x :: xs,?_,?_⟩
        · simp only [cOpds,List.mapM_cons] at hxs ⊢
          simp [hy,hxs]
        · simp [hps]
      · cases h
    · cases h
theorem RepL.flat (G:Good w0 outs c) {k:Nat}:∀ {ys:List AOpd} {vs:List Value},RepL c (ys.map σ.ev) vs→(∀ y∈ys,(σ.ev y).cells.length=k∧∀ A∈(σ.ev y).cells,One c.hp A) →
    RepL c (ys.flatMap fun y=>(σ.ev y).cells) (vs.flatMap fun v=>v.cells.toList)∧(∀ v∈vs,v.cells.size=k)
  | [],[],_,_=>by simp [RepL]
  | [],_ :: _,h,_=>by simp [RepL] at h
  | _ :: _,[],h,_=>by simp [RepL] at h
  | y :: ys,v :: vs,h,h1=>by
    simp only [List.map_cons,RepL] at h
    obtain ⟨h3,h4⟩:=h1 y (by simp)
    obtain ⟨h5,_⟩:=cells_rep G h.1 h4
    obtain ⟨h6,h7⟩:=RepL.flat G h.2 fun z hz=>h1 z (by simp [hz])
    refine ⟨?_,?_⟩
    · simp only [List.flatMap_cons];exact h5.append h6
    · intro u hu
      rcases List.mem_cons.1 hu with rfl | hu
      · have:=h5.length;rw [h3] at this;simpa using this.symm
      · exact h7 u hu
theorem run_bsl {t e:TypeId} {i:TypeInfo} {z:Value} {vs:List Value} (hu:P.underlying t=some (.slice e)) (hi:P.info? e=some i) (hz:i.zero=some z) (hk:0<i.size) (hzs:z.cells.size=i.size)
    (h1:∀ v∈vs,v.cells.size=i.size) (hsmall:vs.length * i.size≤2 ^ 24) (w:World) :
    (Instr.buildSlice t vs.length ((vs.zipIdx 0).map fun x=>(x.2,x.1)).toArray).run P w =
      .ok (.slice (some ⟨w.heap.size,0,none⟩) vs.length vs.length) (w.alloc (.cells (vs.flatMap fun v=>v.cells.toList).toArray e)):=by
  have h2:¬ vs.length * i.size > 2 ^ 24:=by omega
  by_cases h0:vs.length * i.size=0
  · have hvs:vs=[]:=by
      rcases Nat.mul_eq_zero.1 h0 with h | h
      · exact List.eq_nil_of_length_eq_zero h
      · omega
    subst hvs
    simp [Instr.buildSlice,run_underlying hu,sizeOf,typeInfo,hi,Instr.fill,newRow,Array.range_zero']
  · have hfill:=Great.fill_whole hk vs ((Array.range (vs.length * i.size)).map (z.cells[· % z.cells.size]!)) h1 (by simp)
    simp [Instr.buildSlice,run_underlying hu,sizeOf,typeInfo,zeroValue,hi,hz,h0,hfill,newRow] at hsmall ⊢
    omega
theorem ex_bsl {t:TypeId} {k by_ len:Nat} {fz:Bool} {z:Value} {ps:Array (Nat×Operand)} {ys:List AOpd} (S:Sim w0 outs N σ a c) (hv:¬ c.used ver) (ho:o.op=.buildSlice t len ps) (ht:cElem P t=some (k,by_,z))
    (h1:cParts 0 ps.toList=some ys) (hlen:ys.length=len) (hsmall:len * k≤2 ^ 24)
    (hp:AI.pre σ (o.dst.getD 0) (.bsl k fz ys)):Ex1 P w0 outs o a c (AI.hpw σ ver (o.dst.getD 0) (.bsl k fz ys)) (AI.out σ ver (o.dst.getD 0) (.bsl k fz ys)) ver:=by
  obtain ⟨e,i,hu,hi,hz,hsz,hby,hk0,hzs,hb0⟩:=cElem_spec ht
  obtain ⟨xs,hxs,hps⟩:=cParts_spec h1
  have e1:=S.evs hxs
  obtain ⟨_,hd,hone,hnd⟩:=hp
  have hd':c.hp (o.dst.getD 0)=.gone:=by rw [S.hp];exact hd
  have hone':∀ y∈ys,(σ.ev y).cells.length=k∧∀ A∈(σ.ev y).cells,One c.hp A:=by rw [S.hp];exact hone
  obtain ⟨hl,hsize⟩:=e1.flat S.good hone'
  have hlx:xs.length=ys.length:=by
    have:=e1.length;simpa using this.symm
  have hown:∀ r v,AVal.own r v∈(ys.flatMap fun y=>(σ.ev y).cells)→∃ k nn l,c.hp r=.row v k nn l:=by
    intro r v hm
    obtain ⟨y,hy,hA⟩:=List.mem_flatMap.1 hm
    exact (hone' y hy).2 _ hA
  obtain ⟨c1,G1,K1,hw1,hu1,hx1,hb1,hloc1,hh1,hl1⟩:=frzL _ _ c S.good hl hown hnd
  have hd1:c1.hp (o.dst.getD 0)=.gone:=by
    rw [hh1];simp only [];split <;> first | rfl | exact hd'
  have hv1:¬ c1.used ver:=by rw [hu1];exact hv
  have hlen2:(ys.flatMap fun y=>(σ.ev y).cells).length=len * k:=by
    have h5:∀ zs:List AOpd,(∀ z∈zs,(σ.ev z).cells.length=k)→(zs.flatMap fun y=>(σ.ev y).cells).length=zs.length * k:=by
      intro zs
      induction zs with
      | nil=>simp
      | cons z zs ih =>
        intro hz
        simp only [List.flatMap_cons,List.length_append,List.length_cons,ih fun u hu=>hz u (by simp [hu]),hz z (by simp),Nat.succ_mul]
        omega
    rw [h5 ys fun z hz=>(hone' z hz).1,hlen]
  have hG:=G1.new (hdr:=by rw [hw1];exact Nat.le_refl _) hd1 hv1 (.cells ((xs.map a.eval).flatMap fun v=>v.cells.toList).toArray e) (.row ver k true ((ys.flatMap fun y=>(σ.ev y).cells).map (frz c.hp)))
    (.slice (some ⟨c.w.heap.size,0,none⟩) len len) rfl (c.w.alloc (.cells ((xs.map a.eval).flatMap fun v=>v.cells.toList).toArray e)) (by rw [hw1];rfl) (by rw [hw1];rfl) (by rw [hw1];rfl) (by rw [hw1];rfl)
    (by intro b h;simp only [blockOf] at h;split at h <;> simp at h;rw [hw1];exact h.symm)
    (fun K=>by
      refine ⟨_,_,_,rfl,hk0,by simpa using hlen2,Nat.le_refl _,?_,by simp,?_⟩
      · simp only [maxLen]
        have:len≤len * k:=Nat.le_mul_of_pos_right _ hk0
        omega
      · right
        have hL:=hl1.length
        refine ⟨c.w.heap.size,0,e,_,rfl,heap_alloc_new c.w _,?_,?_⟩
        · rw [List.length_map,hlen2] at hL
          simp only [List.size_toArray,Nat.zero_add];omega
        · rw [List.length_map,hlen2] at hL
          rw [List.drop_zero,List.take_of_length_le (by simp only [List.toList_toArray];omega)]
          simp only [List.toList_toArray]
          exact RepL.keeps K _ _ hl1)
  refine ⟨.slice (some ⟨c.w.heap.size,0,none⟩) len len,_,.inl ?_,hG.1,K1.trans hG.2,?_,?_,?_,hx1,hb1⟩
  · have hlv:(xs.map a.eval).length=len:=by simp [hlx,hlen]
    have hr:=run_bsl (P:=P) (vs:=xs.map a.eval) hu hi hz (by omega) (by omega) (by rw [hsz];exact hsize) (by rw [hlv,hsz];exact hsmall) c.w
    have hparts:(ps.map fun (i,x)=>(i,a.eval x))=(((xs.map a.eval).zipIdx 0).map fun x=>(x.2,x.1)).toArray:=by
      apply Array.ext'
      rw [Array.toList_map,hps]
      simp [List.zipIdx_map,List.map_map,Function.comp_def]
    simp only [execOp,ho,hparts]
    rw [hlv] at hr
    simp [hr,Cz.upd]
  · simp only [Cz.upd,AI.hpw,hh1,S.hp]
  · simp only [AI.out,Rep]
    exact ⟨.inr rfl,fun _=>by simp [Cz.upd]⟩
  · intro u h
    rcases h with h | h
    · rw [hu1] at h;exact .inl h
    · exact .inr h
end
end Go.Ab
namespace Go.Ab
section
variable {P:Program} {w0:World} {outs:Nat→Prop} {N:Nat} {σ:St} {o:Oper} {a:Act} {c:Cz} {ver:Nat}
theorem RepAt.vals {c:Cz} {b:Nat}:∀ {cs:List AVal} {off:Nat},RepAt c b off cs→∃ vs,RepL c cs vs∧vs.length=cs.length∧∀ (j:Nat) v,vs[j]?=some v→c.w.cell? ⟨b,off+j,none⟩=some v
  | [],_,_=>⟨[],by simp [RepL],rfl,by simp⟩
  | A :: cs,off,h=>by
    simp only [RepAt] at h
    obtain ⟨⟨v,hv,hr⟩,ht⟩:=h
    obtain ⟨vs,h1,h2,h3⟩:=RepAt.vals ht
    refine ⟨v :: vs,by simp only [RepL];exact ⟨hr,h1⟩,by simp [h2],?_⟩
    intro j u hj
    cases j with
    | zero=>simp at hj;subst hj;simpa using hv
    | succ j =>
      have:=h3 j u (by simpa using hj)
      simpa [Nat.add_assoc,Nat.add_comm 1 j] using this
theorem Good.write (G:Good w0 outs c) {r v g:Nat} {ao:AObj} {cells:Array Value} (hr:(c.hp r).ver=some v) (hao:ao.ver=some v) (hblk:blockOf (c.loc r)=some g) (cells':Array Value)
    (hobj:Keeps c (c.upd (c.w.setRow g cells') r ao (c.loc r) v)→ObjRep (c.upd (c.w.setRow g cells') r ao (c.loc r) v) (c.loc r) ao) :
    Good w0 outs (c.upd (c.w.setRow g cells') r ao (c.loc r) v)∧Keeps c (c.upd (c.w.setRow g cells') r ao (c.loc r) v):=by
  have hg:c.hp r≠.gone:=ver_ne_gone hr
  refine G.upd _ r ao _ v rfl rfl rfl (by simp) ?_ ?_ (.inr (.inr ⟨hao.trans hr.symm,rfl,(G.verU _ _ hr).1⟩)) hobj
  · intro b _ hn
    exact setRow_other c.w g b _ fun e=>hn ⟨hg,by rw [e];exact hblk⟩
  · intro b hb
    exact ⟨.inl ⟨hg,hb⟩,by simpa using (G.obj r).lt hg hb⟩
theorem list_put_mid (l new:List Value) (p q:Nat) (n:Nat) (h1:p≤q) (h2:q+new.length≤p+n) (h3:p+n≤l.length) :
    ((l.take q ++ new ++ l.drop (q+new.length)).drop p).take n=((l.drop p).take n).take (q - p) ++ new ++ ((l.drop p).take n).drop (q - p+new.length):=by
  apply List.ext_getElem?
  intro i
  simp only [List.getElem?_take,List.getElem?_drop,List.getElem?_append,List.length_take,List.length_append,List.length_drop]
  have e1:min q l.length=q:=by omega
  have e2:min n (l.length - p)=n:=by omega
  have e3:min (q - p) n=q - p:=by omega
  rw [e1,e2,e3]
  by_cases hi:i<n
  · rw [if_pos hi]
    by_cases ha:p+i<q
    · rw [if_pos (by omega),if_pos ha,if_pos (by omega),if_pos (by omega),if_pos (by omega),if_pos hi]
      simp [ha]
      intro h;omega
    · by_cases hb:p+i<q+new.length
      · rw [if_pos (by omega),if_neg ha,if_pos (by omega),if_neg (by omega)]
        congr 1;omega
      · rw [if_neg (by omega),if_neg (by omega),if_pos (by omega)]
        congr 1;omega
  · rw [if_neg hi]
    symm
    rw [if_neg (by omega),if_neg (by omega)]
theorem RepL.putAt {c:Cz} {cs new:List AVal} {vs us:List Value} (h:RepL c cs vs) (k:RepL c new us) (off:Nat):RepL c (Go.Ab.putAt cs off new) (vs.take off ++ us ++ vs.drop (off+us.length)):=by
  unfold Go.Ab.putAt
  rw [k.length]
  exact ((h.take off).append k).append (h.drop _)
theorem run_storeVar {t:TypeId} {g p:Nat} {v:Value} {cells:Array Value} {ty:TypeId} {n:Nat} (hsz:cSize P t=some none∧n=1∨cSize P t=some (some n)) (hv:v.cells.size=n) (h1:∀ u∈v.cells.toList,u.oneCell'=true)
    {w:World} (hg:w.heap[g]?=some (.cells cells ty (0,0))) (hfit:p+n≤cells.size) :
    (storeVar t ⟨g,p,none⟩ v).run P w=.ok () (w.setRow g (cells.toList.take p ++ v.cells.toList ++ cells.toList.drop (p+n)).toArray):=by
  have hs:(sizeOf t).run P w=.ok n w:=by
    rcases hsz with ⟨h,rfl⟩ | h
    · unfold cSize at h
      split at h
      · simp at h
      · simp at h
      · rename_i d i _ _ hd hi
        split at h
        · rename_i e;simp [sizeOf,typeInfo,hi,e]
        · cases h
      · cases h
    · exact (run_isAgg_true h w).2
  have hst:=run_storeCells_at P g p ty v.cells.toList 0 cells w hg (by simp only [Nat.add_zero,Array.length_toList];omega) h1
  simp only [Nat.add_zero,Array.length_toList,hv] at hst
  simp [storeVar,hs,hv,hst]
theorem ex_sto {t:TypeId} {n:Nat} {x1 x2:Operand} {y1 y2:AOpd} (S:Sim w0 outs N σ a c) (ho:o.op=.store t x1 x2) (hsz:cSize P t=some none∧n=1∨cSize P t=some (some n)) (h1:cOpd x1=some y1) (h2:cOpd x2=some y2) (hn:0<n)
    (hp:AI.pre σ (o.dst.getD 0) (.sto n y1 y2)):Ex1 P w0 outs o a c (AI.hpw σ ver (o.dst.getD 0) (.sto n y1 y2)) (AI.out σ ver (o.dst.getD 0) (.sto n y1 y2)) ver:=by
  have e1:=S.ev h1;have e2:=S.ev h2
  simp only [AI.pre] at hp
  split at hp
  · rename_i r ver' off hu
    obtain ⟨hr,hlen,hone⟩:=hp
    rw [hu] at e1
    simp only [Rep] at e1
    rw [← S.hp] at hr hone
    obtain ⟨hl,h1c⟩:=cells_rep S.good e2 hone
    have hvsz:(a.eval x2).cells.size=n:=by
      have:=hl.length;rw [hlen] at this;simpa using this.symm
    have hO:=S.good.obj r
    split at hr
    · rename_i ver2 cs hrr
      obtain ⟨rfl,hfit⟩:=hr
      rw [hrr] at hO e1
      obtain ⟨g,ty,cells,hloc,hg,hrep⟩:=hO
      obtain ⟨b,p,hb,hv⟩:=e1.2 rfl
      rw [hloc] at hb
      simp only [baseOf,Option.some.injEq,Addr.mk.injEq] at hb
      obtain ⟨rfl,rfl,-⟩:=hb
      have hcl:=hrep.length
      have hcs:cs.length=cells.size:=by simpa using hcl
      have hrun:=run_storeVar (P:=P) (t:=t) (p:=0+off) hsz hvsz h1c hg (by omega)
      have hG:=S.good.write (cells:=cells) (ao:=.box ver2 (putAt cs off (σ.ev y2).cells)) (by rw [hrr];rfl) rfl (by rw [hloc];rfl) (cells.toList.take (0+off) ++ (a.eval x2).cells.toList ++ cells.toList.drop (0+off+n)).toArray
        (fun K=>by
          refine ⟨g,ty,_,hloc,setRow_heap c.w g cells _ ty _ hg,?_⟩
          have:=RepL.keeps K _ _ (RepL.putAt hrep hl off)
          simpa [hvsz] using this)
      refine ⟨undef,_,.inr ⟨rfl,?_⟩,hG.1,hG.2,?_,by simp [AI.out,Rep],?_,rfl,rfl⟩
      · simp only [execOp,ho,hv,Instr.storeAt,Instr.sureAddr,Sem.run_bind,Sem.run_pure,Result.andThen_ok,hrun];rfl
      · have hrr':σ.hp r=.box ver2 cs:=by rw [← S.hp];exact hrr
        simp only [AI.hpw,hu,hrr',Cz.upd,S.hp]
      · rintro u (h | rfl)
        · exact .inl h
        · exact .inl e1.1
    · rename_i ver2 k nn cs hrr
      obtain ⟨rfl,hfit,hnd,hnr⟩:=hr
      obtain ⟨c1,G1,K1,hw1,hu1,hx1,hb1,hloc1,hh1,hl1⟩:=frzL _ _ c S.good hl (own_of_one hone) hnd
      have hr1:c1.hp r=.row ver2 k nn cs:=by rw [hh1];simp only [if_neg hnr];exact hrr
      have hO1:=G1.obj r
      rw [hr1] at hO1
      rw [hrr] at hO e1
      obtain ⟨base,m,cap,hloc,hk,hcl,hmc,hcm,hnn,hcase⟩:=hO1
      rw [hloc1] at hloc
      rcases hcase with h0 | ⟨g,off2,ty,cells,rfl,hg,hcfit,hrep⟩
      · have:m=0:=by omega
        subst this
        simp at hcl
        subst hcl
        simp at hfit
        omega
      · obtain ⟨b,p,hb,hv⟩:=e1.2 rfl
        rw [hloc] at hb
        simp only [baseOf,Option.some.injEq,Addr.mk.injEq] at hb
        obtain ⟨rfl,rfl,-⟩:=hb
        rw [hw1] at hg
        have hcap:cap≠0:=by
          intro e;subst e
          have:m=0:=by omega
          subst this;simp at hcl;subst hcl;simp at hfit;omega
        have hmk:m * k≤cap * k:=Nat.mul_le_mul_right _ hmc
        have hrun:=run_storeVar (P:=P) (t:=t) (p:=off2+off) hsz hvsz h1c hg (by omega)
        have hG:=G1.write (cells:=cells) (g:=g) (ao:=.row ver2 k nn (putAt cs off ((σ.ev y2).cells.map (frz c.hp)))) (by rw [hr1];rfl) rfl (by rw [hloc1,hloc];simp [blockOf,hcap]) (cells.toList.take (off2+off) ++ (a.eval x2).cells.toList ++ cells.toList.drop (off2+off+n)).toArray
          (fun K=>by
            have hpl:(putAt cs off ((σ.ev y2).cells.map (frz c.hp))).length=cs.length:=by
              simp only [putAt,List.length_append,List.length_take,List.length_drop,List.length_map,hlen];omega
            refine ⟨_,m,cap,by rw [hloc1];exact hloc,hk,by rw [hpl];exact hcl,hmc,hcm,hnn,.inr ⟨g,off2,ty,_,rfl,setRow_heap c1.w g cells _ ty _ (by rw [hw1];exact hg),?_,?_⟩⟩
            · simp only [List.size_toArray,List.length_append,List.length_take,List.length_drop,Array.length_toList,hvsz];omega
            · have h5:=RepL.keeps K _ _ (RepL.putAt hrep hl1 off)
              have h6:=list_put_mid cells.toList (a.eval x2).cells.toList off2 (off2+off) (m * k) (by omega) (by simp only [Array.length_toList,hvsz];omega) (by simp only [Array.length_toList];omega)
              simp only [Array.length_toList,hvsz,Nat.add_sub_cancel_left] at h5 h6
              simp only [List.toList_toArray]
              rw [h6]
              exact h5)
        refine ⟨undef,_,.inr ⟨rfl,?_⟩,hG.1,K1.trans hG.2,?_,by simp [AI.out,Rep],?_,hx1,hb1⟩
        · simp only [execOp,ho,hv,Instr.storeAt,Instr.sureAddr,Sem.run_bind,Sem.run_pure,Result.andThen_ok,hrun,Cz.upd,hw1]
        · have hrr':σ.hp r=.row ver2 k nn cs:=by rw [← S.hp];exact hrr
          simp only [AI.hpw,hu,hrr',Cz.upd,hh1,S.hp]
        · rintro u (h | rfl)
          · rw [hu1] at h;exact .inl h
          · exact .inl e1.1
    · exact hr.elim
  · exact hp.elim
end
end Go.Ab
namespace Go.Ab
section
variable {P:Program} {w0:World} {outs:Nat→Prop} {N:Nat} {σ:St} {o:Oper} {a:Act} {c:Cz} {ver:Nat}
theorem run_app_zero {t ty e:TypeId} {i:TypeInfo} (ht:P.underlying t=some (.slice e)) (hi:P.info? e=some i) (b1 b2:Option Addr) (n cap cap2:Nat) (h:n≤cap) (w:World) :
    (Builtin.append_ #[t,t] ty #[.slice b1 n cap,.slice b2 0 cap2]).run P w=.ok (.slice b1 n cap) w:=by
  cases b1 <;> cases b2 <;> simp [Builtin.append_,run_underlying ht,sizeOf,typeInfo,hi,Builtin.lenOf,h,Builtin.firstCells,loadCells,loadCellsFrom,storeCells]
theorem run_app_room {t ty e:TypeId} {i:TypeInfo} (ht:P.underlying t=some (.slice e)) (hi:P.info? e=some i) {g off n cap m cap2:Nat} {cells:Array Value} {te:TypeId} {w:World}
    (hg:w.heap[g]?=some (.cells cells te (0,0))) (ad:Addr) (news:List Value) (hl:news.length=m * i.size) (hnews:∀ (j:Nat) v,news[j]?=some v→w.cell? (ad.add j)=some v) (h1:∀ u∈news,u.oneCell'=true)
    (hroom:n+m≤cap) (hfit:off+n * i.size+news.length≤cells.size) :
    (Builtin.append_ #[t,t] ty #[.slice (some ⟨g,off,none⟩) n cap,.slice (some ad) m cap2]).run P w =
      .ok (.slice (some ⟨g,off,none⟩) (n+m) cap) (w.setRow g (cells.toList.take (off+n * i.size) ++ news ++ cells.toList.drop (off+n * i.size+news.length)).toArray):=by
  have hf:=run_firstCells_some (P:=P) w i.size m ad m cap2 news hl hnews
  have hst:=run_storeCells_at P g (off+n * i.size) te news 0 cells w hg (by simpa using hfit) h1
  simp only [Nat.add_zero] at hst
  have had:(⟨g,off,none⟩:Addr).add (n * i.size)=⟨g,off+n * i.size,none⟩:=addr_add _ _ _
  simp [Builtin.append_,run_underlying ht,sizeOf,typeInfo,hi,Builtin.lenOf,hroom,hf,had,hst]
theorem nil_of_mul {n k:Nat} (hk:0<k) {cs:List AVal} (h:cs.length=n * k) (h0:cs.length=0):n=0:=by
  rw [h] at h0
  rcases Nat.mul_eq_zero.1 h0 with h | h <;> omega
theorem ex_app {t:TypeId} {k by_:Nat} {z:Value} {x1 x2:Operand} {y1 y2:AOpd} {args:Array Operand} {ts:Array TypeId} (S:Sim w0 outs N σ a c) (hv:¬ c.used ver)
    (ho:o.op=.call { callee:=.builtin .append,args:=args,argTypes:=ts }) (ha:args.toList=[x1,x2]) (hts:ts.toList=[t,t]) (ht:cElem P t=some (k,by_,z)) (h1:cOpd x1=some y1) (h2:cOpd x2=some y2)
    (hp:AI.pre σ (o.dst.getD 0) (.app k by_ y1 y2)):Ex1 P w0 outs o a c (AI.hpw σ ver (o.dst.getD 0) (.app k by_ y1 y2)) (AI.out σ ver (o.dst.getD 0) (.app k by_ y1 y2)) ver:=by
  obtain ⟨e,i,hu,hi,hz,hsz,hby,hk0,hzs,hb0⟩:=cElem_spec ht
  have e1:=S.ev h1;have e2:=S.ev h2
  have ha':args=#[x1,x2]:=by cases args;simp at ha;simp [ha]
  have hts':ts=#[t,t]:=by cases ts;simp at hts;simp [hts]
  subst ha' hts'
  have run:∀ {u v r:Value} {w':World},a.eval x1=u→a.eval x2=v→(Builtin.append_ #[t,t] o.type #[u,v]).run P c.w=.ok r w'→(execOp a.eval o).run P c.w=.ok (.value r) w':=by
    intro u v r w' h3 h4 h5
    simp [execOp,ho,resolve,invoke,builtin,h3,h4,h5]
  obtain ⟨hx,hs⟩:=hp
  obtain ⟨bx,m,capx,hvx,hxl,news,hnr,hnl,hnews⟩:∃ bx m capx,a.eval x2=.slice bx m capx∧(σ.slc (σ.ev y2)).length=m * k∧∃ news,RepL c (σ.slc (σ.ev y2)) news∧news.length=(σ.slc (σ.ev y2)).length ∧
      ((σ.slc (σ.ev y2)).length≠0→∃ ad,bx=some ad∧∀ (j:Nat) v,news[j]?=some v→c.w.cell? (ad.add j)=some v):=by
    by_cases hnil:σ.ev y2=.val (.slice none 0 0)
    · rw [hnil] at e2
      refine ⟨none,0,0,rep_val e2,by simp [hnil,St.slc,St.sl],[],by simp [hnil,St.slc,St.sl,RepL],by simp [hnil,St.slc,St.sl],by simp [hnil,St.slc,St.sl]⟩
    · split at hx
      · rename_i h;exact absurd h hnil
      · split at hx
        · rename_i k' xs hsl
          obtain ⟨rfl,_⟩:=hx
          obtain ⟨base,len,cap,hv2,_,hl,hm,hcase⟩:=sl_cells S.good S.hp e2 hsl
          have hslc:σ.slc (σ.ev y2)=xs:=by simp [St.slc,hsl]
          rcases hcase with h0 | ⟨b,off,rfl,hr,_⟩
          · have hxs:xs=[]:=List.eq_nil_of_length_eq_zero h0
            refine ⟨base,len,cap,hv2,by rw [hslc];exact hl,[],by rw [hslc,hxs];simp [RepL],by rw [hslc,hxs];rfl,by rw [hslc];intro h;exact absurd h0 h⟩
          · obtain ⟨vs,h5,h6,h7⟩:=hr.vals
            refine ⟨_,len,cap,hv2,by rw [hslc];exact hl,vs,by rw [hslc];exact h5,by rw [hslc];exact h6,fun _=>⟨_,rfl,fun j v hj=>by rw [addr_add];exact h7 j v hj⟩⟩
        · exact hx.elim
  have hone:∀ u∈news,u.oneCell'=true:=by
    refine hnr.one S.good ?_
    rw [S.hp]
    intro A hA
    split at hx
    · rename_i h;rw [h] at hA;simp [St.slc,St.sl] at hA
    · split at hx
      · rename_i k' xs hsl
        have hslc:σ.slc (σ.ev y2)=xs:=by simp [St.slc,hsl]
        rw [hslc] at hA
        exact hx.2 A hA
      · exact hx.elim
  have hnm:news.length=m * k:=hnl.trans hxl
  have hm0:(σ.slc (σ.ev y2)).length=0↔m=0:=by
    rw [hxl];constructor
    · intro h;rcases Nat.mul_eq_zero.1 h with h | h <;> omega
    · intro h;simp [h]
  have hmem:∀ q:Nat,q * by_≤140737488355328→q≤maxLen:=by
    intro q hq
    have:q≤q * by_:=Nat.le_mul_of_pos_right _ hb0
    simp only [maxLen];omega
  have grown:∀ (d:Nat) (olds:List Value) (cs:List AVal) (n cap:Nat) (nn:Bool) (c1hp:Nat→AObj),c1hp=(fun q=>if q=d then AObj.row ver k nn (cs ++ σ.slc (σ.ev y2)) else c.hp q)→RepL c cs olds→olds.length=n * k→cap<n+m→(n+m) * by_≤140737488355328 →
      Good w0 outs (c.upd (c.w.drew.alloc (.cells (olds.toArray ++ news.toArray ++ Builtin.zeroCells z.cells (grownCap c.w (n+m) cap e - (n+m))) e)) d (.row ver k nn (cs ++ σ.slc (σ.ev y2))) (.slice (some ⟨c.w.heap.size,0,none⟩) (n+m) (grownCap c.w (n+m) cap e)) ver) ∧
      Keeps c (c.upd (c.w.drew.alloc (.cells (olds.toArray ++ news.toArray ++ Builtin.zeroCells z.cells (grownCap c.w (n+m) cap e - (n+m))) e)) d (.row ver k nn (cs ++ σ.slc (σ.ev y2))) (.slice (some ⟨c.w.heap.size,0,none⟩) (n+m) (grownCap c.w (n+m) cap e)) ver):=by
    intro d olds cs n cap nn c1hp _ hol hon hlt hbytes
    have hge:=grownCap_ge c.w (n+m) cap e
    have hcm:grownCap c.w (n+m) cap e≤maxLen:=grownCap_le_maxLen c.w (n+m) cap e (hmem _ hbytes)
    refine S.good.upd _ d _ _ ver rfl rfl rfl (by simp) ?_ ?_ (.inr (.inl ⟨rfl,hv⟩)) ?_
    · intro b hb _;exact heap_old_ab c.w.drew _ b hb
    · intro b hb
      simp only [blockOf] at hb
      split at hb <;> simp at hb
      subst hb
      exact ⟨.inr (Nat.le_refl _),by simp⟩
    · intro K
      have hlen:(olds ++ news).length=(n+m) * k:=by rw [List.length_append,hon,hnm,Nat.add_mul]
      refine ⟨_,_,_,rfl,hk0,?_,hge,hcm,by simp,.inr ⟨c.w.heap.size,0,e,_,rfl,heap_alloc_new c.w.drew _,?_,?_⟩⟩
      · rw [List.length_append,hol.length,hon,hxl,Nat.add_mul]
      · simp only [Array.size_append,List.size_toArray,size_zeroCells,hzs,hon,hnm,← Nat.add_mul,Nat.zero_add]
        exact Nat.le_of_eq (by congr 1;omega)
      · simp only [Array.toList_append,List.drop_zero,List.toList_toArray]
        rw [← hlen,List.take_left']
        · exact RepL.keeps K _ _ (hol.append hnr)
        · rfl
  cases hA:σ.ev y1 with
  | own r v0 =>
    simp only [hA] at hs
    rw [hA] at e1
    simp only [Rep] at e1
    split at hs
    · rename_i ver' k' nn cs hrr
      obtain ⟨rfl,rfl,hbytes⟩:=hs
      have hrc:c.hp r=.row ver' k' nn cs:=by rw [S.hp];exact hrr
      have hg0:c.hp r≠.gone:=by rw [hrc];simp
      have hO:=S.good.obj r
      rw [hrc] at hO e1
      have hv1:=e1.2 rfl
      obtain ⟨base,n,cap,hloc,hk,hcl,hnc,hcm,hnn,hcase⟩:=hO
      rw [hloc] at hv1
      have hdiv:(cs.length+(σ.slc (σ.ev y2)).length) / k'=n+m:=by
        rw [hcl,hxl,← Nat.add_mul];exact Nat.mul_div_cancel _ hk
      rw [hdiv] at hbytes
      have hhp:AI.hpw σ ver (o.dst.getD 0) (.app k' by_ y1 y2)=fun q=>if q=r then AObj.row ver k' (nn || decide ((σ.slc (σ.ev y2)).length≠0)) (cs ++ σ.slc (σ.ev y2)) else c.hp q:=by
        simp only [AI.hpw,hA,hrr,S.hp]
      have hout:AI.out σ ver (o.dst.getD 0) (.app k' by_ y1 y2)=.own r ver:=by simp only [AI.out,hA]
      by_cases hm:m=0
      · -- nothing is appended
        subst hm
        have hx0:σ.slc (σ.ev y2)=[]:=List.eq_nil_of_length_eq_zero (by omega)
        have hr:=run_app_zero (P:=P) (ty:=o.type) hu hi base bx n cap capx hnc c.w
        have hG:=S.good.upd c.w r (.row ver k' nn cs) (c.loc r) ver rfl rfl rfl (Nat.le_refl _) (fun _ _ _=>rfl)
          (fun b hb=>⟨.inl ⟨hg0,hb⟩,(S.good.obj r).lt hg0 hb⟩) (.inr (.inl ⟨rfl,hv⟩))
          (fun K=>by
            have h5:=(S.good.obj r).keeps K fun b _=>rfl
            rw [hrc] at h5
            exact h5)
        refine ⟨_,c.upd c.w r (.row ver k' nn cs) (c.loc r) ver,.inl (run hv1 hvx hr),hG.1,hG.2,?_,?_,used_upd,rfl,rfl⟩
        · rw [hhp,hx0];simp [Cz.upd]
        · rw [hout];simp only [Rep]
          exact ⟨.inr rfl,fun _=>by simp [Cz.upd,hloc]⟩
      · obtain ⟨ad,rfl,hcellx⟩:=hnews (by rw [ne_eq,hm0];exact hm)
        have hnn':(nn || decide ((σ.slc (σ.ev y2)).length≠0))=true:=by
          have:(σ.slc (σ.ev y2)).length≠0:=by rw [ne_eq,hm0];exact hm
          simp [this]
        rw [hnn'] at hhp
        by_cases hroom:n+m≤cap
        · -- it fits
          rcases hcase with h0 | ⟨g,off,te,cells,rfl,hg,hcf,hrep⟩
          · omega
          · have hcap:cap≠0:=by omega
            have hmul:(n+m) * k'≤cap * k':=Nat.mul_le_mul_right _ hroom
            rw [Nat.add_mul] at hmul
            have hr:=run_app_room (P:=P) (ty:=o.type) hu hi (off:=off) (n:=n) (cap:=cap) (cap2:=capx) hg ad news (by rw [hsz];exact hnm) hcellx hone hroom (by rw [hsz,hnm];omega)
            rw [hsz] at hr
            have hG:=S.good.upd (c.w.setRow g (cells.toList.take (off+n * k') ++ news ++ cells.toList.drop (off+n * k'+news.length)).toArray) r (.row ver k' true (cs ++ σ.slc (σ.ev y2)))
              (.slice (some ⟨g,off,none⟩) (n+m) cap) ver rfl rfl rfl (by simp)
              (fun b _ hnb=>setRow_other c.w g b _ fun e=>hnb ⟨hg0,by rw [hloc,e];simp [blockOf,hcap]⟩)
              (fun b hb=>by
                simp only [blockOf,if_neg hcap,Option.some.injEq] at hb
                subst hb
                exact ⟨.inl ⟨hg0,by rw [hloc];simp [blockOf,hcap]⟩,by simpa using block_lt_of_some hg⟩)
              (.inr (.inl ⟨rfl,hv⟩))
              (fun K=>by
                refine ⟨_,n+m,cap,rfl,hk,by rw [List.length_append,hcl,hxl,Nat.add_mul],hroom,hcm,by simp,.inr ⟨g,off,te,_,rfl,setRow_heap c.w g cells _ te _ hg,?_,?_⟩⟩
                · simp only [List.size_toArray,List.length_append,List.length_take,List.length_drop,Array.length_toList];omega
                · simp only [List.toList_toArray]
                  have h6:=list_put_mid cells.toList news off (off+n * k') ((n+m) * k') (by omega) (by rw [Nat.add_mul,hnm];omega) (by rw [Nat.add_mul,Array.length_toList];omega)
                  rw [h6]
                  have h7:((cells.toList.drop off).take ((n+m) * k')).take (off+n * k' - off)=(cells.toList.drop off).take (n * k'):=by
                    rw [List.take_take,Nat.add_sub_cancel_left,Nat.add_mul]
                    congr 1;omega
                  have h8:((cells.toList.drop off).take ((n+m) * k')).drop (off+n * k' - off+news.length)=[]:=by
                    apply List.drop_eq_nil_of_le
                    rw [List.length_take,Nat.add_mul,hnm];omega
                  rw [h7,h8,List.append_nil]
                  exact RepL.keeps K _ _ (hrep.append hnr))
            refine ⟨_,_,.inl (run hv1 hvx hr),hG.1,hG.2,?_,?_,used_upd,rfl,rfl⟩
            · rw [hhp];rfl
            · rw [hout];simp only [Rep]
              exact ⟨.inr rfl,fun _=>by simp [Cz.upd]⟩
        · -- it grows
          have holds:∃ olds,RepL c cs olds∧olds.length=n * k'∧(base=none→n=0∧cap=0)∧∀ b,base=some b→∀ (j:Nat) v,olds[j]?=some v→c.w.cell? (b.add j)=some v:=by
            rcases hcase with h0 | ⟨g,off,te,cells,rfl,hg,hcf,hrep⟩
            · have hn0:n=0:=by omega
              subst hn0
              have:cs=[]:=List.eq_nil_of_length_eq_zero (by omega)
              subst this
              exact ⟨[],by simp [RepL],by simp,fun _=>⟨rfl,h0⟩,by simp⟩
            · refine ⟨(cells.toList.drop off).take (n * k'),hrep,by rw [← hrep.length,hcl],by simp,?_⟩
              intro b hb j v hj
              simp only [Option.some.injEq] at hb
              subst hb
              rw [addr_add,cell_of_row c.w g _ cells te (0,0) hg]
              rw [List.getElem?_take] at hj
              split at hj
              · simpa using hj
              · cases hj
          obtain ⟨olds,hor,hol,hbn,hoc⟩:=holds
          have hlt:cap<n+m:=by omega
          have hG:=grown r olds cs n cap true _ rfl hor hol hlt hbytes
          cases base with
          | none =>
            obtain ⟨rfl,rfl⟩:=hbn rfl
            have:olds=[]:=List.eq_nil_of_length_eq_zero (by omega)
            subst this
            have hr:=run_append_nil (P:=P) c.w t o.type e i z hu hi hz ad m capx news (by rw [hsz];exact hnm) hcellx (by omega) (by have:=hmem _ hbytes;simp only [maxLen] at this;omega) (by rw [hby];simp at hbytes;omega)
            simp only [Nat.zero_add,Array.empty_append] at hG
            refine ⟨_,_,.inl (run hv1 hvx hr),hG.1,hG.2,?_,?_,used_upd,rfl,rfl⟩
            · rw [hhp];rfl
            · rw [hout];simp only [Rep]
              exact ⟨.inr rfl,fun _=>by simp [Cz.upd]⟩
          | some b =>
            have hr:=run_append_grow (P:=P) c.w t o.type e i z hu hi hz b n cap olds (by rw [hsz];exact hol) (hoc b rfl) ad m capx news (by rw [hsz];exact hnm) hcellx hlt (by have:=hmem _ hbytes;simp only [maxLen] at this;omega)
              (by rw [hby];exact growslice_fits hlt hbytes)
            refine ⟨_,_,.inl (run hv1 hvx hr),hG.1,hG.2,?_,?_,used_upd,rfl,rfl⟩
            · rw [hhp];rfl
            · rw [hout];simp only [Rep]
              exact ⟨.inr rfl,fun _=>by simp [Cz.upd]⟩
    · exact hs.elim
  | val u =>
    simp only [hA] at hs
    rw [hA] at e1
    have e1':=rep_val e1
    split at hs
    · rename_i heq
      simp only [AVal.val.injEq] at heq
      subst heq
      obtain ⟨hd,hbytes⟩:=hs
      by_cases hm:m=0
      · subst hm
        have hx0:(σ.slc (σ.ev y2)).length=0:=by omega
        have hr:=run_app_zero (P:=P) (ty:=o.type) hu hi none bx 0 0 capx (Nat.le_refl _) c.w
        have:AI.hpw σ ver (o.dst.getD 0) (.app k by_ y1 y2)=σ.hp:=by simp only [AI.hpw,hA,hx0,if_true]
        rw [this]
        refine Ex1.still S (run e1' hvx hr) ?_
        simp only [AI.out,hA,hx0,if_true];exact yzy
      · have hx0:¬ (σ.slc (σ.ev y2)).length=0:=by rw [hm0];exact hm
        obtain ⟨ad,rfl,hcellx⟩:=hnews hx0
        rw [div_len hxl hk0] at hbytes
        have hr:=run_append_nil (P:=P) c.w t o.type e i z hu hi hz ad m capx news (by rw [hsz];exact hnm) hcellx (by omega) (by have:=hmem _ hbytes;simp only [maxLen] at this;omega) (by rw [hby];omega)
        have hG:=grown (o.dst.getD 0) [] [] 0 0 true _ rfl (by simp [RepL]) (by simp) (by omega) (by simpa using hbytes)
        simp only [Nat.zero_add,Array.empty_append,List.nil_append] at hG
        refine ⟨_,_,.inl (run e1' hvx hr),hG.1,hG.2,?_,?_,used_upd,rfl,rfl⟩
        · simp only [AI.hpw,hA,hx0,if_false,Cz.upd,S.hp]
        · simp only [AI.out,hA,hx0,if_false,Rep]
          exact ⟨.inr rfl,fun _=>by simp [Cz.upd]⟩
    · rename_i heq;simp at heq
    · exact hs.elim
  | _=>simp [hA] at hs
end
end Go.Ab
namespace Go.Ab
section
variable {P:Program} {w0:World} {outs:Nat→Prop} {N:Nat} {σ:St} {o:Oper} {a:Act} {c:Cz} {ver:Nat}
theorem ex_slc {t:TypeId} {k by_:Nat} {z:Value} {x1:Operand} {lo hi:Option Operand} {y1:AOpd} {l h:Option AOpd} (S:Sim w0 outs N σ a c) (hv:¬ c.used ver) (ho:o.op=.slice t x1 lo hi none) (ht:cElem P t=some (k,by_,z))
    (h1:cOpd x1=some y1) (h2:cBound lo=some l) (h3:cBound hi=some h)
    (hp:AI.pre σ (o.dst.getD 0) (.slc k y1 l h)):Ex1 P w0 outs o a c (AI.hpw σ ver (o.dst.getD 0) (.slc k y1 l h)) (AI.out σ ver (o.dst.getD 0) (.slc k y1 l h)) ver:=by
  obtain ⟨e,i,hu,hi',hz,hsz,hby,hk0,hzs,hb0⟩:=cElem_spec ht
  have e1:=S.ev h1
  simp only [AI.pre] at hp
  split at hp
  · rename_i k' cs hsl
    obtain ⟨rfl,hp⟩:=hp
    split at hp
    · rename_i l' h' hl hh
      obtain ⟨hlh,hhk⟩:=hp
      obtain ⟨base,n,cap,hv1,_,hcl,hnm,hcase⟩:=sl_cells S.good S.hp e1 hsl
      have hdiv:=div_len hcl hk0
      rw [hdiv] at hh
      have b1:=bound_spec S h2 hl
      have b2:=bound_spec S h3 hh
      have hhn:h'≤n:=by
        rw [hcl] at hhk;exact Nat.le_of_mul_le_mul_right hhk hk0
      have run:(execOp a.eval o).run P c.w=.ok (.value (.slice (if cap=l' then base else base.map (·.add (l' * k'))) (h' - l') (cap - l'))) c.w:=by
        have hr:=run_bounds (P:=P) (isSl:=true) (cap:=cap) b1 b2 hlh (by omega) c.w
        simp only [execOp,ho,Option.map_none]
        simp [Instr.sliceAt,underlying,hu,hv1,Instr.slice,hr,sizeOf,typeInfo,hi',hsz]
      have hbl:σ.bound (cs.length / k') h=some h':=by rw [hdiv];exact hh
      have hml:l' * k'≤h' * k':=Nat.mul_le_mul_right _ hlh
      have hlen2:((cs.take (h' * k')).drop (l' * k')).length=(h' - l') * k':=by
        rw [List.length_drop,List.length_take,Nat.sub_mul];omega
      cases hA:σ.ev y1 with
      | ro nm k2 cs2 =>
        have hhp:AI.hpw σ ver (o.dst.getD 0) (.slc k' y1 l h)=σ.hp:=by simp only [AI.hpw,hA]
        rw [hhp]
        rw [hA] at e1 hsl
        simp only [St.sl,Option.some.injEq,Prod.mk.injEq] at hsl
        obtain ⟨rfl,rfl⟩:=hsl
        have hout:AI.out σ ver (o.dst.getD 0) (.slc k2 y1 l h)=.ro nm k2 ((cs2.take (h' * k2)).drop (l' * k2)):=by simp only [AI.out,hA,hl,hbl]
        rw [hout]
        refine Ex1.still S run ?_
        simp only [Rep] at e1 ⊢
        obtain ⟨base',n',cap',hv2,_,hcl',hm',hnmc,hcase'⟩:=e1
        rw [hv1] at hv2
        simp only [Value.slice.injEq] at hv2
        obtain ⟨rfl,rfl,rfl⟩:=hv2
        refine ⟨_,_,_,rfl,hk0,hlen2,⟨by omega,by omega⟩,?_,?_⟩
        · intro nm' e'
          refine ⟨fun hnew=>?_,?_⟩
          · have:=(hnmc nm' e').1 hnew
            obtain ⟨b0,rfl⟩:=Option.ne_none_iff_exists'.1 this
            first | (simp;done) | (split <;> simp)
          rcases (hnmc nm' e').2 with h0 | ⟨b,off,rfl,hnam⟩
          · left
            have:n=0:=nil_of_mul hk0 hcl h0
            rw [hlen2]
            have:h' - l'=0:=by omega
            simp [this]
          · right
            have hfit:c.fit b (off+cap * k2)→c.fit b ((if cap=l' then off else off+l' * k2)+(cap - l') * k2):=by
              rintro ⟨t0,cells0,hf1,hf2⟩
              refine ⟨t0,cells0,hf1,?_⟩
              split
              · rename_i e0;rw [e0,Nat.sub_self];omega
              · have hcl2:l'≤cap:=by omega
                have:l' * k2≤cap * k2:=Nat.mul_le_mul_right _ hcl2
                rw [Nat.sub_mul];omega
            refine ⟨b,if cap=l' then off else off+l' * k2,?_,?_⟩
            · split
              · rfl
              · simp [addr_add]
            · match nm',hnam with
              | none,h=>exact ⟨h.1,hfit h.2⟩
              | some 0,h=>exact h
              | some (n0+1),h=>exact ⟨h.1,hfit h.2⟩
        · rcases hcase' with h0 | ⟨b,off,rfl,hi2,hr2⟩
          · left
            have:n=0:=nil_of_mul hk0 hcl h0
            rw [hlen2]
            have:h' - l'=0:=by omega
            simp [this]
          · by_cases hc0:cap=l'
            · left
              rw [hlen2]
              have:h' - l'=0:=by omega
              simp [this]
            · right
              refine ⟨b,off+l' * k2,by rw [if_neg hc0];simp [addr_add],hi2,?_⟩
              exact (hr2.take _).drop _
      | own r v0 =>
        rw [hA] at e1
        have hsl':=hsl
        rw [hA] at hsl
        simp only [St.sl] at hsl
        split at hsl
        · rename_i ver' k2 nn cs2 hrr
          split at hsl
          · rename_i ev
            simp only [Option.some.injEq,Prod.mk.injEq] at hsl
            obtain ⟨rfl,rfl⟩:=hsl
            subst ev
            have hrc:c.hp r=.row ver' k2 nn cs2:=by rw [S.hp];exact hrr
            have hg0:c.hp r≠.gone:=by rw [hrc];simp
            have hO:=S.good.obj r
            simp only [Rep] at e1
            rw [hrc] at hO e1
            have hv2:=e1.2 rfl
            obtain ⟨base',n',cap',hloc,_,hcl',hnc,hcm,hnn,hcase'⟩:=hO
            rw [hloc,hv1] at hv2
            simp only [Value.slice.injEq] at hv2
            obtain ⟨rfl,rfl,rfl⟩:=hv2
            have hhp:AI.hpw σ ver (o.dst.getD 0) (.slc k2 y1 l h)=fun q=>if q=r then AObj.row ver k2 nn ((cs2.take (h' * k2)).drop (l' * k2)) else c.hp q:=by
              simp only [AI.hpw,hA,hrr,hl,hbl,S.hp]
            have hout:AI.out σ ver (o.dst.getD 0) (.slc k2 y1 l h)=.own r ver:=by simp only [AI.out,hA]
            have hG:=S.good.upd c.w r (.row ver k2 nn ((cs2.take (h' * k2)).drop (l' * k2))) (.slice (if cap=l' then base else base.map (·.add (l' * k2))) (h' - l') (cap - l')) ver rfl rfl rfl (Nat.le_refl _) (fun _ _ _=>rfl)
              (fun b hb=>by
                have hb':blockOf (c.loc r)=some b:=by
                  rw [hloc]
                  cases base with
                  | none=>split at hb <;> simp [blockOf] at hb
                  | some ad =>
                    by_cases hc0:cap=l'
                    · simp [hc0,blockOf] at hb
                    · have:cap≠0:=by omega
                      have h9:¬ cap - l'=0:=by omega
                      simp only [if_neg hc0,Option.map_some,blockOf,if_neg h9,Option.some.injEq] at hb
                      simp only [blockOf,if_neg this,Option.some.injEq]
                      rw [← hb]
                      unfold Addr.add;split <;> rfl
                exact ⟨.inl ⟨hg0,hb'⟩,(S.good.obj r).lt hg0 hb'⟩)
              (.inr (.inl ⟨rfl,hv⟩))
              (fun K=>by
                refine ⟨_,_,_,rfl,hk0,hlen2,by omega,by omega,?_,?_⟩
                · intro hn1
                  have:=hnn hn1
                  split
                  · exact this
                  · cases base <;> simp_all
                · by_cases hc0:cap=l'
                  · left;omega
                  · rcases hcase' with h0 | ⟨g,off,te,cells,rfl,hg,hcf,hrep⟩
                    · omega
                    · right
                      refine ⟨g,off+l' * k2,te,cells,by rw [if_neg hc0];simp [addr_add],hg,?_,?_⟩
                      · have:l' * k2≤cap * k2:=Nat.mul_le_mul_right _ (by omega)
                        rw [Nat.sub_mul];omega
                      · have h5:=(hrep.take (h' * k2)).drop (l' * k2)
                        have h6:h' * k2≤n * k2:=Nat.mul_le_mul_right _ hhn
                        have h7:List.drop (l' * k2) (List.take (h' * k2) (List.take (n * k2) (List.drop off cells.toList)))=List.take ((h' - l') * k2) (List.drop (off+l' * k2) cells.toList):=by
                          rw [List.take_take,Nat.min_eq_left h6,List.drop_take,List.drop_drop,Nat.sub_mul]
                        rw [h7] at h5
                        exact RepL.keeps K _ _ h5)
            refine ⟨_,c.upd c.w r (.row ver k2 nn ((cs2.take (h' * k2)).drop (l' * k2))) (.slice (if cap=l' then base else base.map (·.add (l' * k2))) (h' - l') (cap - l')) ver,.inl run,hG.1,hG.2,?_,?_,used_upd,rfl,rfl⟩
            · rw [hhp];rfl
            · rw [hout];simp only [Rep]
              exact ⟨.inr rfl,fun _=>by simp [Cz.upd]⟩
          · cases hsl
        · cases hsl
      | _=>rw [hA] at hsl;simp [St.sl] at hsl
    · exact hp.elim
  · exact hp.elim
theorem zero_opd {x:Option Operand} (h:isZero x=true):∃ kk,x=some (.const (.int kk 0)):=by
  unfold isZero at h
  split at h
  · exact ⟨_,rfl⟩
  · cases h
theorem ex_slc0 {t:TypeId} {k by_:Nat} {z:Value} {x1:Operand} {lo hi mx:Option Operand} {y1:AOpd} (S:Sim w0 outs N σ a c) (hv:¬ c.used ver) (ho:o.op=.slice t x1 lo hi mx) (ht:cElem P t=some (k,by_,z))
    (h1:cOpd x1=some y1) (h2:lo.isNone∨isZero lo=true) (h3:isZero hi=true) (h4:isZero mx=true)
    (hp:AI.pre σ (o.dst.getD 0) (.slc0 k y1)):Ex1 P w0 outs o a c (AI.hpw σ ver (o.dst.getD 0) (.slc0 k y1)) (AI.out σ ver (o.dst.getD 0) (.slc0 k y1)) ver:=by
  obtain ⟨e,i,hu,hi',hz,hsz,hby,hk0,hzs,hb0⟩:=cElem_spec ht
  have e1:=S.ev h1
  obtain ⟨k3,rfl⟩:=zero_opd h3
  obtain ⟨k4,rfl⟩:=zero_opd h4
  simp only [AI.pre] at hp
  split at hp
  · rename_i k' cs hsl
    obtain ⟨rfl,hd⟩:=hp
    have hd':c.hp (o.dst.getD 0)=.gone:=by rw [S.hp];exact hd
    obtain ⟨base,n,cap,hv1,_,hcl,hnm,hcase⟩:=sl_cells S.good S.hp e1 hsl
    have run:(execOp a.eval o).run P c.w=.ok (.value (.slice base 0 0)) c.w:=by
      have hlo:lo=none∨∃ kk,lo=some (.const (.int kk 0)):=by
        rcases h2 with h | h
        · left;simpa using h
        · right;exact zero_opd h
      have hc0:∀ q:IntKind,a.eval (.const (.int q 0))=.int q 0:=fun _=>rfl
      rcases hlo with rfl | ⟨kk,rfl⟩ <;>
        simp [execOp,ho,Instr.sliceAt,underlying,hu,hv1,Instr.slice,Instr.sliceBounds,Instr.sliceBound,asIntOf,hc0,sizeOf,typeInfo,hi']
    have hnn:(σ.nn (σ.ev y1))=true→base≠none:=by
      intro hm
      cases hA:σ.ev y1 with
      | own r v =>
        rw [hA] at e1 hsl hm
        simp only [Rep] at e1
        simp only [St.sl] at hsl
        have hO:=S.good.obj r
        rw [S.hp] at hO e1
        split at hsl
        · rename_i ver' k2 nn2 cs2 hrr
          simp only [St.nn,hrr] at hm
          rw [hrr] at hO e1
          split at hsl
          · rename_i ev
            subst ev
            obtain ⟨base',n',cap',hloc,_,_,_,_,hnn,_⟩:=hO
            have hv2:=e1.2 rfl
            rw [hloc,hv1] at hv2
            simp only [Value.slice.injEq] at hv2
            obtain ⟨rfl,rfl,rfl⟩:=hv2
            exact hnn hm
          · cases hsl
        · cases hsl
      | _=>rw [hA] at hm;simp [St.nn] at hm
    have hG:=S.good.upd c.w (o.dst.getD 0) (.row ver k' (σ.nn (σ.ev y1)) []) (.slice base 0 0) ver rfl rfl rfl (Nat.le_refl _) (fun _ _ _=>rfl)
      (fun b hb=>by cases base <;> simp [blockOf] at hb) (.inr (.inl ⟨rfl,hv⟩))
      (fun K=>⟨base,0,0,rfl,hk0,by simp,Nat.le_refl _,by simp,hnn,.inl rfl⟩)
    refine ⟨.slice base 0 0,c.upd c.w (o.dst.getD 0) (.row ver k' (σ.nn (σ.ev y1)) []) (.slice base 0 0) ver,.inl run,hG.1,hG.2,?_,?_,used_upd,rfl,rfl⟩
    · simp only [Cz.upd,AI.hpw,S.hp]
    · simp only [AI.out,Rep]
      exact ⟨.inr rfl,fun _=>by simp [Cz.upd]⟩
  · exact hp.elim
theorem ex_cvbs {t1 t2 e:TypeId} {x1:Operand} {y1:AOpd} (S:Sim w0 outs N σ a c) (ho:o.op=.convert t1 t2 x1) (ht1:P.underlying t1=some (.slice e)) (ht2:P.underlying t2=some .string) (he:P.underlying e=some (.int .u8)) (h1:cOpd x1=some y1)
    (hp:AI.pre σ (o.dst.getD 0) (.cvbs y1)):Ex1 P w0 outs o a c σ.hp (AI.out σ ver (o.dst.getD 0) (.cvbs y1)) ver:=by
  have e1:=S.ev h1
  simp only [AI.pre] at hp
  split at hp
  · rename_i k cs hsl
    obtain ⟨rfl,hb⟩:=hp
    obtain ⟨base,n,cap,hv,_,hl,hm,hcase⟩:=sl_cells S.good S.hp e1 hsl
    have hout:AI.out σ ver (o.dst.getD 0) (.cvbs y1)=.val (.string ⟨(cs.filterMap byteOfCell).toArray⟩):=by simp only [AI.out,hsl]
    rw [hout]
    have conv:(execOp a.eval o).run P c.w=.ok (.value (.string ⟨(cs.filterMap byteOfCell).toArray⟩)) c.w:=by
      have hcv:(convert t1 t2 (.slice base n cap)).run P c.w=(Conv.bytesToString (.slice base n cap)).run P c.w:=by
        simp [convert,underlying,ht1,ht2,he]
      have:(Conv.bytesToString (.slice base n cap)).run P c.w=.ok (.string ⟨(cs.filterMap byteOfCell).toArray⟩) c.w:=by
        rcases hcase with h0 | ⟨b,off,rfl,hr,_⟩
        · have hcs:cs=[]:=List.eq_nil_of_length_eq_zero h0
          have hn:n=0:=by omega
          subst hcs hn
          cases base with
          | none=>simp [Conv.bytesToString];rfl
          | some ad=>simp [Conv.bytesToString,loadCells,loadCellsFrom];rfl
        · obtain ⟨vs,h5,h6,h7⟩:=hr.vals
          have hrun:=run_loadCells_list (P:=P) (w:=c.w) ⟨b,off,none⟩ vs (fun j v hj=>by rw [addr_add];exact h7 j v hj)
          have hn:vs.length=n:=by omega
          rw [hn] at hrun
          have hvals:∀ (cs:List AVal) (vs:List Value),RepL c cs vs→(∀ A∈cs,(byteOfCell A).isSome=true)→∃ ns:List Int,vs=ns.map (Value.int .u8)∧cs.filterMap byteOfCell=ns.map fun q=>UInt8.ofNat q.toNat:=by
            intro cs
            induction cs with
            | nil =>
              intro vs h _
              cases vs with
              | nil=>exact ⟨[],rfl,rfl⟩
              | cons v vs=>simp [RepL] at h
            | cons A cs ih =>
              intro vs h hA
              cases vs with
              | nil=>simp [RepL] at h
              | cons v vs =>
                simp only [RepL] at h
                obtain ⟨u,hu⟩:=Option.isSome_iff_exists.1 (hA A (by simp))
                unfold byteOfCell at hu
                split at hu
                · rename_i m
                  have hv:=rep_val h.1
                  subst hv
                  obtain ⟨ns,h8,h9⟩:=ih vs h.2 (fun B hB=>hA B (by simp [hB]))
                  exact ⟨m :: ns,by simp [h8],by simp [byteOfCell,h9]⟩
                · cases hu
          obtain ⟨ns,h8,h9⟩:=hvals cs vs h5 hb
          have hfin:=run_bytesToString (P:=P) c.w ⟨b,off,none⟩ n cap ns (by rw [hrun,h8])
          rw [hfin,h9]
          congr 2
          have hfold:∀ (ns:List Int) (s:ByteArray),ns.foldl (fun r q=>r.push (UInt8.ofNat q.toNat)) s=⟨(s.data.toList ++ ns.map fun q=>UInt8.ofNat q.toNat).toArray⟩:=by
            intro ns
            induction ns with
            | nil=>intro s;simp
            | cons q ns ih=>intro s;rw [List.foldl_cons,ih];simp [ByteArray.push]
          rw [hfold];rfl
      simp only [execOp,ho,hv,Sem.run_bind,hcv,this,Result.andThen_ok];rfl
    exact Ex1.still S conv yzy
  · exact hp.elim
theorem overlay (cells vs:Array Value) (off:Nat) (h:off+vs.size≤cells.size) :
    (vs.zipIdx.foldl (fun cs (x:Value×Nat)=>cs.setIfInBounds (off+x.2) x.1) cells).toList=cells.toList.take off ++ vs.toList ++ cells.toList.drop (off+vs.size):=by
  have h1:=Great.foldl_set off vs.toList 0 cells
  have h2:vs.zipIdx.foldl (fun cs (x:Value×Nat)=>cs.setIfInBounds (off+x.2) x.1) cells=(vs.toList.zipIdx 0).foldl (fun cs (x:Value×Nat)=>cs.setIfInBounds (off+x.2) x.1) cells:=by
    rw [← Array.foldl_toList]
    simp [Array.toList_zipIdx]
  rw [h2]
  apply List.ext_getElem?
  intro i
  rw [Array.getElem?_toList,h1.2 i]
  simp only [Nat.add_zero,Array.length_toList,List.getElem?_append,List.length_append,List.length_take,List.getElem?_take,List.getElem?_drop]
  have e1:min off cells.size=off:=by omega
  rw [e1]
  by_cases ha:i<off
  · rw [if_neg (by omega),if_pos (by omega),if_pos ha,if_pos ha];simp
  · by_cases hb:i<off+vs.size
    · rw [if_pos ⟨by omega,hb,by omega⟩,if_pos hb,if_neg ha]
    · rw [if_neg (by omega),if_neg hb]
      have:off+vs.size+(i - (off+vs.size))=i:=by omega
      rw [this];simp
theorem fill_spec (place:Nat→Option (Nat×Nat)):∀ (ps:List (Nat×Operand)) (as:List (Nat×Nat×AOpd)) (ins:List (Nat×Value)) (cells:Array Value) (cs:List AVal),
    (∀ p∈as,(σ.ev p.2.2).cells.length=p.2.1∧∀ A∈(σ.ev p.2.2).cells,One c.hp A)→Good w0 outs c→RepL c cs cells.toList →
    (∀ p∈as,p.1+p.2.1≤cells.size) →
    as.length=ins.length→(∀ (i:Nat) p q,as[i]?=some p→ins[i]?=some q→place q.1=some (p.1,p.2.1)∧Rep c (σ.ev p.2.2) q.2) →
    ∃ r,Instr.fill place cells ins=some r∧RepL c (as.foldl (fun cs p=>putAt cs p.1 (σ.ev p.2.2).cells) cs) r.toList
  | _,[],[],cells,cs,_,_,h,_,_,_=>⟨cells,rfl,h⟩
  | _,[],_ :: _,_,_,_,_,_,_,hl,_=>by simp at hl
  | _,_ :: _,[],_,_,_,_,_,_,hl,_=>by simp at hl
  | ps,p :: as,q :: ins,cells,cs,hone,G,h,hb,hl,hq=>by
    obtain ⟨h1,h2⟩:=hq 0 p q rfl rfl
    obtain ⟨h3,h4⟩:=hone p (by simp)
    obtain ⟨h5,_⟩:=cells_rep G h2 h4
    have hsz:q.2.cells.size=p.2.1:=by
      have:=h5.length;rw [h3] at this;simpa using this.symm
    have hfit:=hb p (by simp)
    obtain ⟨i,v⟩:=q
    simp only at h1 h2 hsz h5
    have hov:=overlay cells v.cells p.1 (by rw [hsz];exact hfit)
    have hlen:(v.cells.zipIdx.foldl (fun cs (x:Value×Nat)=>cs.setIfInBounds (p.1+x.2) x.1) cells).size=cells.size:=by
      have:=congrArg List.length hov
      simp only [Array.length_toList,List.length_append,List.length_take,List.length_drop] at this
      omega
    obtain ⟨r,hr,hrep⟩:=fill_spec place ps as ins (v.cells.zipIdx.foldl (fun cs (x:Value×Nat)=>cs.setIfInBounds (p.1+x.2) x.1) cells) (putAt cs p.1 (σ.ev p.2.2).cells)
      (fun p' hp'=>hone p' (by simp [hp'])) G
      (by rw [hov];have:=RepL.putAt h h5 p.1;simpa using this)
      (fun p' hp'=>by rw [hlen];exact hb p' (by simp [hp'])) (by simpa using hl)
      (fun j p' q' hp' hq'=>hq (j+1) p' q' (by simpa using hp') (by simpa using hq'))
    refine ⟨r,?_,by simpa using hrep⟩
    unfold Instr.fill
    rw [h1]
    simp only [hsz]
    rw [if_neg (by simp;omega)]
    exact hr
theorem cFields_spec {fs:Array Field}:∀ {ps:List (Nat×Operand)} {as:List (Nat×Nat×AOpd)},cFields P fs ps=some as →
    as.length=ps.length∧∀ (i:Nat) p q,as[i]?=some p→ps[i]?=some q→∃ f inf,fs[q.1]?=some f∧P.info? f.type=some inf∧p.1=f.offset∧p.2.1=inf.size∧cOpd q.2=some p.2.2
  | [],as,h=>by simp [cFields] at h;subst h;simp
  | (j,x) :: ps,as,h=>by
    simp only [cFields] at h
    split at h
    · rename_i f hf
      split at h
      · rename_i i a as' hi ha has
        simp only [Option.some.injEq] at h;subst h
        obtain ⟨h1,h2⟩:=cFields_spec has
        refine ⟨by simp [h1],?_⟩
        intro n p q hp hq
        cases n with
        | zero =>
          simp at hp hq;subst hp hq
          exact ⟨f,i,hf,hi,rfl,rfl,ha⟩
        | succ n=>exact h2 n p q (by simpa using hp) (by simpa using hq)
      · cases h
    · cases h
theorem ex_bst {t:TypeId} {i:TypeInfo} {z:Value} {fs:Array Field} {places:List (Nat×Nat)} {ps:Array (Nat×Operand)} {as:List (Nat×Nat×AOpd)} (S:Sim w0 outs N σ a c) (ho:o.op=.build t ps) (ht:P.underlying t=some (.struct fs))
    (hi:P.info? t=some i) (hz:i.zero=some z) (hf:cFields P fs ps.toList=some as) (hpl:fs.toList.mapM (fun f=>(P.info? f.type).map fun i=>(f.offset,i.size))=some places)
    (hb:as.all (fun p=>decide (p.1+p.2.1≤z.cells.size))=true)
    (hp:AI.pre σ (o.dst.getD 0) (.bst z.cells.toList as)):Ex1 P w0 outs o a c σ.hp (AI.out σ ver (o.dst.getD 0) (.bst z.cells.toList as)) ver:=by
  obtain ⟨hlen,hsp⟩:=cFields_spec hf
  have hplace:∀ (q:Nat) f inf,fs[q]?=some f→P.info? f.type=some inf→places.toArray[q]?=some (f.offset,inf.size):=by
    have gen:∀ (l:List Field) (pl:List (Nat×Nat)),l.mapM (fun f=>(P.info? f.type).map fun i=>(f.offset,i.size))=some pl→∀ (q:Nat) f inf,l[q]?=some f→P.info? f.type=some inf→pl[q]?=some (f.offset,inf.size):=by
      intro l
      induction l with
      | nil=>intro pl _ q f inf hq;simp at hq
      | cons x l ih =>
        intro pl h q f inf hq hinf
        simp only [List.mapM_cons,Option.bind_eq_bind,Option.bind_eq_some_iff,Option.pure_def,Option.some.injEq] at h
        obtain ⟨y,hy,pl',hpl',rfl⟩:=h
        cases q with
        | zero =>
          simp at hq;subst hq
          rw [hinf] at hy;simp at hy;subst hy;rfl
        | succ q=>simpa using ih pl' hpl' q f inf (by simpa using hq) hinf
    intro q f inf hq hinf
    have:=gen fs.toList places hpl q f inf (by simpa using hq) hinf
    simpa using this
  obtain ⟨r,hr,hrep⟩:=fill_spec (c:=c) (σ:=σ) (w0:=w0) (outs:=outs) (places.toArray[·]?) ps.toList as (ps.map fun (i,x)=>(i,a.eval x)).toList z.cells (z.cells.toList.map .val)
    (by rw [S.hp];exact hp) S.good (repL_vals _) (by intro p hp';have:=List.all_eq_true.1 hb p hp';simpa using this) (by simp [hlen])
    (by
      intro n p q hp' hq'
      simp only [Array.toList_map,List.getElem?_map,Option.map_eq_some_iff] at hq'
      obtain ⟨q0,hq0,rfl⟩:=hq'
      obtain ⟨f,inf,h1,h2,h3,h4,h5⟩:=hsp n p q0 hp' hq0
      refine ⟨?_,S.ev h5⟩
      simp only []
      rw [hplace _ f inf h1 h2,h3,h4])
  have hbuilt:P.built t (ps.map fun (i,x)=>(i,a.eval x)).toList=some r:=by
    simp only [Program.built,hi,ht,hz,hpl];exact hr
  refine Ex1.still S (v:=.agg r) ?_ ?_
  · have:=run_build (P:=P) c.w t (ps.map fun (i,x)=>(i,a.eval x)) r hbuilt
    simp only [execOp,ho,Sem.run_bind,this,Result.andThen_ok];rfl
  · simp only [AI.out,Rep]
    exact ⟨r,rfl,hrep⟩
end
end Go.Ab
namespace Go.Ab
section
variable {P:Program} {w0:World} {outs:Nat→Prop} {N:Nat} {σ:St} {o:Oper} {a:Act} {c:Cz} {ver:Nat}
def keyDesc (kd:Nat) (d:TypeDesc):Prop:=(kd=0∧∃ q,d=.int q)∨(kd=1∧d=.string)∨(kd=2∧d=.bool)
theorem isPairKey_spec {t : TypeId} (h : isPairKey P t = true) : ∃ f g, P.underlying t = some (.struct #[f, g]) ∧ P.stoodInHeld t = false ∧ f.name ≠ "_" ∧ g.name ≠ "_" ∧ f.offset = 0 ∧ g.offset = 1 ∧ (∃ q, P.underlying f.type = some (.int q)) ∧ ∃ q, P.underlying g.type = some (.int q) := by
  unfold isPairKey at h
  split at h
  · rename_i fs hfs
    rw [Bool.and_eq_true] at h
    obtain ⟨h1,h2⟩:=h
    split at h2
    · rename_i f g hl
      simp only [Bool.and_eq_true,decide_eq_true_eq,Bool.not_eq_true'] at h1 h2
      obtain ⟨⟨⟨⟨⟨a,b⟩,c⟩,d⟩,e⟩,k⟩:=h2
      have hf:fs=#[f,g]:=by cases fs;simp at hl;simp [hl]
      subst hf
      have ii:∀ t,isInt P t=true→∃ q,P.underlying t=some (.int q):=by
        intro t ht;unfold isInt at ht;split at ht
        · rename_i q hq;exact ⟨q,hq⟩
        · cases ht
      exact ⟨f,g,hfs,h1,a,b,c,d,ii _ e,ii _ k⟩
    · cases h2
  · cases h
theorem run_part {t:TypeId} {q:IntKind} (h:P.underlying t=some (.int q)) {cs:Array Value} {i:Nat} {v:Value} (hv:cs[i]?=some v) (w:World):(part t cs i).run P w=.ok v w:=by
  simp [part,isAgg,underlying,h,hv]
theorem run_eqInt {t:TypeId} {q k:IntKind} (h:P.underlying t=some (.int q)) (a b:Int) (n:Nat) (w:World):(Op.equalIn (n+1) t (.int k a) (.int k b)).run P w=.ok (a == b) w:=by
  simp [Op.equalIn,underlying,h]
theorem run_eqPair {t:TypeId} (h:isPairKey P t=true) (k1 k2:IntKind) (a b c d:Int) (w:World) :
    (Op.equal t (.agg #[.int k1 a,.int k2 b]) (.agg #[.int k1 c,.int k2 d])).run P w=.ok (a == c && b == d) w:=by
  obtain ⟨f,g,hu,hs,hf,hg,ho,ho2,⟨q,hq⟩,q2,hq2⟩:=isPairKey_spec h
  have p1:∀ x y:Value,(part f.type #[x,y] 0).run P w=.ok x w:=fun x y=>run_part hq rfl w
  have p2:∀ x y:Value,(part g.type #[x,y] 1).run P w=.ok y w:=fun x y=>run_part hq2 rfl w
  have e1:(Op.equalIn 9999 f.type (.int k1 a) (.int k1 c)).run P w=.ok (a == c) w:=run_eqInt hq a c 9998 w
  have e2:(Op.equalIn 9999 g.type (.int k2 b) (.int k2 d)).run P w=.ok (b == d) w:=run_eqInt hq2 b d 9998 w
  unfold Op.equal Op.maxDepth
  unfold Op.equalIn
  by_cases h1:a=c
  · by_cases h2:b=d
    · subst h1 h2
      simp only [beq_self_eq_true] at e1 e2
      simp [underlying,hu,hs,hf,hg,ho,ho2,p1,p2,e1,e2]
    · subst h1
      rw [show (b == d)=false by simpa using h2] at e2 ⊢
      simp only [beq_self_eq_true] at e1
      simp [underlying,hu,hs,hf,hg,ho,ho2,p1,p2,e1,e2]
  · rw [show (a == c)=false by simpa using h1] at e1 ⊢
    simp [underlying,hu,hs,hf,hg,ho,ho2,p1,p2,e1]
theorem run_checkPair {t:TypeId} (h:isPairKey P t=true) (x y:Value) (b:Bool) (n:Nat) (w:World):(Instr.checkKey b (n+2) t (.agg #[x,y])).run P w=.ok () w:=by
  obtain ⟨f,g,hu,hs,hf,hg,ho,ho2,⟨q,hq⟩,q2,hq2⟩:=isPairKey_spec h
  have p1:(part f.type #[x,y] 0).run P w=.ok x w:=run_part hq rfl w
  have p2:(part g.type #[x,y] 1).run P w=.ok y w:=run_part hq2 rfl w
  have c1:(Instr.checkKey b (n+1) f.type x).run P w=.ok () w:=by simp [Instr.checkKey,underlying,hq]
  have c2:(Instr.checkKey b (n+1) g.type y).run P w=.ok () w:=by simp [Instr.checkKey,underlying,hq2]
  unfold Instr.checkKey
  simp [underlying,hu,hf,hg,ho,ho2,p1,p2,c1,c2]
theorem sameNow_eq {kd:Nat} {d:TypeDesc} (h:keyDesc kd d) {k x:Value} (hk:keyIs kd k=true) {r:Bool} (hs:sameKey k x=some r):Instr.sameNow d k x=some r:=by
  rcases h with ⟨rfl,q,rfl⟩ | ⟨rfl,rfl⟩ | ⟨rfl,rfl⟩
  · cases k <;> simp [keyIs] at hk
    cases x <;> simp [sameKey] at hs
    simp [Instr.sameNow,hs]
  · cases k <;> simp [keyIs] at hk
    cases x <;> simp [sameKey] at hs
    simp [Instr.sameNow,hs]
  · cases k <;> simp [keyIs] at hk
    cases x <;> simp [sameKey] at hs
    simp [Instr.sameNow,hs]
theorem findNow_eq {kd:Nat} {d:TypeDesc} (h:keyDesc kd d) {k:Value} (hk:keyIs kd k=true):∀ (es:List MapEntry) (i:Nat) (r:Option Nat),findKeyAt k (es.map (·.key)) i=some r →
    (r=none∧Instr.findNow d k es i=some none)∨∃ j e,r=some j∧i≤j∧es[j - i]?=some e∧sameKey k e.key=some true∧Instr.findNow d k es i=some (some (j,e.val))
  | [],i,r,hr=>by simp [findKeyAt] at hr;subst hr;exact .inl ⟨rfl,rfl⟩
  | e :: es,i,r,hr=>by
    simp only [List.map_cons,findKeyAt] at hr
    split at hr
    · rename_i hs
      simp only [Option.some.injEq] at hr;subst hr
      exact .inr ⟨i,e,rfl,Nat.le_refl _,by simp,hs,by simp [Instr.findNow,sameNow_eq h hk hs]⟩
    · rename_i hs
      rcases findNow_eq h hk es (i+1) r hr with ⟨h1,h2⟩ | ⟨j,e',h1,h2,h3,h4,h5⟩
      · exact .inl ⟨h1,by simp [Instr.findNow,sameNow_eq h hk hs,h2]⟩
      · refine .inr ⟨j,e',h1,by omega,?_,h4,by simp [Instr.findNow,sameNow_eq h hk hs,h5]⟩
        have:j - i=(j - (i+1))+1:=by omega
        rw [this];simpa using h3
    · cases hr
theorem run_checkKey {kd:Nat} {kt:TypeId} {d:TypeDesc} (hd:P.underlying kt=some d) (h:keyDesc kd d) {k:Value} (hk:keyIs kd k=true) (b:Bool) (n:Nat) (w:World):(Instr.checkKey b (n+1) kt k).run P w=.ok () w:=by
  rcases h with ⟨rfl,q,rfl⟩ | ⟨rfl,rfl⟩ | ⟨rfl,rfl⟩ <;> cases k <;> simp [keyIs] at hk <;> simp [Instr.checkKey,underlying,hd]
theorem run_getObj_map {w:World} {b clock:Nat} {ents:Array MapEntry} (hb:w.heap[b]?=some (.map ents clock)):(getObj b).run P w=.ok (.map ents clock) w:=by
  simp [getObj,Sem.run,hb]
theorem ba_eq {a b:ByteArray} (h:(a == b)=true):a=b:=by
  cases a with | mk x=>cases b with | mk y =>
    have:(x == y)=true:=h
    rw [eq_of_beq this]
theorem ba_self (a:ByteArray):(a == a)=true:=by
  cases a with | mk x =>
    show (x == x)=true
    exact beq_self_eq_true x
theorem pairOf_eq {v:Value} {k1 k2:IntKind} {a b:Int} (h:pairOf v=some (k1,a,k2,b)):v=.agg #[.int k1 a,.int k2 b]:=by
  unfold pairOf at h
  split at h
  · rename_i xs
    split at h
    · rename_i e
      simp only [Option.some.injEq,Prod.mk.injEq] at h
      obtain ⟨rfl,rfl,rfl,rfl⟩:=h
      cases xs;simp at e;rw [e]
    · cases h
  · cases h
theorem keyIs_agg {kd:Nat} {xs:Array Value} (h:keyIs kd (.agg xs)=true):∃ k1 a k2 b,xs=#[.int k1 a,.int k2 b]:=by
  unfold keyIs at h
  split at h
  · rename_i e;cases e
  · rename_i e;cases e
  · rename_i e;cases e
  · rename_i e;cases e
    obtain ⟨⟨k1,a,k2,b⟩,e⟩:=Option.isSome_iff_exists.1 h
    have:=pairOf_eq e
    cases this
    exact ⟨k1,a,k2,b,rfl⟩
  · cases h
theorem samePair_spec {x y:Value} {r:Bool} (h:samePair (pairOf x) (pairOf y)=some r):∃ k1 a k2 b c d,x=.agg #[.int k1 a,.int k2 b]∧y=.agg #[.int k1 c,.int k2 d]∧r=(a == c && b == d):=by
  unfold samePair at h
  split at h
  · rename_i hx hy
    split at h
    · rename_i hk
      obtain ⟨rfl,rfl⟩:=hk
      cases h
      exact ⟨_,_,_,_,_,_,pairOf_eq hx,pairOf_eq hy,rfl⟩
    · cases h
  · cases h
theorem sameKey_eq {k x:Value} (h:sameKey k x=some true):k=x:=by
  unfold sameKey at h
  split at h
  · split at h
    · simp at h;simp [*]
    · cases h
  · simp only [Option.some.injEq] at h;rw [ba_eq h]
  · simp at h;simp [h]
  · obtain ⟨k1,a,k2,b,c,d,e1,e2,e3⟩:=samePair_spec h
    have e3:=e3.symm
    rw [Bool.and_eq_true,beq_iff_eq,beq_iff_eq] at e3
    rw [e1,e2,e3.1,e3.2]
  · cases h
theorem run_keyStays {kd:Nat} {k:Value} (hk:keyIs kd k=true) (w:World):(Instr.keyThatStays k k).run P w=.ok k w:=by
  have:Instr.sameBits 10000 k k=true:=by
    cases k with
    | int q n=>unfold Instr.sameBits;simp
    | string s=>unfold Instr.sameBits;exact ba_self s
    | bool b=>unfold Instr.sameBits;simp
    | agg xs =>
      obtain ⟨k1,a,k2,b,rfl⟩:=keyIs_agg hk
      unfold Instr.sameBits;simp [Instr.sameBits]
    | _=>exfalso;unfold keyIs at hk;split at hk <;> simp_all
  simp [Instr.keyThatStays,this]
theorem kindOf_spec {kt:TypeId} (h:isInt P kt=true∨isStr P kt=true∨isBool P kt=true∨isPairKey P kt=true):(∃ d,P.underlying kt=some d∧keyDesc (kindOf P kt) d)∨(isPairKey P kt=true∧kindOf P kt=3):=by
  unfold kindOf
  by_cases h1:isInt P kt=true
  · rw [if_pos h1]
    unfold isInt at h1
    split at h1
    · rename_i q hq;exact .inl ⟨_,hq,.inl ⟨rfl,q,rfl⟩⟩
    · cases h1
  · rw [if_neg h1]
    by_cases h2:isStr P kt=true
    · rw [if_pos h2]
      unfold isStr at h2
      split at h2
      · rename_i hq;exact .inl ⟨_,hq,.inr (.inl ⟨rfl,rfl⟩)⟩
      · cases h2
    · rw [if_neg h2]
      by_cases h3:isBool P kt=true
      · rw [if_pos h3]
        unfold isBool at h3
        split at h3
        · rename_i hq;exact .inl ⟨_,hq,.inr (.inr ⟨rfl,rfl⟩)⟩
        · cases h3
      · rw [if_neg h3]
        rcases h with h | h | h | h
        · exact absurd h h1
        · exact absurd h h2
        · exact absurd h h3
        · exact .inr ⟨h,rfl⟩
theorem keyIs_pair {k:Value} (h:keyIs 3 k=true):∃ k1 a k2 b,k=.agg #[.int k1 a,.int k2 b]:=by
  cases k with
  | agg xs=>obtain ⟨k1,a,k2,b,rfl⟩:=keyIs_agg h;exact ⟨k1,a,k2,b,rfl⟩
  | _=>simp [keyIs] at h
theorem checkKey_eq {kt:TypeId} (h:isInt P kt=true∨isStr P kt=true∨isBool P kt=true∨isPairKey P kt=true) {k:Value} (hk:keyIs (kindOf P kt) k=true) (b:Bool) (w:World):(Instr.checkKey b 10000 kt k).run P w=.ok () w:=by
  rcases kindOf_spec h with ⟨d,hd,hkd⟩ | ⟨hp,e⟩
  · exact run_checkKey hd hkd hk b 9999 w
  · rw [e] at hk
    obtain ⟨k1,a,k2,b',rfl⟩:=keyIs_pair hk
    exact run_checkPair hp _ _ b 9998 w
theorem findAsk_eq {kt:TypeId} (h:isPairKey P kt=true) {k:Value} (w:World):∀ (es:List MapEntry) (i:Nat) (r:Option Nat),findKeyAt k (es.map (·.key)) i=some r→keyIs 3 k=true →
    (r=none∧(Instr.findAsking kt k es i).run P w=.ok none w)∨∃ j e,r=some j∧i≤j∧es[j - i]?=some e∧sameKey k e.key=some true∧(Instr.findAsking kt k es i).run P w=.ok (some (j,e.val)) w
  | [],i,r,hr,_=>by simp [findKeyAt] at hr;subst hr;exact .inl ⟨rfl,by simp [Instr.findAsking]⟩
  | e :: es,i,r,hr,hk=>by
    obtain ⟨k1,a,k2,b,rfl⟩:=keyIs_pair hk
    have step:∀ x:Bool,sameKey (.agg #[.int k1 a,.int k2 b]) e.key=some x→(Op.equal kt (.agg #[.int k1 a,.int k2 b]) e.key).run P w=.ok x w:=by
      intro x hx
      have hx2:samePair (pairOf (.agg #[.int k1 a,.int k2 b])) (pairOf e.key)=some x:=by
        revert hx
        cases e.key <;> simp [sameKey]
      obtain ⟨l1,a',l2,b',c,d,e1,e2,e3⟩:=samePair_spec hx2
      simp at e1
      obtain ⟨⟨rfl,rfl⟩,rfl,rfl⟩:=e1
      rw [e2,e3]
      exact run_eqPair h _ _ _ _ _ _ w
    simp only [List.map_cons,findKeyAt] at hr
    split at hr
    · rename_i hs
      simp only [Option.some.injEq] at hr;subst hr
      exact .inr ⟨i,e,rfl,Nat.le_refl _,by simp,hs,by simp [Instr.findAsking,step _ hs]⟩
    · rename_i hs
      rcases findAsk_eq h w es (i+1) r hr hk with ⟨h1,h2⟩ | ⟨j,e',h1,h2,h3,h4,h5⟩
      · exact .inl ⟨h1,by simp [Instr.findAsking,step _ hs,h2]⟩
      · refine .inr ⟨j,e',h1,by omega,?_,h4,by simp [Instr.findAsking,step _ hs,h5]⟩
        have:j - i=(j - (i+1))+1:=by omega
        rw [this];simpa using h3
    · cases hr
theorem findKey_eq {kt:TypeId} (h:isInt P kt=true∨isStr P kt=true∨isBool P kt=true∨isPairKey P kt=true) {k:Value} (hk:keyIs (kindOf P kt) k=true) (w:World) (es:List MapEntry) (r:Option Nat) (hr:findKeyAt k (es.map (·.key)) 0=some r) :
    (r=none∧(Instr.findKey kt k es).run P w=.ok none w)∨∃ j e,r=some j∧es[j]?=some e∧sameKey k e.key=some true∧(Instr.findKey kt k es).run P w=.ok (some (j,e.val)) w:=by
  rcases kindOf_spec h with ⟨d,hd,hkd⟩ | ⟨hp,e⟩
  · rcases findNow_eq hkd hk es 0 r hr with ⟨rfl,hf⟩ | ⟨j,en,rfl,_,hj,hsk,hf⟩
    · exact .inl ⟨rfl,by simp [Instr.findKey,underlying,hd,hf]⟩
    · exact .inr ⟨j,en,rfl,by simpa using hj,hsk,by simp [Instr.findKey,underlying,hd,hf]⟩
  · rw [e] at hk
    obtain ⟨f,g,hu,_⟩:=isPairKey_spec hp
    have hnow:∀ fs,Instr.sameNow (.struct fs) k=fun _=>none:=by intro fs;funext x;cases k <;> rfl
    have hfind:(Instr.findKey kt k es).run P w=(Instr.findAsking kt k es).run P w:=by
      cases es with
      | nil=>simp [Instr.findKey,underlying,hu,Instr.findNow,Instr.findAsking]
      | cons x xs=>simp [Instr.findKey,underlying,hu,Instr.findNow,hnow]
    rw [hfind]
    rcases findAsk_eq hp w es 0 r hr hk with ⟨rfl,hf⟩ | ⟨j,en,rfl,_,hj,hsk,hf⟩
    · exact .inl ⟨rfl,hf⟩
    · exact .inr ⟨j,en,rfl,by simpa using hj,hsk,hf⟩
theorem ex_lkp {t kt e:TypeId} {i:TypeInfo} {z:Value} {Z:AVal} {x1 x2:Operand} {y1 y2:AOpd} {ok:Bool} (S:Sim w0 outs N σ a c) (ho:o.op=.lookup t x1 x2 ok) (ht:P.underlying t=some (.map kt e)) (hkt:isInt P kt=true∨isStr P kt=true∨isBool P kt=true∨isPairKey P kt=true)
    (hi:P.info? e=some i) (hz:i.zero=some z) (hZ:Rep c Z z) (h1:cOpd x1=some y1) (h2:cOpd x2=some y2)
    (hp:AI.pre σ (o.dst.getD 0) (.lkp (kindOf P kt) ok Z y1 y2)):Ex1 P w0 outs o a c σ.hp (AI.out σ ver (o.dst.getD 0) (.lkp (kindOf P kt) ok Z y1 y2)) ver:=by
  have e1:=S.ev h1;have e2:=S.ev h2
  simp only [AI.pre] at hp
  split at hp
  · rename_i k ks vs hk hat
    obtain ⟨hki,hfs⟩:=hp
    have e2:=rep_keyV e2
    rw [hk] at e2
    have e2':=rep_val e2
    obtain ⟨b,clock,ents,hv,hb,hks,hvs⟩:=map_cells S.good S.hp e1 hat
    obtain ⟨r,hr⟩:=Option.isSome_iff_exists.1 hfs
    have hck:=checkKey_eq hkt hki ents.isEmpty c.w
    have hzr:(zeroValue e).run P c.w=.ok z c.w:=by simp [zeroValue,typeInfo,hi,hz]
    subst hks
    rcases findKey_eq hkt hki c.w ents.toList r hr with ⟨rfl,hfk⟩ | ⟨j,en,rfl,hj,hsk,hfk⟩
    · have run:(execOp a.eval o).run P c.w=.ok (.value (if ok then .tuple #[z,.bool false] else z)) c.w:=by
        simp only [execOp,ho,hv,e2']
        cases ok <;> simp [Instr.lookup,underlying,ht,run_getObj_map hb,hck,hfk,hzr]
      refine Ex1.still S run ?_
      simp only [AI.out,hk,hat,hr]
      cases ok
      · simpa using hZ
      · simp only [if_true,Rep]
        exact ⟨#[z,.bool false],rfl,by simp only [RepL];exact ⟨hZ,yzy,trivial⟩⟩
    · have run:(execOp a.eval o).run P c.w=.ok (.value (if ok then .tuple #[en.val,.bool true] else en.val)) c.w:=by
        simp only [execOp,ho,hv,e2']
        cases ok <;> simp [Instr.lookup,underlying,ht,run_getObj_map hb,hck,hfk]
      refine Ex1.still S run ?_
      simp only [AI.out,hk,hat,hr]
      have hlen:=hvs.length
      have hjl:j<vs.length:=by
        have:=(List.getElem?_eq_some_iff.1 hj).1
        simp at hlen this;omega
      obtain ⟨u,hu,hrep⟩:=hvs.get (List.getElem?_eq_getElem hjl)
      have hu':u=en.val:=by
        rw [List.getElem?_map,hj] at hu
        simpa using hu.symm
      have hrep':Rep c (vs.getD j .any) en.val:=by
        rw [← hu']
        simp only [List.getD_eq_getElem?_getD,List.getElem?_eq_getElem hjl,Option.getD_some]
        exact hrep
      cases ok
      · simpa using hrep'
      · simp only [if_true,Rep]
        exact ⟨#[en.val,.bool true],rfl,by simp only [RepL];exact ⟨hrep',yzy,trivial⟩⟩
  · exact hp.elim
theorem heap_setObj (w:World) (b k:Nat) (o:Obj) (h:k≠b):({ w with heap:=w.heap.setIfInBounds b o }:World).heap[k]?=w.heap[k]?:=by
  simp only [Array.getElem?_setIfInBounds]
  rw [if_neg (fun e=>h e.symm)]
theorem RepL.set {c:Cz} {cs:List AVal} {vs:List Value} (h:RepL c cs vs) {A:AVal} {v:Value} (hA:Rep c A v) (j:Nat):RepL c (cs.set j A) (vs.set j v):=by
  induction j generalizing cs vs with
  | zero=>cases cs <;> cases vs <;> simp_all [RepL]
  | succ j ih=>cases cs <;> cases vs <;> simp_all [RepL]
theorem ex_mup {t kt e:TypeId} {x1 x2 x3:Operand} {y1 y2 y3:AOpd} (S:Sim w0 outs N σ a c) (ho:o.op=.mapUpdate t x1 x2 x3∨o.op=.insert t x1 x2 x3) (ht:P.underlying t=some (.map kt e)) (hkt:isInt P kt=true∨isStr P kt=true∨isBool P kt=true∨isPairKey P kt=true)
    (h1:cOpd x1=some y1) (h2:cOpd x2=some y2) (h3:cOpd x3=some y3)
    (hp:AI.pre σ (o.dst.getD 0) (.mup (kindOf P kt) y1 y2 y3)):Ex1 P w0 outs o a c (AI.hpw σ ver (o.dst.getD 0) (.mup (kindOf P kt) y1 y2 y3)) (AI.out σ ver (o.dst.getD 0) (.mup (kindOf P kt) y1 y2 y3)) ver:=by
  have e1:=S.ev h1;have e2:=S.ev h2;have e3:=S.ev h3
  simp only [AI.pre] at hp
  split at hp
  · rename_i r v0 k hA hk
    obtain ⟨hm,hown⟩:=hp
    split at hm
    · rename_i ver' ks vs hrr
      obtain ⟨rfl,hfs,hki⟩:=hm
      have e2:=rep_keyV e2
      rw [hk] at e2
      have e2':=rep_val e2
      rw [hA] at e1
      simp only [Rep] at e1
      have hrc:c.hp r=.map ver' ks vs:=by rw [S.hp];exact hrr
      have hown':∀ q v,AVal.own q v∈[σ.ev y3]→∃ k nn l,c.hp q=.row v k nn l:=by
        intro q v hq
        simp only [List.mem_singleton] at hq
        rw [S.hp]
        exact hown q v hq.symm
      have hnd:(owned [σ.ev y3]).Nodup:=by cases σ.ev y3 <;> simp [owned]
      obtain ⟨c1,G1,K1,hw1,hu1,hx1,hb1,hloc1,hh1,hl1⟩:=frzL [σ.ev y3] [a.eval x3] c S.good (by simp only [RepL];exact ⟨e3,trivial⟩) hown' hnd
      have hrn:r ∉ owned [σ.ev y3]:=by
        intro h
        obtain ⟨v,hv⟩:=owned_mem.1 h
        obtain ⟨k',nn,l,h5⟩:=hown' r v hv
        rw [hrc] at h5;cases h5
      have hr1:c1.hp r=.map ver' ks vs:=by rw [hh1];simp only [if_neg hrn];exact hrc
      have hO:=G1.obj r
      rw [hr1] at hO
      obtain ⟨b,clock,ents,hloc,hb,⟨hks,hnb,hlb⟩,hvs⟩:=hO
      rw [hloc1] at hloc
      rw [hw1] at hb
      have hv1:a.eval x1=.map (some b):=by rw [← hloc];exact e1.2 (by rw [hrc];rfl)
      have hval:Rep c1 (frz c.hp (σ.ev y3)) (a.eval x3):=by
        simp only [List.map_cons,List.map_nil,RepL] at hl1;exact hl1.1
      obtain ⟨res,hres⟩:=Option.isSome_iff_exists.1 hfs
      have hck:=checkKey_eq hkt hki false c.w
      have hgone:c1.hp r≠.gone:=by rw [hr1];simp
      have hblk:blockOf (c1.loc r)=some b:=by rw [hloc1,hloc];rfl
      have hset:∀ o:Obj,(setObj b o).run P c.w=.ok () { c.w with heap:=c.w.heap.setIfInBounds b o }:=by
        intro o;simp [setObj,Sem.run,hb]
      have fin:∀ (o':Obj) (ks':List Value) (vs':List AVal),(execOp a.eval o).run P c.w=.ok .skip { c.w with heap:=c.w.heap.setIfInBounds b o' } →
          (∀ c2:Cz,Keeps c1 c2→∃ clock' ents',o'=.map ents' clock'∧EntsOk ents' clock' ks'∧RepL c2 vs' (ents'.toList.map (·.val))) →
          AI.hpw σ ver (o.dst.getD 0) (.mup (kindOf P kt) y1 y2 y3)=(fun n=>if n=r then AObj.map ver' ks' vs' else if n∈owned [σ.ev y3] then AObj.gone else σ.hp n) →
          Ex1 P w0 outs o a c (AI.hpw σ ver (o.dst.getD 0) (.mup (kindOf P kt) y1 y2 y3)) (AI.out σ ver (o.dst.getD 0) (.mup (kindOf P kt) y1 y2 y3)) ver:=by
        intro o' ks' vs' hrun hobj hhp
        have hbl:b<c.w.heap.size:=block_lt_of_some hb
        have hG:=G1.upd (hdr:=by rw [hw1];exact Nat.le_refl _) { c.w with heap:=c.w.heap.setIfInBounds b o' } r (.map ver' ks' vs') (c1.loc r) ver' (by rw [hw1]) (by rw [hw1]) (by rw [hw1]) (by rw [hw1];simp)
          (fun q _ hq=>by rw [hw1];exact heap_setObj c.w b q o' fun e=>hq ⟨hgone,by rw [e];exact hblk⟩)
          (fun q hq=>⟨.inl ⟨hgone,hq⟩,by rw [hblk] at hq;simp at hq;subst hq;simpa using hbl⟩)
          (.inr (.inr ⟨by rw [hr1];rfl,rfl,(G1.verU r ver' (by rw [hr1];rfl)).1⟩))
          (fun K=>by
            obtain ⟨clock',ents',h5,h6,h7⟩:=hobj _ K
            refine ⟨b,clock',ents',by rw [hloc1];exact hloc,?_,h6,h7⟩
            show (c.w.heap.setIfInBounds b o')[b]?=_
            rw [Array.getElem?_setIfInBounds_self_of_lt hbl,h5])
        refine ⟨undef,_,.inr ⟨rfl,hrun⟩,hG.1,K1.trans hG.2,?_,by simp [AI.out,Rep],?_,hx1,hb1⟩
        · rw [hhp];simp only [Cz.upd,hh1,S.hp]
        · rintro u (h | rfl)
          · rw [hu1] at h;exact .inl h
          · exact .inl e1.1
      rw [← hks] at hres
      rcases findKey_eq hkt hki c.w ents.toList res hres with ⟨rfl,hfk⟩ | ⟨j,en,rfl,hj,hsk,hfk⟩
      · refine fin (.map (ents.push { key:=k,val:=a.eval x3,born:=clock }) (clock+1)) (ks ++ [k]) (vs ++ [frz c.hp (σ.ev y3)]) ?_ ?_ ?_
        · rcases ho with ho | ho <;> simp [execOp,ho,hv1,e2',Instr.mapUpdate,underlying,ht,run_getObj_map hb,hck,hfk,hset]
        · intro c2 K
          refine ⟨_,_,rfl,⟨by simp [hks],?_,?_⟩,?_⟩
          · rw [Array.toList_push,List.map_append,List.nodup_append]
            refine ⟨hnb,by simp,?_⟩
            intro x hx y hy
            simp only [List.map_cons,List.map_nil,List.mem_singleton] at hy
            obtain ⟨e,he,rfl⟩:=List.mem_map.1 hx
            have:=hlb e he
            omega
          · intro e he
            rw [Array.toList_push,List.mem_append] at he
            rcases he with he | he
            · have:=hlb e he;omega
            · rw [List.mem_singleton.1 he];exact Nat.lt_succ_self _
          have h6:=(RepL.keeps K _ _ hvs).append (ds:=[frz c.hp (σ.ev y3)]) (us:=[a.eval x3]) (by simp only [RepL];exact ⟨Rep.keeps K _ _ hval,trivial⟩)
          simpa using h6
        · rw [hks] at hres
          simp only [AI.hpw,hA,hk,hrr,hres,S.hp]
      · have hkey:=sameKey_eq hsk
        have hst:=run_keyStays (P:=P) hki c.w
        have hej:ents[j]?=some en:=by simpa using hj
        refine fin (.map (ents.modify j fun e=>{ e with key:=k,val:=a.eval x3 }) clock) ks (vs.set j (frz c.hp (σ.ev y3))) ?_ ?_ ?_
        · rcases ho with ho | ho <;> simp [execOp,ho,hv1,e2',Instr.mapUpdate,underlying,ht,run_getObj_map hb,hck,hfk,hset,hej,← hkey,hst]
        · intro c2 K
          have hml:(ents.modify j fun e=>{ e with key:=k,val:=a.eval x3 }).toList=ents.toList.set j { en with key:=k,val:=a.eval x3 }:=by
            apply List.ext_getElem?
            intro n
            rw [Array.getElem?_toList,Array.getElem?_modify,List.getElem?_set]
            by_cases hn:j=n
            · subst hn
              have:=(List.getElem?_eq_some_iff.1 hj).1
              rw [if_pos rfl,if_pos rfl,if_pos this,hej];rfl
            · rw [if_neg hn,if_neg hn];simp
          refine ⟨_,_,rfl,⟨?_,?_,?_⟩,?_⟩
          rotate_left
          · have hbn:(ents.toList.set j { en with key:=k,val:=a.eval x3 }).map (·.born)=ents.toList.map (·.born):=by
              apply List.ext_getElem?
              intro n
              simp only [List.getElem?_map,List.getElem?_set]
              by_cases hn:j=n
              · subst hn
                have:=(List.getElem?_eq_some_iff.1 hj).1
                rw [if_pos rfl,if_pos this,hj];rfl
              · rw [if_neg hn]
            rw [hml,hbn];exact hnb
          · intro e he
            rw [hml] at he
            rcases List.mem_or_eq_of_mem_set he with h | rfl
            · exact hlb e h
            · exact hlb en (List.mem_of_getElem? hj)
          rotate_left
          · rw [hml,← hks]
            apply List.ext_getElem?
            intro n
            simp only [List.getElem?_map,List.getElem?_set]
            by_cases hn:j=n
            · subst hn
              have:=(List.getElem?_eq_some_iff.1 hj).1
              rw [if_pos rfl,if_pos this,hj];simp [hkey]
            · rw [if_neg hn]
          · rw [hml,List.map_set]
            exact RepL.set (RepL.keeps K _ _ hvs) (Rep.keeps K _ _ hval) j
        · rw [hks] at hres
          simp only [AI.hpw,hA,hk,hrr,hres,S.hp]
    · exact hm.elim
  · exact hp.elim
theorem ex_mx {x1 x2:Operand} {y1 y2:AOpd} {args:Array Operand} {ts:Array TypeId} (big:Bool) (S:Sim w0 outs N σ a c)
    (ho:o.op=.call { callee:=.builtin (if big then .max else .min),args:=args,argTypes:=ts }) (ha:args.toList=[x1,x2]) (h1:cOpd x1=some y1) (h2:cOpd x2=some y2)
    (hp:AI.pre σ (o.dst.getD 0) (.mx big y1 y2)):Ex1 P w0 outs o a c σ.hp (AI.out σ ver (o.dst.getD 0) (.mx big y1 y2)) ver:=by
  have e1:=S.ev h1;have e2:=S.ev h2
  have ha':args=#[x1,x2]:=by cases args;simp at ha;simp [ha]
  subst ha'
  simp only [AI.pre] at hp
  split at hp
  · rename_i k1 n1 k2 n2 hu hv
    rw [hu] at e1;rw [hv] at e2
    have e1':=rep_val e1;have e2':=rep_val e2
    refine Ex1.still S (v:=.int k1 (if big then (if n2 > n1 then n2 else n1) else (if n2<n1 then n2 else n1))) ?_ ?_
    · cases big <;> simp [execOp,ho,resolve,invoke,builtin,Builtin.max_,Builtin.min_,Builtin.max2,Builtin.min2,e1',e2']
    · simp only [AI.out,hu,hv];exact yzy
  · exact hp.elim
theorem sound_i {x:AI} (hc:cOp P N o=some (.i x)) (S:Sim w0 outs N σ a c) (hv:¬ c.used ver) (hp:x.pre σ (o.dst.getD 0)) :
    Ex1 P w0 outs o a c (x.hpw σ ver (o.dst.getD 0)) (x.out σ ver (o.dst.getD 0)) ver∧x.fact σ∧∀ d,o.dst=some d→d<N:=by
  unfold cOp at hc
  by_cases hd:dstBad N o.dst=true
  · rw [if_pos hd] at hc;cases hc
  · rw [if_neg hd] at hc
    have hd':∀ d,o.dst=some d→d<N:=by
      intro d e
      rw [e] at hd
      simp [dstBad] at hd;exact hd
    suffices h:Ex1 P w0 outs o a c (x.hpw σ ver (o.dst.getD 0)) (x.out σ ver (o.dst.getD 0)) ver∧x.fact σ from ⟨h.1,h.2,hd'⟩
    unfold cOp1 at hc
    split at hc
    · rename_i y _ ho hdst
      simp only [Option.map_eq_some_iff] at hc;obtain ⟨b,hb,e⟩:=hc;cases e
      exact ⟨ex_mov S (.inl ho) hb,trivial⟩
    · rename_i y _ ho hdst
      simp only [Option.map_eq_some_iff] at hc;obtain ⟨b,hb,e⟩:=hc;cases e
      exact ⟨ex_mov S (.inr ho) hb,trivial⟩
    · rename_i ho hdst
      split at hc
      · rename_i h1 h2 h3;cases hc;exact ⟨ex_pick S ho h1 h2 h3 hp,trivial⟩
      · cases hc
    · rename_i op t x1 x2 t' _ ho hdst
      split at hc
      · rename_i y1 y2 h1 h2
        by_cases hsl:isSlice P t=true
        · rw [if_pos hsl] at hc
          unfold isSlice at hsl
          split at hsl
          · rename_i e he
            by_cases hnil:isNilSl x2=true
            · rw [if_pos hnil] at hc
              have hx2:x2=.const (.slice none 0 0):=by
                unfold isNilSl at hnil;split at hnil <;> simp_all
              split at hc
              · cases hc;exact ⟨ex_isnil false S ho rfl he h1 hx2 hp,trivial⟩
              · cases hc;exact ⟨ex_isnil true S ho rfl he h1 hx2 hp,trivial⟩
              · cases hc
            · rw [if_neg hnil] at hc;cases hc
          · cases hsl
        · rw [if_neg hsl] at hc
          by_cases hpt:isPtr P t=true
          · rw [if_pos hpt] at hc
            unfold isPtr at hpt
            split at hpt
            · rename_i e he
              by_cases hnil:isNilPtr x2=true
              · rw [if_pos hnil] at hc
                have hx2:x2=.const (.pointer none):=by
                  unfold isNilPtr at hnil;split at hnil <;> simp_all
                split at hc
                · cases hc;exact ⟨ex_isnilp false S ho rfl he h1 hx2 hp,trivial⟩
                · cases hc;exact ⟨ex_isnilp true S ho rfl he h1 hx2 hp,trivial⟩
                · cases hc
              · rw [if_neg hnil] at hc;cases hc
            · cases hpt
          · rw [if_neg hpt] at hc
            by_cases hb:isBool P t=true
            · rw [if_pos hb] at hc
              unfold isBool at hb
              split at hb
              · rename_i he
                split at hc
                · cases hc;exact ⟨ex_beq false S ho rfl he h1 h2 hp,trivial⟩
                · cases hc;exact ⟨ex_beq true S ho rfl he h1 h2 hp,trivial⟩
                · cases hc
              · cases hb
            · rw [if_neg hb] at hc
              cases hc;exact ⟨ex_bin S ho h1 h2 hp,trivial⟩
      · cases hc
    · rename_i ho hdst
      simp only [Option.map_eq_some_iff] at hc;obtain ⟨b,hb,e⟩:=hc;cases e
      exact ⟨ex_un S ho hb hp,trivial⟩
    · rename_i ho hdst
      split at hc
      · rename_i h1 h2 h3;cases hc;exact ⟨ex_cvi S ho h1 h2 h3 hp,trivial⟩
      · rename_i h1 h2 h3
        split at hc
        · rename_i he;cases hc;exact ⟨ex_cvbs S ho h1 h2 he h3 hp,trivial⟩
        · cases hc
      · cases hc
    · rename_i ho hdst
      simp only [Option.map_eq_some_iff] at hc;obtain ⟨b,hb,e⟩:=hc;cases e
      exact ⟨ex_box S hv ho hb hp,trivial⟩
    · rename_i ho hdst
      split at hc
      · rename_i hi
        split at hc
        · rename_i hz;cases hc;exact ⟨ex_new S hv ho hi hz hp,trivial⟩
        · cases hc
      · cases hc
    · rename_i ho hdst
      split at hc
      · rename_i ht hps
        split at hc
        · rename_i hcond;cases hc;exact ⟨ex_bsl S hv ho ht hps hcond.1 hcond.2 hp,trivial⟩
        · cases hc
      · cases hc
    · rename_i ho hdst
      split at hc
      · rename_i ht hi
        split at hc
        · rename_i hz
          split at hc
          · rename_i hf hpl
            split at hc
            · rename_i hb;cases hc;exact ⟨ex_bst S ho ht hi hz hf hpl hb hp,trivial⟩
            · cases hc
          · cases hc
        · cases hc
      · cases hc
    · rename_i ho hdst
      split at hc
      · rename_i h1 h2;cases hc;exact ⟨ex_ld S ho h1 h2 hp,trivial⟩
      · rename_i h1 h2
        split at hc
        · cases hc
        · rename_i hn;cases hc;exact ⟨ex_lda S ho h1 h2 (by omega) hp,trivial⟩
      · cases hc
    · rename_i ho hdst
      split at hc
      · rename_i h1 h2 h3;cases hc;exact ⟨ex_sto S ho (.inl ⟨h1,rfl⟩) h2 h3 (by omega) hp,trivial⟩
      · rename_i h1 h2 h3
        split at hc
        · cases hc
        · rename_i hn;cases hc;exact ⟨ex_sto S ho (.inr h1) h2 h3 (by omega) hp,trivial⟩
      · cases hc
    · rename_i ho hdst
      simp only [Option.map_eq_some_iff] at hc;obtain ⟨b,hb,e⟩:=hc;cases e
      exact ⟨ex_nilck S ho hb hp,trivial⟩
    · rename_i ho hdst
      split at hc
      · rename_i ht h1
        split at hc
        · rename_i hf
          split at hc
          · rename_i hi
            split at hc
            · cases hc
            · rename_i h0;cases hc;exact ⟨ex_fad S ho ht hf hi h0 h1 hp,trivial⟩
          · cases hc
        · cases hc
      · cases hc
    · rename_i ho hdst
      split at hc
      · rename_i ht h1
        split at hc
        · rename_i hf
          split at hc
          · rename_i hsz;cases hc;exact ⟨ex_fld S ho ht hf hsz h1 hp,trivial⟩
          · rename_i hsz;cases hc;exact ⟨ex_flda S ho ht hf hsz h1 hp,trivial⟩
          · cases hc
        · cases hc
      · cases hc
    · rename_i ho hdst
      split at hc
      · rename_i ht h1 h2;cases hc;exact ⟨ex_iad S ho ht h1 h2 hp,trivial⟩
      · cases hc
    · rename_i ho hdst
      split at hc
      · rename_i h1 h2
        split at hc
        · rename_i hs
          unfold isStr at hs
          split at hs
          · rename_i he;cases hc;exact ⟨ex_idx S ho he h1 h2 hp,trivial⟩
          · cases hs
        · cases hc
      · cases hc
    · rename_i t x1 lo hi mx _ ho hdst
      split at hc
      · rename_i h1 h2 h3
        by_cases hs:isStr P t=true
        · rw [if_pos hs] at hc
          unfold isStr at hs
          split at hs
          · rename_i he
            split at hc
            · cases hc;exact ⟨ex_sls S ho he h1 h2 h3 hp,trivial⟩
            · cases hc
          · cases hs
        · rw [if_neg hs] at hc
          split at hc
          · rename_i ht;cases hc;exact ⟨ex_slc S hv ho ht h1 h2 h3 hp,trivial⟩
          · rename_i ht
            split at hc
            · rename_i hz;cases hc;exact ⟨ex_slc0 S hv ho ht h1 hz.1 hz.2.1 hz.2.2 hp,trivial⟩
            · cases hc
          · cases hc
      · cases hc
    · rename_i ho hdst
      split at hc
      · rename_i ht h1 h2;cases hc;exact ⟨ex_mks S hv ho ht h1 h2 hp,trivial⟩
      · cases hc
    · rename_i ho hdst
      cases hc;exact ⟨ex_mkm S hv ho hp,trivial⟩
    · rename_i ho hdst
      split at hc
      · rename_i ht h1 h2
        split at hc
        · rename_i hk
          split at hc
          · rename_i hi
            split at hc
            · rename_i vs hz;cases hc
              exact ⟨ex_lkp S ho ht hk hi hz (by simp only [Rep];exact ⟨vs,rfl,repL_vals _⟩) h1 h2 hp,trivial⟩
            · rename_i z _ hz;cases hc
              exact ⟨ex_lkp S ho ht hk hi hz yzy h1 h2 hp,trivial⟩
            · cases hc
          · cases hc
        · cases hc
      · cases hc
    · rename_i ho hdst
      split at hc
      · rename_i ht h1 h2 h3
        split at hc
        · rename_i hk;cases hc;exact ⟨ex_mup S (.inl ho) ht hk h1 h2 h3 hp,trivial⟩
        · cases hc
      · cases hc
    · rename_i ho hdst
      split at hc
      · rename_i ht h1 h2 h3
        split at hc
        · rename_i hk;cases hc;exact ⟨ex_mup S (.inr ho) ht hk h1 h2 h3 hp,trivial⟩
        · cases hc
      · cases hc
    · rename_i ho hdst
      split at hc
      · rename_i hf
        simp only [Option.map_eq_some_iff] at hc;obtain ⟨b,hb,e⟩:=hc;cases e
        exact ⟨ex_mkf S ho hf hb,trivial⟩
      · cases hc
    · rename_i ho hdst
      simp only [Option.map_eq_some_iff] at hc;obtain ⟨b,hb,e⟩:=hc;cases e
      exact ⟨ex_ext S ho hb hp,trivial⟩
    · rename_i ho hdst
      split at hc
      · rename_i ha hts
        split at hc
        · rename_i ht h1;cases hc;exact ex_len S ho ha hts ht h1 hp
        · rename_i ht h1;cases hc;exact ⟨ex_lens S ho ha hts ht h1 hp,trivial⟩
        · rename_i ht h1;cases hc;exact ⟨ex_lenm S ho ha hts ht h1 hp,trivial⟩
        · cases hc
      · cases hc
    · rename_i ho hdst
      split at hc
      · rename_i ha hts
        split at hc
        · rename_i ht h1 h2
          split at hc
          · rename_i e;subst e;cases hc;exact ⟨ex_app S hv ho ha hts ht h1 h2 hp,trivial⟩
          · cases hc
        · cases hc
      · cases hc
    · rename_i ho hdst
      split at hc
      · rename_i ha
        split at hc
        · rename_i h1 h2;cases hc;exact ⟨ex_mx true S ho ha h1 h2 hp,trivial⟩
        · cases hc
      · cases hc
    · rename_i ho hdst
      split at hc
      · rename_i ha
        split at hc
        · rename_i h1 h2;cases hc;exact ⟨ex_mx false S ho ha h1 h2 hp,trivial⟩
        · cases hc
      · cases hc
    · rename_i ho
      simp only [Option.map_eq_some_iff] at hc;obtain ⟨b,hb,e⟩:=hc;cases e
    · rename_i ho
      simp only [Option.map_eq_some_iff] at hc;obtain ⟨b,hb,e⟩:=hc;cases e
    · split at hc <;> cases hc
    · simp only [Option.map_eq_some_iff] at hc;obtain ⟨b,hb,e⟩:=hc;cases e
    · simp only [Option.map_eq_some_iff] at hc;obtain ⟨b,hb,e⟩:=hc;cases e
    · cases hc
end
end Go.Ab
namespace Go.Ab
def rnNm (s:Nat→Nat):Option (Option Nat)→Option (Option Nat)
  | none=>none
  | some none=>some none
  | some (some 0)=>some (some 0)
  | some (some (n+1))=>some (some (s n+1))
theorem rnNm_new (s:Nat→Nat):∀ nm,isNew (rnNm s nm)=isNew nm
  | none=>rfl
  | some none=>rfl
  | some (some 0)=>rfl
  | some (some (_+1))=>rfl
mutual
def AVal.ren (f:Nat→Option Nat) (s:Nat→Nat):AVal→AVal
  | .any=>.any
  | .val v=>.val v
  | .ro nm k cs=>.ro (rnNm s nm) k (renL f s cs)
  | .own r v=>match f r with | some r'=>.own r' (s v) | none=>.any
  | .st cs=>.st (renL f s cs)
  | .tup cs=>.tup (renL f s cs)
  | .ptr r v off=>match f r with | some r'=>.ptr r' (s v) off | none=>.any
  | .rp cs off=>.rp (renL f s cs) off
  | .mp r v=>match f r with | some r'=>.mp r' (s v) | none=>.any
  | .clo g caps=>.clo g (renL f s caps)
def renL (f:Nat→Option Nat) (s:Nat→Nat):List AVal→List AVal
  | []=>[]
  | A :: cs=>AVal.ren f s A :: renL f s cs
end
theorem renL_eq (f:Nat→Option Nat) (s:Nat→Nat):∀ cs:List AVal,renL f s cs=cs.map (AVal.ren f s)
  | []=>by simp [renL]
  | A :: cs=>by simp [renL,renL_eq f s cs]
def AObj.ren (f:Nat→Option Nat) (s:Nat→Nat):AObj→AObj
  | .gone=>.gone
  | .box v cs=>.box (s v) (renL f s cs)
  | .row v k nn cs=>.row (s v) k nn (renL f s cs)
  | .map v ks vs=>.map (s v) ks (renL f s vs)
  | .it v _=>.it (s v) none
theorem AObj.ren_ver (f:Nat→Option Nat) (s:Nat→Nat) (o:AObj):(o.ren f s).ver=o.ver.map s:=by cases o <;> rfl
theorem AObj.ren_gone {f:Nat→Option Nat} {s:Nat→Nat} {o:AObj}:o.ren f s=.gone↔o=.gone:=by cases o <;> simp [AObj.ren]
mutual
def AVal.fresh:AVal→Prop
  | .any=>True
  | .val _=>True
  | .ro nm _ cs=>(cs=[]∨isNew nm=true)∧freshL cs
  | .own _ _=>True
  | .st cs=>freshL cs
  | .tup cs=>freshL cs
  | .ptr _ _ _=>True
  | .rp _ _=>False
  | .mp _ _=>True
  | .clo _ caps=>freshL caps
def freshL:List AVal→Prop
  | []=>True
  | A :: cs=>AVal.fresh A∧freshL cs
end
theorem freshL_iff:∀ cs:List AVal,freshL cs↔∀ A∈cs,A.fresh
  | []=>by simp [freshL]
  | A :: cs=>by simp [freshL,freshL_iff cs]
def AObj.fresh:AObj→Prop
  | .gone=>True
  | .box _ cs=>freshL cs
  | .row _ _ _ cs=>freshL cs
  | .map _ _ vs=>freshL vs
  | .it _ _=>True
structure Ren (fm:Bool) (f:Nat→Option Nat) (s:Nat→Nat) (c c':Cz):Prop where
  imm:∀ b,c.imm b→(fm=true→∃ n,c.names n=some b)→c'.imm b∧c'.w.heap[b]?=c.w.heap[b]?
  names:∀ n b,c.names n=some b→c'.names (s n)=some b
  used:∀ v,c.used v→c'.used (s v)
  loc:∀ r r' v,f r=some r'→c.used v→(c'.hp r').ver=some (s v)→(c.hp r).ver=some v∧c'.loc r'=c.loc r
  old:∀ b,c.old b→c'.old b
theorem Ren.nmd {fm:Bool} {f:Nat→Option Nat} {s:Nat→Nat} {c c':Cz} (K:Ren fm f s c c') {n n':Option Nat} {b m:Nat} (h:c.nmd n b m) (e:c'.w.heap[b]?=c.w.heap[b]?) (hn:rnNm s (some n)=some n'):c'.nmd n' b m:=by
  cases n with
  | none =>
    simp only [rnNm,Option.some.injEq] at hn;subst hn
    obtain ⟨⟨n,h⟩,hf⟩:=h;exact ⟨⟨s n,K.names _ _ h⟩,Cz.fit_of hf e⟩
  | some n=>cases n with
    | zero =>
      simp only [rnNm,Option.some.injEq] at hn;subst hn
      exact K.old b h
    | succ n =>
      simp only [rnNm,Option.some.injEq] at hn;subst hn
      exact ⟨K.names _ _ h.1,Cz.fit_of h.2 e⟩
mutual
theorem Rep.ren {fm:Bool} {f:Nat→Option Nat} {s:Nat→Nat} {c c':Cz} (K:Ren fm f s c c'):∀ (A:AVal) (v:Value),(fm=true→A.fresh)→Rep c A v→Rep c' (A.ren f s) v
  | .any,_,_,_=>by simp [AVal.ren,Rep]
  | .val x,v,_,h=>by simpa [AVal.ren,Rep] using h
  | .ro nm k cs,v,hf,h=>by
    simp only [AVal.ren,Rep] at h ⊢
    obtain ⟨base,len,cap,hv,hk,hl,hm,hn,hc⟩:=h
    refine ⟨base,len,cap,hv,hk,by rw [renL_eq,List.length_map];exact hl,hm,?_,?_⟩
    · intro n e
      rw [rnNm_new]
      cases hnm0:nm with
      | none=>rw [hnm0] at e;cases e
      | some n0 =>
      rw [hnm0] at e
      have hn0:=hn n0 hnm0
      refine ⟨fun h=>hn0.1 (by rw [hnm0];exact h),?_⟩
      rcases hn0.2 with h0 | ⟨b,off,hb,hnm⟩
      · left;rw [renL_eq,List.length_map];exact h0
      · rcases hc with hc | ⟨b',off',hb',hi,_⟩
        · left;rw [renL_eq,List.length_map];exact hc
        · rw [hb] at hb'
          cases hb'
          by_cases h00:cs.length=0
          · left;rw [renL_eq,List.length_map];exact h00
          refine .inr ⟨b,off,hb,K.nmd hnm (K.imm b hi fun hfm=>?_).2 e⟩
          have:=hf hfm
          simp only [AVal.fresh] at this
          rcases this.1 with h1 | h1
          · rw [h1] at h00;exact absurd rfl h00
          · exact (Cz.nmd_ex (by rw [← hnm0];exact h1) hnm).1
    · rcases hc with hc | ⟨b,off,hb,hi,hr⟩
      · left;rw [renL_eq,List.length_map];exact hc
      · by_cases h0:cs.length=0
        · left;rw [renL_eq,List.length_map];exact h0
        · have hgood:fm=true→∃ n,c.names n=some b:=by
            intro e
            have:=hf e
            simp only [AVal.fresh] at this
            rcases this.1 with h1 | h1
            · rw [h1] at h0;exact absurd rfl h0
            · cases hn1:nm with
              | none=>rw [hn1] at h1;cases h1
              | some n =>
              rcases (hn n hn1).2 with h2 | ⟨b',off',hb',hnm⟩
              · exact absurd h2 h0
              · rw [hb] at hb';simp only [Option.some.injEq,Addr.mk.injEq] at hb'
                obtain ⟨rfl,_,_⟩:=hb'
                exact (Cz.nmd_ex (by rw [← hn1];exact h1) hnm).1
          exact .inr ⟨b,off,hb,(K.imm b hi hgood).1,RepAt.ren K (K.imm b hi hgood).2 cs off (fun e=>by have:=hf e;simp only [AVal.fresh] at this;exact this.2) hr⟩
  | .own r ver,v,_,h=>by
    simp only [AVal.ren]
    split
    · rename_i r' hr'
      simp only [Rep] at h ⊢
      refine ⟨K.used _ h.1,fun hr=>?_⟩
      obtain ⟨h1,h2⟩:=K.loc r r' ver hr' h.1 hr
      exact (h.2 h1).trans h2.symm
    · simp [Rep]
  | .st cs,v,hf,h=>by
    simp only [AVal.ren,Rep] at h ⊢
    obtain ⟨vs,hv,hl⟩:=h
    exact ⟨vs,hv,RepL.ren K cs vs.toList (fun e=>by have:=hf e;simpa only [AVal.fresh] using this) hl⟩
  | .tup cs,v,hf,h=>by
    simp only [AVal.ren,Rep] at h ⊢
    obtain ⟨vs,hv,hl⟩:=h
    exact ⟨vs,hv,RepL.ren K cs vs.toList (fun e=>by have:=hf e;simpa only [AVal.fresh] using this) hl⟩
  | .ptr r ver off,v,_,h=>by
    simp only [AVal.ren]
    split
    · rename_i r' hr'
      simp only [Rep] at h ⊢
      refine ⟨K.used _ h.1,fun hr=>?_⟩
      obtain ⟨h1,h2⟩:=K.loc r r' ver hr' h.1 hr
      rw [h2];exact h.2 h1
    · simp [Rep]
  | .rp cs off,v,hf,h=>by
    simp only [AVal.ren,Rep] at h ⊢
    obtain ⟨b,o,hv,hi,hr⟩:=h
    have hfm:fm=true→False:=fun e=>by have:=hf e;simp only [AVal.fresh] at this
    have hgood:fm=true→∃ n,c.names n=some b:=fun e=>(hfm e).elim
    exact ⟨b,o,hv,(K.imm b hi hgood).1,RepAt.ren K (K.imm b hi hgood).2 cs o (fun e=>(hfm e).elim) hr⟩
  | .mp r ver,v,_,h=>by
    simp only [AVal.ren]
    split
    · rename_i r' hr'
      simp only [Rep] at h ⊢
      refine ⟨K.used _ h.1,fun hr=>?_⟩
      obtain ⟨h1,h2⟩:=K.loc r r' ver hr' h.1 hr
      exact (h.2 h1).trans h2.symm
    · simp [Rep]
  | .clo g caps,v,hf,h=>by
    simp only [AVal.ren,Rep] at h ⊢
    obtain ⟨vs,hv,hl⟩:=h
    exact ⟨vs,hv,RepL.ren K caps vs.toList (fun e=>by have:=hf e;simpa only [AVal.fresh] using this) hl⟩
theorem RepAt.ren {fm:Bool} {f:Nat→Option Nat} {s:Nat→Nat} {c c':Cz} (K:Ren fm f s c c') {b:Nat} (hb:c'.w.heap[b]?=c.w.heap[b]?):∀ (cs:List AVal) (off:Nat),(fm=true→freshL cs)→RepAt c b off cs→RepAt c' b off (renL f s cs)
  | [],_,_,_=>by simp [renL,RepAt]
  | A :: cs,off,hf,h=>by
    simp only [renL,RepAt] at h ⊢
    obtain ⟨⟨v,hv,hr⟩,ht⟩:=h
    refine ⟨⟨v,?_,Rep.ren K A v (fun e=>by have:=hf e;simp only [freshL] at this;exact this.1) hr⟩,RepAt.ren K hb cs (off+1) (fun e=>by have:=hf e;simp only [freshL] at this;exact this.2) ht⟩
    rw [World.cell?_of_block (w:=c.w) hb];exact hv
theorem RepL.ren {fm:Bool} {f:Nat→Option Nat} {s:Nat→Nat} {c c':Cz} (K:Ren fm f s c c'):∀ (cs:List AVal) (vs:List Value),(fm=true→freshL cs)→RepL c cs vs→RepL c' (renL f s cs) vs
  | [],[],_,_=>by simp [renL,RepL]
  | [],_ :: _,_,h=>by simp [RepL] at h
  | _ :: _,[],_,h=>by simp [RepL] at h
  | A :: cs,v :: vs,hf,h=>by
    simp only [renL,RepL] at h ⊢
    exact ⟨Rep.ren K A v (fun e=>by have:=hf e;simp only [freshL] at this;exact this.1) h.1,RepL.ren K cs vs (fun e=>by have:=hf e;simp only [freshL] at this;exact this.2) h.2⟩
end
theorem ObjRep.ren {fm:Bool} {f:Nat→Option Nat} {s:Nat→Nat} {c c':Cz} (K:Ren fm f s c c') {v:Value} {o:AObj} (hf:fm=true→o.fresh) (h:ObjRep c v o) (hb:∀ b,blockOf v=some b→c'.w.heap[b]?=c.w.heap[b]?):ObjRep c' v (o.ren f s):=by
  cases o with
  | gone=>trivial
  | box ver cs =>
    obtain ⟨g,t,cells,rfl,hg,hr⟩:=h
    exact ⟨g,t,cells,rfl,by rw [hb g rfl];exact hg,RepL.ren K _ _ hf hr⟩
  | row ver k nn cs =>
    obtain ⟨base,n,cap,rfl,h1,h2,h3,h4,h5,hc⟩:=h
    refine ⟨base,n,cap,rfl,h1,by rw [renL_eq,List.length_map];exact h2,h3,h4,h5,?_⟩
    rcases hc with hc | ⟨g,off,t,cells,rfl,hg,h6,h7⟩
    · exact .inl hc
    · by_cases h0:cap=0
      · exact .inl h0
      · exact .inr ⟨g,off,t,cells,rfl,by rw [hb g (by simp [blockOf,h0])];exact hg,h6,RepL.ren K _ _ hf h7⟩
  | map ver ks vs =>
    obtain ⟨g,clock,ents,rfl,hg,h1,h2⟩:=h
    exact ⟨g,clock,ents,rfl,by rw [hb g rfl];exact hg,h1,RepL.ren K _ _ hf h2⟩
  | it ver d=>exact h.it_none hb
end Go.Ab
