/- Contracts and what they lean on, part 6. Conditions: none. -/
import Derived.OrdersHeld
import Derived.Test.YtbaiaaegcfobgaaGreatZ5
set_option maxRecDepth 100000
set_option maxHeartbeats 4000000
set_option linter.all false
open Nat renaming reduceLeDiff → J0, reduceMul → J1, reduceSub → J2, reduceEqDiff → J3, reduceAdd → J4, reduceLT → J5
open Int renaming reduceToNat → J6, reduceNeg → J7, reduceLE → J8, reduceLT → J9
open List renaming getD_eq_getElem?_getD → Y0, map_cons → Y1, getElem?_eq_getElem → Y2, mem_map → Y3, mem_append → Y4, length_append → Y5, length_map → Y6, length_singleton → Y7, mem_cons → Y8, mem_singleton → Y9, range → Ya, map_nil → Yb, map_append → Yc, getElem?_map → Yd, length_cons → Ye, length → Yf, map_congr_left → Yg, eq_nil_of_length_eq_zero → Yh, not_mem_nil → Yi, map_map → Yj, length_take → Yk, replicate → Yl, mem_range → Ym, getElem?_eq_some_iff → Yn, all_eq_true → Yo, length_drop → Yp, getElem_map → Yq, getElem?_take → Yr, foldl_cons → Ys, mem_cons_of_mem → Yt, cons_append → Yu, getElem?_append_right → Yv, mem_of_getElem? → Yw, pairwise_cons → Yx, getElem_mem → Yy, mem_flatMap → Yz, getElem?_append_left → Y10, take_length → Y11, pairwise_append → Y12, append_assoc → Y13, drop_length → Y14, getElem?_drop → Y15, nodup_cons → Y16, length_nil → Y17, ext_getElem → Y18, nodup_append → Y19, take_succ_eq_append_getElem → Y1a, getElem_of_mem → Y1b, getElem?_eq_none → Y1c, mem_of_mem_take → Y1d, contains_iff_mem → Y1e, filter_cons_of_pos → Y1f, pairwise_iff_getElem → Y1g
open Nat renaming le_refl → Y1h, lt_of_lt_of_le → Y1i, zero_le → Y1j, pow_le_pow_right → Y1k, sub_self → Y1l, le_trans → Y1m, add_mul → Y1n, zero_add → Y1o, add_zero → Y1p, mul_le_mul_right → Y1q, two_pow_pos → Y1r, shiftRight_eq_div_pow → Y1s
open Int renaming toNat_natCast → Y1t, le_refl → Y1u
open Option renaming isSome_some → Y1v, map_eq_some_iff → Y1w, getD_some → Y1x, isSome_iff_exists → Y1y, map_some → Y1z
open Bool renaming and_eq_true → Y20, not_true → Y21, or_eq_true → Y22, false_eq_true → Y23, not_eq_true' → Y24
open Array renaming length_toList → Y25, getElem?_toList → Y26, getElem?_eq_getElem → Y27, getD_eq_getD_getElem? → Y28, getElem?_append_left → Y29
namespace Go.Ab
def spare (c:Cz) (b o:Nat):Prop:=∃ r ver k nn cs off n cap,c.hp r=.row ver k nn cs∧c.loc r=.slice (some ⟨b,off,none⟩) n cap∧off+n * k≤o∧o<off+cap * k
def Held (c:Cz) (w:World):Prop:=∀ b o v,b<c.w.heap.size→¬ spare c b o→c.w.cell? ⟨b,o,none⟩=some v→w.cell? ⟨b,o,none⟩=some v
structure Fram (c c':Cz):Prop where
 held:Held c c'.w
 size:c.w.heap.size≤c'.w.heap.size
 spare:∀ b o,b<c.w.heap.size→spare c' b o→spare c b o
theorem Fram.refl (c:Cz):Fram c c:=⟨fun _ _ _ _ _ h=>h,Y1h _,fun _ _ _ h=>h⟩
theorem Fram.trans {a b c:Cz} (h:Fram a b) (k:Fram b c):Fram a c :=
 ⟨fun g o v hg hn hv=>k.held g o v (Y1i hg h.size) (fun hs=>hn (h.spare g o hg hs)) (h.held g o v hg hn hv),
  Y1m h.size k.size,fun g o hg hs=>h.spare g o hg (k.spare g o (Y1i hg h.size) hs)⟩
section
variable {P:Program} {w0:World} {outs:Nat→Prop} {N:Nat} {σ:St} {o:Oper} {a:Act} {c:Cz} {ver:Nat}
theorem yzbv {b o:Nat} (h:spare c b o):∃ r ver k nn cs off n cap,c.hp r=.row ver k nn cs∧c.loc r=.slice (some ⟨b,off,none⟩) n cap∧off+n * k≤o∧o<off+cap * k∧blockOf (c.loc r)=some b∧c.hp r≠.gone:=by
 obtain ⟨r,ver,k,nn,cs,off,n,cap,h1,h2,h3,h4⟩:=h
 refine ⟨r,ver,k,nn,cs,off,n,cap,h1,h2,h3,h4,?_,by rw [h1];simp⟩
 rw [h2]
 have:cap≠0:=by rintro rfl;simp at h4;omega
 simp [blockOf,this]
theorem at_held (G:Good w0 outs c) (hc:c.hp=σ.hp) {A:AVal} {v:Value} (h:Rep c A v) {cs:List AVal} {off:Nat} (hat:σ.at A=some (cs,off)) (hlt:off<cs.length) :
  ∃ b o u,v=.pointer (some ⟨b,o,none⟩)∧b<c.w.heap.size∧¬ spare c b o∧c.w.cell? ⟨b,o,none⟩=some u∧Rep c (cs.getD off .any) u:=by
 obtain ⟨b,p,hv,hr⟩:=yz56 G hc h hat
 have hpv:v=.pointer (some ⟨b,p+off,none⟩):=by
  rcases hv with hv | hv
  ·exact hv
  ·subst hv;simp at hlt
 clear hv
 obtain ⟨u,hcell,hrep⟩:=hr.get (Y2 hlt)
 have hbl:b<c.w.heap.size:=by
  rcases Nat.lt_or_ge b c.w.heap.size with h1 | h1
  ·exact h1
  ·exfalso
   simp [World.cell?,Array.getElem?_eq_none h1] at hcell
 refine ⟨b,p+off,u,hpv,hbl,fun hs=>?_,hcell,by simp only [Y0,Y2 hlt,Y1x];exact hrep⟩
 obtain ⟨r',ver',k',nn',cs',off',n',cap',h1,h2,h3,h4,h5,h6⟩:=yzbv hs
 cases A with
 | ptr r v' off2 =>
  simp only [St.at] at hat
  simp only [Rep] at h
  rw [← hc] at hat
  have hO:=G.obj r
  split at hat
  ·rename_i ver2 cs2 hr2
   split at hat
   ·rename_i e
    simp only [Option.some.injEq,Prod.mk.injEq] at hat
    obtain ⟨rfl,rfl⟩:=hat
    subst e
    rw [hr2] at hO h
    obtain ⟨b2,o2,hb2,hv2⟩:=h.2 rfl
    obtain ⟨g,t,cells,hl,hg,hrep2⟩:=hO
    rw [hl] at hb2
    simp only [baseOf,Option.some.injEq,Addr.mk.injEq] at hb2
    obtain ⟨rfl,rfl,-⟩:=hb2
    rw [hpv] at hv2
    simp only [Value.pointer.injEq,Option.some.injEq,Addr.mk.injEq] at hv2
    obtain ⟨rfl,_,-⟩:=hv2
    have:=G.inj r r' b (by rw [hr2];simp) h6 (by rw [hl];rfl) h5
    subst this
    rw [hr2] at h1;cases h1
   ·cases hat
  ·rename_i ver2 k nn cs2 hr2
   split at hat
   ·rename_i e
    simp only [Option.some.injEq,Prod.mk.injEq] at hat
    obtain ⟨rfl,rfl⟩:=hat
    subst e
    rw [hr2] at hO h
    obtain ⟨b2,o2,hb2,hv2⟩:=h.2 rfl
    obtain ⟨base,n,cap,hl,hk,hlen,hn,hm,hnn,hcase⟩:=hO
    rcases hcase with h0 | ⟨g,off3,t,cells,rfl,hg,hfit,hrep2⟩
    ·have:n=0:=by omega
     subst this;simp at hlen;subst hlen;simp at hlt
    ·rw [hl] at hb2
     simp only [baseOf,Option.some.injEq,Addr.mk.injEq] at hb2
     obtain ⟨rfl,rfl,-⟩:=hb2
     rw [hpv] at hv2
     simp only [Value.pointer.injEq,Option.some.injEq,Addr.mk.injEq] at hv2
     obtain ⟨rfl,hv2,-⟩:=hv2
     have hn0:n≠0:=by rintro rfl;simp at hlen;subst hlen;simp at hlt
     have:=G.inj r r' b (by rw [hr2];simp) h6 (by rw [hl];simp [blockOf];omega) h5
     subst this
     rw [hr2] at h1
     simp only [AObj.row.injEq] at h1
     obtain ⟨-,rfl,-,-⟩:=h1
     rw [hl] at h2
     simp only [Value.slice.injEq,Option.some.injEq,Addr.mk.injEq] at h2
     obtain ⟨⟨-,rfl,-⟩,rfl,rfl⟩:=h2
     omega
   ·cases hat
  ·cases hat
 | rp cs2 off2 =>
  simp only [St.at,Option.some.injEq,Prod.mk.injEq] at hat
  obtain ⟨rfl,rfl⟩:=hat
  simp only [Rep] at h
  obtain ⟨b2,o2,hv2,hi,hr2⟩:=h
  rw [hpv] at hv2
  simp only [Value.pointer.injEq,Option.some.injEq,Addr.mk.injEq] at hv2
  obtain ⟨rfl,_,-⟩:=hv2
  exact hi.2.2 ⟨r',h6,h5⟩
 | _=>simp [St.at] at hat
def okE:AI→Bool
 | .mov _ | .fad _ _ | .ld _ | .iad _ _ _=>true
 | _=>false
theorem inv_mov {y:AOpd} (h:cOp1 P o=some (.i (.mov y))):∃ x,(o.op=.move x∨o.op=.assign x)∧cOpd x=some y:=by
 unfold cOp1 at h
 split at h <;> first
  | (rename_i ho _;simp only [Y1w] at h;obtain ⟨b,hb',e⟩:=h;cases e;exact ⟨_,.inl ho,hb'⟩)
  | (rename_i ho _;simp only [Y1w] at h;obtain ⟨b,hb',e⟩:=h;cases e;exact ⟨_,.inr ho,hb'⟩)
  | (exfalso;simp only [Y1w] at h;obtain ⟨b,hb',e⟩:=h;cases e;done)
  | (exfalso;repeat' split at h) <;> first | (cases h;done) | (simp at h;done)
theorem inv_ld {y:AOpd} (h:cOp1 P o=some (.i (.ld y))):∃ t x,o.op=.load t x∧cSize P t=some none∧cOpd x=some y:=by
 unfold cOp1 at h
 split at h <;> first
  | (exfalso;simp only [Y1w] at h;obtain ⟨b,hb',e⟩:=h;cases e;done)
  | (rename_i ho _;split at h <;> first | (rename_i h1 h2;cases h;exact ⟨_,_,ho,h1,h2⟩) | (exfalso;repeat' split at h) <;> first | (cases h;done) | (simp at h;done))
  | (exfalso;repeat' split at h) <;> first | (cases h;done) | (simp at h;done)
theorem inv_fad {off:Nat} {y:AOpd} (h:cOp1 P o=some (.i (.fad off y))):∃ s x f fs fl i,o.op=.fieldAddr s x f∧P.underlying s=some (.struct fs)∧fs[f]?=some fl∧P.info? fl.type=some i∧i.size≠0∧cOpd x=some y∧off=fl.offset:=by
 unfold cOp1 at h
 split at h <;> first
  | (exfalso;simp only [Y1w] at h;obtain ⟨b,hb',e⟩:=h;cases e;done)
  | (rename_i ho _;split at h
     ·rename_i h1 h2
      split at h
      ·rename_i h3
       split at h
       ·rename_i h4
        split at h
        ·cases h
        ·rename_i h5;cases h;exact ⟨_,_,_,_,_,_,ho,h1,h3,h4,h5,h2,rfl⟩
       ·cases h
      ·cases h
     ·cases h)
  | (exfalso;repeat' split at h) <;> first | (cases h;done) | (simp at h;done)
theorem inv_iad {k:Nat} {y1 y2:AOpd} (h:cOp1 P o=some (.i (.iad k y1 y2))):∃ t x1 x2 by_ z,o.op=.indexAddr t x1 x2∧cElem P t=some (k,by_,z)∧cOpd x1=some y1∧cOpd x2=some y2:=by
 unfold cOp1 at h
 split at h <;> first
  | (exfalso;simp only [Y1w] at h;obtain ⟨b,hb',e⟩:=h;cases e;done)
  | (rename_i ho _;split at h <;> first | (rename_i h1 h2 h3;cases h;exact ⟨_,_,_,_,_,ho,h1,h2,h3⟩) | (cases h;done))
  | (exfalso;repeat' split at h) <;> first | (cases h;done) | (simp at h;done)
theorem early_i {x:AI} (hx:okE x=true) (hc:cOp P N o=some (.i x)) (S:Sim w0 outs N σ a c) (hp:x.pre σ (o.dst.getD 0)) :
  ∃ v,(∀ w,Held c w→(execOp a.eval o).run P w=.ok (.value v) w)∧Rep c (x.out σ ver (o.dst.getD 0)) v∧∀ d,o.dst=some d→d<N:=by
 unfold cOp at hc
 by_cases hd:dstBad N o.dst=true
 ·rw [if_pos hd] at hc;cases hc
 rw [if_neg hd] at hc
 have hd':∀ d,o.dst=some d→d<N:=by
  intro d e
  rw [e] at hd
  simp [dstBad] at hd;exact hd
 suffices h:∃ v,(∀ w,Held c w→(execOp a.eval o).run P w=.ok (.value v) w)∧Rep c (x.out σ ver (o.dst.getD 0)) v by
  obtain ⟨v,h1,h2⟩:=h;exact ⟨v,h1,h2,hd'⟩
 cases x with
 | mov y =>
  obtain ⟨x,ho,h1⟩:=inv_mov hc
  refine ⟨a.eval x,fun w _=>?_,S.ev h1⟩
  rcases ho with ho | ho <;> simp [execOp,ho]
 | ld y =>
  obtain ⟨t,x,ho,ht,h1⟩:=inv_ld hc
  have e1:=S.ev h1
  simp only [AI.pre] at hp
  split at hp
  ·rename_i cs off hat
   obtain ⟨b,p,u,hv,hb,hns,hcell,hrep⟩:=at_held S.good S.hp e1 hat hp
   refine ⟨u,fun w hw=>?_,by simp only [AI.out,hat];exact hrep⟩
   have hcw:=hw b p u hb hns hcell
   simp [execOp,ho,hv,Instr.loadAt,Instr.sureAddr,loadVar,yzy ht,hcw]
  ·exact hp.elim
 | fad off y =>
  obtain ⟨s,x,f,fs,fl,i,ho,ht,hf,hi,h0,h1,rfl⟩:=inv_fad hc
  have e1:=S.ev h1
  have hv:∃ b p,a.eval x=.pointer (some ⟨b,p,none⟩)∧Rep c (AI.out σ ver (o.dst.getD 0) (.fad fl.offset y)) (.pointer (some ⟨b,p+fl.offset,none⟩)):=by
   simp only [AI.pre] at hp
   split at hp
   ·rename_i r v off hu
    rw [hu] at e1
    simp only [Rep] at e1
    rw [← S.hp] at hp
    obtain ⟨b,p,hb,hv⟩:=e1.2 hp
    refine ⟨b,_,hv,?_⟩
    simp only [AI.out,hu,Rep]
    exact ⟨e1.1,fun _=>⟨b,p,hb,by rw [Nat.add_assoc]⟩⟩
   ·rename_i cs off hu
    rw [hu] at e1
    simp only [Rep] at e1
    obtain ⟨b,p,hv,hr⟩:=e1
    refine ⟨b,_,hv,?_⟩
    simp only [AI.out,hu,Rep]
    exact ⟨b,p,by rw [Nat.add_assoc],hr⟩
   ·exact hp.elim
  obtain ⟨b,p,hv,hr⟩:=hv
  refine ⟨.pointer (some ⟨b,p+fl.offset,none⟩),fun w _=>?_,hr⟩
  simp [execOp,ho,hv,Instr.fieldAt,underlying,ht,hf,Instr.sureAddr,fieldPlace,sizeOf,typeInfo,hi,h0,yzu]
 | iad k y1 y2 =>
  obtain ⟨t,x1,x2,by_,z,ho,ht,h1,h2⟩:=inv_iad hc
  have hrun0:=ex_iad (ver:=ver) S ho ht h1 h2 hp
  obtain ⟨e,i,hu,hi,_,hsz,_,hk0,_,_⟩:=yz11 ht
  have e1:=S.ev h1;have e2:=S.ev h2
  simp only [AI.pre] at hp
  split at hp
  ·rename_i kk n hn
   rw [hn] at e2
   have e2':=yzf e2
   split at hp
   ·rename_i k' cs hsl
    obtain ⟨rfl,h0,hlt⟩:=hp
    obtain ⟨base,len,cap,hv,_,hl,hm,hcase⟩:=yz2e S.good S.hp e1 hsl
    rcases hcase with h00 | ⟨b,off,rfl,hr,hbl⟩
    ·omega
    ·have hn':n<(len:Int):=by
      have:n.toNat<len:=by
       rw [hl] at hlt;exact Nat.lt_of_mul_lt_mul_right hlt
      omega
     have hrun:∀ w,(execOp a.eval o).run P w=.ok (.value (.pointer (some ⟨b,off+n.toNat * k',none⟩))) w:=fun w=>by
      simp [execOp,ho,hv,e2',Instr.indexAt,asIntOf,underlying,hu,h0,hn',sizeOf,typeInfo,hi,hsz,yzu]
     obtain ⟨v,c',hr0,G',K',hh',hrep,_⟩:=hrun0
     refine ⟨_,fun w _=>hrun w,?_⟩
     simp only [AI.out,hn]
     cases hA:σ.ev y1 with
     | ro nm k2 cs2 =>
      rw [hA] at hsl e1
      simp only [St.sl,Option.some.injEq,Prod.mk.injEq] at hsl
      obtain ⟨rfl,rfl⟩:=hsl
      simp only [Rep] at e1 ⊢
      obtain ⟨base',len',cap',hv',_,_,_,_,hcase'⟩:=e1
      rw [hv] at hv'
      simp only [Value.slice.injEq] at hv'
      obtain ⟨rfl,rfl,rfl⟩:=hv'
      rcases hcase' with h00 | ⟨b',off',hb',hi',hr'⟩
      ·omega
      ·simp only [Option.some.injEq,Addr.mk.injEq] at hb'
       obtain ⟨rfl,rfl,-⟩:=hb'
       exact ⟨_,_,rfl,hi',hr'⟩
     | own r v' =>
      rw [hA] at e1
      simp only [Rep] at e1 ⊢
      refine ⟨e1.1,fun hver=>?_⟩
      rw [e1.2 hver] at hv
      exact ⟨b,off,by rw [hv];rfl,rfl⟩
     | _=>rw [hA] at hsl;simp [St.sl] at hsl
   ·exact hp.elim
  ·exact hp.elim
 | _=>cases hx
structure Grew (c:Cz) (k:Nat) (v:Value) (w:World):Prop where
 held:Held c w
 size:c.w.heap.size≤w.heap.size
 lies:∀ b off n cap,v=.slice (some ⟨b,off,none⟩) n cap→c.w.heap.size≤b∨∃ r ver' nn cs n0,c.hp r=.row ver' k nn cs∧c.loc r=.slice (some ⟨b,off,none⟩) n0 cap∧n0≤n
theorem yz20 {w:World} (h:∀ b,b<c.w.heap.size→w.heap[b]?=c.w.heap[b]?):Held c w:=by
 intro b o v hb _ hv
 rw [World.cell?_of_block (w:=c.w) (h b hb)];exact hv
theorem grew_bsl {t:TypeId} {k by_ len:Nat} {fz:Bool} {z:Value} {ps:Array (Nat×Operand)} {ys:List AOpd} (S:Sim w0 outs N σ a c) (ho:o.op=.buildSlice t len ps) (ht:cElem P t=some (k,by_,z))
  (h1:cParts 0 ps.toList=some ys) (hlen:ys.length=len) (hsmall:len * k≤2 ^ 24)
  (hp:AI.pre σ (o.dst.getD 0) (.bsl k fz ys)):∃ v w,(execOp a.eval o).run P c.w=.ok (.value v) w∧Grew c k v w:=by
 obtain ⟨e,i,hu,hi,hz,hsz,hby,hk0,hzs,hb0⟩:=yz11 ht
 obtain ⟨xs,hxs,hps⟩:=yz3f h1
 have e1:=S.evs hxs
 obtain ⟨_,hd,hone,hnd⟩:=hp
 have hone':∀ y∈ys,(σ.ev y).cells.length=k∧∀ A∈(σ.ev y).cells,One c.hp A:=by rw [S.hp];exact hone
 obtain ⟨hl,hsize⟩:=e1.flat S.good hone'
 have hlx:xs.length=ys.length:=by
  have:=e1.length;simpa using this.symm
 have hlv:(xs.map a.eval).length=len:=by simp [hlx,hlen]
 have hr:=run_bsl (P:=P) (vs:=xs.map a.eval) hu hi hz (by omega) (by omega) (by rw [hsz];exact hsize) (by rw [hlv,hsz];exact hsmall) c.w
 have hparts:(ps.map fun (i,x)=>(i,a.eval x))=(((xs.map a.eval).zipIdx 0).map fun x=>(x.2,x.1)).toArray:=by
  apply Array.ext'
  rw [Array.toList_map,hps]
  simp [List.zipIdx_map,Yj,Function.comp_def]
 rw [hlv] at hr
 refine ⟨_,_,by simp only [execOp,ho,hparts];simp [hr];exact ⟨rfl,rfl⟩,?_,?_,?_⟩
 ·exact yz20 fun b hb=>yz3d c.w _ b hb
 ·simp
 ·intro b off n cap hv
  simp only [Value.slice.injEq,Option.some.injEq,Addr.mk.injEq] at hv
  left;omega
theorem grew_app {t:TypeId} {k by_:Nat} {z:Value} {x1 x2:Operand} {y1 y2:AOpd} {args:Array Operand} {ts:Array TypeId} (S:Sim w0 outs N σ a c)
  (ho:o.op=.call { callee:=.builtin .append,args:=args,argTypes:=ts }) (ha:args.toList=[x1,x2]) (hts:ts.toList=[t,t]) (ht:cElem P t=some (k,by_,z)) (h1:cOpd x1=some y1) (h2:cOpd x2=some y2)
  (hp:AI.pre σ (o.dst.getD 0) (.app k by_ y1 y2)):∃ v w,(execOp a.eval o).run P c.w=.ok (.value v) w∧Grew c k v w:=by
 obtain ⟨e,i,hu,hi,hz,hsz,hby,hk0,hzs,hb0⟩:=yz11 ht
 have e1:=S.ev h1;have e2:=S.ev h2
 have ha':args=#[x1,x2]:=by cases args;simp at ha;simp [ha]
 have hts':ts=#[t,t]:=by cases ts;simp at hts;simp [hts]
 subst ha' hts'
 have run:∀ {u v r:Value} {w':World},a.eval x1=u→a.eval x2=v→(Builtin.append_ #[t,t] o.type #[u,v]).run P c.w=.ok r w'→(execOp a.eval o).run P c.w=.ok (.value r) w':=by
  intro u v r w' h3 h4 h5
  simp [execOp,ho,resolve,invoke,builtin,h3,h4,h5]
 obtain ⟨hx,hs⟩:=hp
 obtain ⟨bx,m,capx,hvx,hxl,news,hnr,hnl,hnews⟩:∃ bx m capx,a.eval x2=.slice bx m capx∧(σ.slc (σ.ev y2)).length=m * k∧∃ news,RepL c (σ.slc (σ.ev y2)) news∧news.length=(σ.slc (σ.ev y2)).length ∧
   ((σ.slc (σ.ev y2)).length≠0→∃ ad,bx=some ad∧∀ (j:Nat) v,news[j]?=some v→c.w.cell? (ad.add j)=some v):=by
  by_cases hnil:σ.ev y2=.val (.slice none 0 0)
  ·rw [hnil] at e2
   refine ⟨none,0,0,yzf e2,by simp [hnil,St.slc,St.sl],[],by simp [hnil,St.slc,St.sl,RepL],by simp [hnil,St.slc,St.sl],by simp [hnil,St.slc,St.sl]⟩
  ·split at hx
   ·rename_i h;exact absurd h hnil
   ·split at hx
    ·rename_i k' xs hsl
     obtain ⟨rfl,_⟩:=hx
     obtain ⟨base,len,cap,hv2,_,hl,hm,hcase⟩:=yz2e S.good S.hp e2 hsl
     have hslc:σ.slc (σ.ev y2)=xs:=by simp [St.slc,hsl]
     rcases hcase with h0 | ⟨b,off,rfl,hr,_⟩
     ·have hxs:xs=[]:=Yh h0
      refine ⟨base,len,cap,hv2,by rw [hslc];exact hl,[],by rw [hslc,hxs];simp [RepL],by rw [hslc,hxs];rfl,by rw [hslc];intro h;exact absurd h0 h⟩
     ·obtain ⟨vs,h5,h6,h7⟩:=hr.vals
      refine ⟨_,len,cap,hv2,by rw [hslc];exact hl,vs,by rw [hslc];exact h5,by rw [hslc];exact h6,fun _=>⟨_,rfl,fun j v hj=>by rw [yzu];exact h7 j v hj⟩⟩
    ·exact hx.elim
 have hone:∀ u∈news,u.oneCell'=true:=by
  refine hnr.one S.good ?_
  rw [S.hp]
  intro A hA
  split at hx
  ·rename_i h;rw [h] at hA;simp [St.slc,St.sl] at hA
  ·split at hx
   ·rename_i k' xs hsl
    have hslc:σ.slc (σ.ev y2)=xs:=by simp [St.slc,hsl]
    rw [hslc] at hA
    exact hx.2 A hA
   ·exact hx.elim
 have hnm:news.length=m * k:=hnl.trans hxl
 have hm0:(σ.slc (σ.ev y2)).length=0↔m=0:=by
  rw [hxl];constructor
  ·intro h;rcases Nat.mul_eq_zero.1 h with h | h <;> omega
  ·intro h;simp [h]
 have hmem:∀ q:Nat,q * by_≤140737488355328→q≤maxLen:=by
  intro q hq
  have:q≤q * by_:=Nat.le_mul_of_pos_right _ hb0
  simp only [maxLen];omega
 have fresh:∀ (ob:Obj) (n cap:Nat),Grew c k (.slice (some ⟨c.w.heap.size,0,none⟩) n cap) (c.w.drew.alloc ob):=by
  intro ob n cap
  refine ⟨yz20 fun b hb=>yz3d c.w.drew _ b hb,by simp,?_⟩
  intro b off n' cap' hv
  simp only [Value.slice.injEq,Option.some.injEq,Addr.mk.injEq] at hv
  left;omega
 cases hA:σ.ev y1 with
 | own r v0 =>
  simp only [hA] at hs
  rw [hA] at e1
  simp only [Rep] at e1
  split at hs
  ·rename_i ver' k' nn cs hrr
   obtain ⟨rfl,rfl,hbytes⟩:=hs
   have hrc:c.hp r=.row ver' k' nn cs:=by rw [S.hp];exact hrr
   have hO:=S.good.obj r
   rw [hrc] at hO e1
   have hv1:=e1.2 rfl
   obtain ⟨base,n,cap,hloc,hk,hcl,hnc,hcm,hnn,hcase⟩:=hO
   rw [hloc] at hv1
   have hdiv:(cs.length+(σ.slc (σ.ev y2)).length) / k'=n+m:=by
    rw [hcl,hxl,← Y1n];exact Nat.mul_div_cancel _ hk
   rw [hdiv] at hbytes
   by_cases hm:m=0
   ·subst hm
    have hr:=yz1z (P:=P) (ty:=o.type) hu hi base bx n cap capx hnc c.w
    refine ⟨_,_,run hv1 hvx hr,yz20 fun _ _=>rfl,Y1h _,?_⟩
    intro b off n' cap' hv
    simp only [Value.slice.injEq] at hv
    obtain ⟨rfl,rfl,rfl⟩:=hv
    exact .inr ⟨r,ver',nn,cs,n,hrc,hloc,Y1h _⟩
   ·obtain ⟨ad,rfl,hcellx⟩:=hnews (by rw [ne_eq,hm0];exact hm)
    by_cases hroom:n+m≤cap
    ·rcases hcase with h0 | ⟨g,off,te,cells,rfl,hg,hcf,hrep⟩
     ·omega
     ·have hmul:(n+m) * k'≤cap * k':=Y1q _ hroom
      rw [Y1n] at hmul
      have hr:=yz4r (P:=P) (ty:=o.type) hu hi (off:=off) (n:=n) (cap:=cap) (cap2:=capx) hg ad news (by rw [hsz];exact hnm) hcellx hone hroom (by rw [hsz,hnm];omega)
      rw [hsz] at hr
      refine ⟨_,_,run hv1 hvx hr,?_,by simp,?_⟩
      ·intro b q u hb hns hcu
       by_cases hbg:b=g
       ·subst hbg
        rw [cell_of_row _ b q _ te _ (setRow_heap c.w b cells _ te _ hg)]
        rw [cell_of_row c.w b q cells te _ hg] at hcu
        have hq:q<cells.size:=by
         rcases Nat.lt_or_ge q cells.size with h6 | h6
         ·exact h6
         ·rw [Array.getElem?_eq_none h6] at hcu;cases hcu
        have hout:q<off+n * k'∨off+n * k'+news.length≤q:=by
         rcases Nat.lt_or_ge q (off+n * k') with h6 | h6
         ·exact .inl h6
         ·right
          rcases Nat.lt_or_ge q (off+n * k'+news.length) with h7 | h7
          ·exfalso
           exact hns ⟨r,ver',k',nn,cs,off,n,cap,hrc,hloc,h6,by omega⟩
          ·exact h7
        have hcl2:(cells.toList.take (off+n * k')).length=off+n * k':=by rw [Yk,Y25];omega
        rw [List.getElem?_toArray]
        rcases hout with h6 | h6
        ·rw [Y13,Y10 (by rw [hcl2];exact h6),List.getElem?_take_of_lt h6,Y26];exact hcu
        ·rw [Yv (by rw [Y5,hcl2];exact h6),Y5,hcl2,Y15,Y26]
         rw [show off+n * k'+news.length+(q - (off+n * k'+news.length))=q by omega];exact hcu
       ·rw [World.cell?_of_block (w:=c.w) (setRow_other c.w g b _ hbg)];exact hcu
      ·intro b off' n' cap' hv
       simp only [Value.slice.injEq] at hv
       obtain ⟨hv,rfl,rfl⟩:=hv
       rw [hv] at hloc
       exact .inr ⟨r,ver',nn,cs,n,hrc,hloc,by omega⟩
    ·have holds:∃ olds,RepL c cs olds∧olds.length=n * k'∧(base=none→n=0∧cap=0)∧∀ b,base=some b→∀ (j:Nat) v,olds[j]?=some v→c.w.cell? (b.add j)=some v:=by
      rcases hcase with h0 | ⟨g,off,te,cells,rfl,hg,hcf,hrep⟩
      ·have hn0:n=0:=by omega
       subst hn0
       have:cs=[]:=Yh (by omega)
       subst this
       exact ⟨[],by simp [RepL],by simp,fun _=>⟨rfl,h0⟩,by simp⟩
      ·refine ⟨(cells.toList.drop off).take (n * k'),hrep,by rw [← hrep.length,hcl],by simp,?_⟩
       intro b hb j v hj
       simp only [Option.some.injEq] at hb
       subst hb
       rw [yzu,cell_of_row c.w g _ cells te (0,0) hg]
       rw [Yr] at hj
       split at hj
       ·simpa using hj
       ·cases hj
     obtain ⟨olds,hor,hol,hbn,hoc⟩:=holds
     have hlt:cap<n+m:=by omega
     cases base with
     | none =>
      obtain ⟨rfl,rfl⟩:=hbn rfl
      have hr:=run_append_nil (P:=P) c.w t o.type e i z hu hi hz ad m capx news (by rw [hsz];exact hnm) hcellx (by omega) (by have:=hmem _ hbytes;simp only [maxLen] at this;omega) (by rw [hby];simp at hbytes;omega)
      exact ⟨_,_,run hv1 hvx hr,fresh _ _ _⟩
     | some b =>
      have hr:=run_append_grow (P:=P) c.w t o.type e i z hu hi hz b n cap olds (by rw [hsz];exact hol) (hoc b rfl) ad m capx news (by rw [hsz];exact hnm) hcellx hlt (by have:=hmem _ hbytes;simp only [maxLen] at this;omega)
       (by rw [hby];exact growslice_fits hlt hbytes)
      exact ⟨_,_,run hv1 hvx hr,fresh _ _ _⟩
  ·exact hs.elim
 | val u =>
  simp only [hA] at hs
  rw [hA] at e1
  have e1':=yzf e1
  split at hs
  ·rename_i heq
   simp only [AVal.val.injEq] at heq
   subst heq
   obtain ⟨hd,hbytes⟩:=hs
   by_cases hm:m=0
   ·subst hm
    have hr:=yz1z (P:=P) (ty:=o.type) hu hi none bx 0 0 capx (Y1h _) c.w
    refine ⟨_,_,run e1' hvx hr,yz20 fun _ _=>rfl,Y1h _,?_⟩
    intro b off n' cap' hv;simp at hv
   ·have hx0:¬ (σ.slc (σ.ev y2)).length=0:=by rw [hm0];exact hm
    obtain ⟨ad,rfl,hcellx⟩:=hnews hx0
    rw [yz7r hxl hk0] at hbytes
    have hr:=run_append_nil (P:=P) c.w t o.type e i z hu hi hz ad m capx news (by rw [hsz];exact hnm) hcellx (by omega) (by have:=hmem _ hbytes;simp only [maxLen] at this;omega) (by rw [hby];omega)
    exact ⟨_,_,run e1' hvx hr,fresh _ _ _⟩
  ·rename_i heq;simp at heq
  ·exact hs.elim
 | _=>simp [hA] at hs
theorem fram_of {c':Cz} {v:Value} {w:World} {k:Nat} {A:AVal} (G:Good w0 outs c) (K:Keeps c c') (g:Grew c k v w) (hw:c'.w=w) (hv:¬ c.used ver) (hr:Rep c' A v)
  (hH:∀ q,c'.hp q=c.hp q∨c'.hp q=.gone∨∃ nn cs,c'.hp q=.row ver k nn cs∧A=.own q ver):Fram c c':=by
 subst hw
 refine ⟨g.held,g.size,?_⟩
 rintro b o hb ⟨r,ver2,k2,nn,cs,off,n,cap,h1,h2,h3,h4⟩
 have old:c'.hp r=c.hp r→spare c b o:=by
  intro e
  have hu:=(G.verU r ver2 (by rw [← e,h1];rfl)).1
  obtain ⟨_,hl⟩:=K.loc r ver2 hu (by rw [h1];rfl)
  exact ⟨r,ver2,k2,nn,cs,off,n,cap,by rw [← e];exact h1,by rw [← hl];exact h2,h3,h4⟩
 rcases hH r with e | e | ⟨nn2,cs2,e,rfl⟩
 ·exact old e
 ·rw [h1] at e;cases e
 ·rw [h1] at e
  simp only [AObj.row.injEq] at e
  obtain ⟨rfl,rfl,rfl,rfl⟩:=e
  simp only [Rep] at hr
  have hl:=hr.2 (by rw [h1];rfl)
  rw [h2] at hl
  rcases g.lies b off n cap hl with h5 | ⟨r0,ver0,nn0,cs0,n0,h5,h6,h7⟩
  ·omega
  ·have:n0 * k2≤n * k2:=Y1q _ h7
   exact ⟨r0,ver0,k2,nn0,cs0,off,n0,cap,h5,h6,by omega,h4⟩
end
end Go.Ab
namespace Go.Ab
section
variable {P:Program} {w0:World} {outs:Nat→Prop} {N:Nat} {σ:St} {o:Oper} {a:Act} {c:Cz} {ver:Nat}
def okL:AI→Bool
 | .bsl _ _ _ | .app _ _ _ _ | .mov _ | .fad _ _ | .ld _ | .iad _ _ _=>true
 | _=>false
theorem inv_bsl {k:Nat} {fz:Bool} {ys:List AOpd} (h:cOp1 P o=some (.i (.bsl k fz ys))):∃ t len ps by_ z,o.op=.buildSlice t len ps∧cElem P t=some (k,by_,z)∧cParts 0 ps.toList=some ys∧ys.length=len∧len * k≤2 ^ 24:=by
 unfold cOp1 at h
 split at h <;> first
  | (exfalso;simp only [Y1w] at h;obtain ⟨b,hb',e⟩:=h;cases e;done)
  | (rename_i ho _;split at h
     ·rename_i h1 h2
      split at h
      ·rename_i h3;cases h;exact ⟨_,_,_,_,_,ho,h1,h2,h3.1,h3.2⟩
      ·cases h
     ·cases h)
  | (exfalso;repeat' split at h) <;> first | (cases h;done) | (simp at h;done)
theorem inv_app {k by_:Nat} {y1 y2:AOpd} (h:cOp1 P o=some (.i (.app k by_ y1 y2))):∃ args ts t x1 x2 z,o.op=.call { callee:=.builtin .append,args:=args,argTypes:=ts }∧args.toList=[x1,x2]∧ts.toList=[t,t]∧cElem P t=some (k,by_,z)∧cOpd x1=some y1∧cOpd x2=some y2:=by
 unfold cOp1 at h
 split at h <;> first
  | (exfalso;simp only [Y1w] at h;obtain ⟨b,hb',e⟩:=h;cases e;done)
  | (rename_i ho _;split at h
     ·rename_i h1 h2
      split at h
      ·rename_i h3 h4 h5
       split at h
       ·rename_i h6;cases h;subst h6;exact ⟨_,_,_,_,_,_,ho,h1,h2,h3,h4,h5⟩
       ·cases h
      ·cases h
     ·cases h)
  | (exfalso;repeat' split at h) <;> first | (cases h;done) | (simp at h;done)
theorem late_i {x:AI} (hx:okL x=true) (hc:cOp P N o=some (.i x)) (S:Sim w0 outs N σ a c) (hv:¬ c.used ver) (hp:x.pre σ (o.dst.getD 0)) :
  ∃ v c',(execOp a.eval o).run P c.w=.ok (.value v) c'.w∧Good w0 outs c'∧Keeps c c'∧c'.hp=x.hpw σ ver (o.dst.getD 0)∧Rep c' (x.out σ ver (o.dst.getD 0)) v ∧
   (∀ u,c'.used u→c.used u∨u=ver)∧c'.ext=c.ext∧c'.base=c.base∧Fram c c':=by
 obtain ⟨⟨v,c',hrun,G',K',hhp,hrep,hu,hx',hb⟩,_,_⟩:=yzbf (ver:=ver) hc S hv hp
 have hc0:=hc
 unfold cOp at hc
 by_cases hd:dstBad N o.dst=true
 ·rw [if_pos hd] at hc;cases hc
 rw [if_neg hd] at hc
 have fin:∀ {k:Nat} {v0:Value} {w:World},(execOp a.eval o).run P c.w=.ok (.value v0) w→Grew c k v0 w →
   (∀ q,x.hpw σ ver (o.dst.getD 0) q=σ.hp q∨x.hpw σ ver (o.dst.getD 0) q=.gone∨∃ nn cs,x.hpw σ ver (o.dst.getD 0) q=.row ver k nn cs∧x.out σ ver (o.dst.getD 0)=.own q ver) →
   ∃ v c',(execOp a.eval o).run P c.w=.ok (.value v) c'.w∧Good w0 outs c'∧Keeps c c'∧c'.hp=x.hpw σ ver (o.dst.getD 0)∧Rep c' (x.out σ ver (o.dst.getD 0)) v ∧
   (∀ u,c'.used u→c.used u∨u=ver)∧c'.ext=c.ext∧c'.base=c.base∧Fram c c':=by
  intro k v0 w hr g hH
  rcases hrun with hrun | ⟨_,hrun⟩
  ·rw [hr] at hrun
   simp only [Result.ok.injEq,Next.value.injEq] at hrun
   obtain ⟨rfl,rfl⟩:=hrun
   refine ⟨v0,c',hr,G',K',hhp,hrep,hu,hx',hb,fram_of S.good K' g rfl hv hrep fun q=>?_⟩
   rw [hhp,S.hp];exact hH q
  ·rw [hr] at hrun;simp at hrun
 by_cases hE:okE x=true
 ·obtain ⟨v0,hr,_,_⟩:=early_i (ver:=ver) hE hc0 S hp
  have hr:=hr c.w (Fram.refl c).held
  rcases hrun with hrun | ⟨_,hrun⟩
  ·rw [hr] at hrun
   simp only [Result.ok.injEq,Next.value.injEq] at hrun
   obtain ⟨rfl,hw⟩:=hrun
   have hh:x.hpw σ ver (o.dst.getD 0)=σ.hp:=by cases x <;> first | rfl | (cases hE;done)
   refine ⟨v0,c',by rw [← hw];exact hr,G',K',hhp,hrep,hu,hx',hb,⟨by rw [← hw];exact (Fram.refl c).held,by rw [← hw];exact Y1h _,?_⟩⟩
   rintro b o' hb' ⟨r,ver2,k2,nn,cs,off,n,cap,h1,h2,h3,h4⟩
   have e:c'.hp r=c.hp r:=by rw [hhp,hh,S.hp]
   have hu2:=(S.good.verU r ver2 (by rw [← e,h1];rfl)).1
   obtain ⟨_,hl⟩:=K'.loc r ver2 hu2 (by rw [h1];rfl)
   exact ⟨r,ver2,k2,nn,cs,off,n,cap,by rw [← e];exact h1,by rw [← hl];exact h2,h3,h4⟩
  ·rw [hr] at hrun;simp at hrun
 cases x with
 | mov _ | fad _ _ | ld _ | iad _ _ _=>exact absurd rfl hE
 | bsl k fz ys =>
  obtain ⟨t,len,ps,by_,z,ho,ht,h1,h2,h3⟩:=inv_bsl hc
  obtain ⟨v0,w,hr,g⟩:=grew_bsl S ho ht h1 h2 h3 hp
  refine fin hr g fun q=>?_
  simp only [AI.hpw,AI.out]
  by_cases e:q=o.dst.getD 0
  ·right;right
   rw [if_pos e,e];exact ⟨_,_,rfl,rfl⟩
  ·rw [if_neg e]
   split
   ·exact .inr (.inl rfl)
   ·exact .inl rfl
 | app k by_ y1 y2 =>
  obtain ⟨args,ts,t,x1,x2,z,ho,ha,hts,ht,h1,h2⟩:=inv_app hc
  obtain ⟨v0,w,hr,g⟩:=grew_app S ho ha hts ht h1 h2 hp
  refine fin hr g fun q=>?_
  simp only [AI.hpw,AI.out]
  cases hA:σ.ev y1 with
  | own r v1 =>
   simp only []
   cases hr2:σ.hp r with
   | row v2 k2 nn cs =>
    simp only []
    by_cases e:q=r
    ·right;right
     rw [if_pos e,e];exact ⟨_,_,rfl,rfl⟩
    ·rw [if_neg e];exact .inl rfl
   | _=>exact .inl rfl
  | _ =>
   simp only []
   by_cases e0:(σ.slc (σ.ev y2)).length=0
   ·rw [if_pos e0];exact .inl rfl
   ·rw [if_neg e0,if_neg e0]
    by_cases e:q=o.dst.getD 0
    ·right;right
     rw [if_pos e,e];exact ⟨_,_,rfl,rfl⟩
    ·rw [if_neg e];exact .inl rfl
 | _=>cases hx
end
section
variable {P:Program} {ops:Array Oper} {Q:Exit→Act→World→Prop} {md:Region.Mode} {S:World→Prop}
def wpAnyE (P:Program) (md:Region.Mode) (ops:Array Oper) (Q:Exit→Act→World→Prop) (S:World→Prop) (n1:Nat):Nat→Array Bool→Act→World→Prop
 | 0,listed,a,w=>Region.ready md ops listed=[]∧Q .normal a w
 | fuel+1,listed,a,w =>
  (Region.ready md ops listed=[]→Q .normal a w) ∧
  ∀ i∈Region.ready md ops listed,Go.wpOp P ops Q i (fun a' w'=>(i≠n1→S w')∧wpAnyE P md ops Q S n1 fuel (listed.setIfInBounds i true) a' w') a w
theorem yz75 {n1:Nat}:∀ (fuel:Nat) (listed:Array Bool) (a:Act) (w:World),wpAnyE P md ops Q S n1 fuel listed a w→Go.wpAny P md ops Q fuel listed a w
 | 0,_,_,_,h=>h
 | fuel+1,_,_,_,h=>⟨h.1,fun i hi=>Go.wpOp_mono (fun a' w' h'=>yz75 fuel _ a' w' h'.2) (h.2 i hi)⟩
theorem Closed.step {listed:Array Bool} (hcl:Closed ops listed) {i:Nat} (hi:i∈Region.ready .any ops listed):Closed ops (listed.setIfInBounds i true):=by
 obtain ⟨h1,o,ho,hall⟩:=mem_ready.1 hi
 intro k o' ho' hk' j hj
 refine getD_set_true ?_
 by_cases e:k=i
 ·subst e
  rw [ho] at ho'
  simp only [Option.some.injEq] at ho';subst ho'
  obtain ⟨e,he,hb,rfl⟩:=yz41 hj
  exact hall e he hb
 ·rw [getD_set_ne true (Ne.symm e)] at hk'
  exact hcl k o' ho' hk' j hj
theorem yz9h {n1:Nat} {i:Nat} {oi:Oper} {v:Value} (hi:ops[i]?=some oi) (hsel:∀ (j:Nat) (o:Oper) cs b,ops[j]?=some o→o.op≠.select cs b)
  (hanc:Ahead ops n1 i) (hQ:∀ c a w,Q (.panic c) (a.put oi.dst v) w→Q (.panic c) a w) :
  ∀ (fuel:Nat) (listed:Array Bool) (a:Act) (w:World),Closed ops listed →
   (∀ j oj,ops[j]?=some oj→j≠i→listed.getD j true=false→(∀ e∈oj.after,Region.binds .any e=true→e.on≠i)→oi.apart ops oj=true) →
   i∈Region.ready .any ops listed→YieldsIf P ops S oi v a→S w →
   wpAnyE P .any ops Q S n1 fuel (listed.setIfInBounds i true) (a.put oi.dst v) w→wpAnyE P .any ops Q S n1 (fuel+1) listed a w:=by
 intro fuel
 induction fuel with
 | zero =>
  intro listed a w _ _ hr hy hS H
  refine ⟨fun h=>(by rw [h] at hr;cases hr),fun j hj=>?_⟩
  by_cases hji:j=i
  ·subst hji;exact hy.wpOp hi hS ⟨fun _=>hS,H⟩
  ·have:=ready_mono hj hji
   rw [H.1] at this
   cases this
 | succ fuel ih =>
  intro listed a w hcl hfree hr hy hS H
  refine ⟨fun h=>(by rw [h] at hr;cases hr),fun j hj=>?_⟩
  by_cases hji:j=i
  ·subst hji;exact hy.wpOp hi hS ⟨fun _=>hS,H⟩
  ·have h1:=H.2 j (ready_mono hj hji)
   obtain ⟨hjun,oj,hoj,hall⟩:=mem_ready.1 hj
   have hjn:j≠n1:=by
    rintro rfl
    have h2:=yz1x hcl hanc fun o' ho' k hk=>by
     rw [hoj] at ho'
     simp only [Option.some.injEq] at ho';subst ho'
     obtain ⟨e,he,hb,rfl⟩:=yz41 hk
     exact hall e he hb
    have h3:=(mem_ready.1 hr).1
    rw [yz83 h2] at h3;cases h3
   have hnot:∀ e∈oj.after,Region.binds .any e=true→e.on≠i:=fun e he hb heq=>by
    have h1:=hall e he hb
    have h0:=(mem_ready.1 hr).1
    rw [heq] at h1
    rcases Nat.lt_or_ge i listed.size with h' | h'
    ·simp [h'] at h0 h1;rw [h0] at h1;cases h1
    ·simp [Array.getElem?_eq_none h'] at h1
   have h2:=wpOp_putIf hoj (hfree j oj hoj hji hjun hnot) (fun cs b=>hsel i oi cs b hi) (fun cs b=>hsel j oj cs b hoj) hQ hy h1
   have hfree':∀ k ok,ops[k]?=some ok→k≠i→(listed.setIfInBounds j true).getD k true=false →
     (∀ e∈ok.after,Region.binds .any e=true→e.on≠i)→oi.apart ops ok=true:=fun k ok hk hki hun hno=>by
    refine hfree k ok hk hki ?_ hno
    by_cases hjk:j=k
    ·subst hjk;exact hjun
    ·rw [getD_set_ne true hjk] at hun;exact hun
   refine Go.wpOp_mono (fun a' w' h3=>⟨fun _=>h3.2.1 hjn,ih (listed.setIfInBounds j true) a' w' (hcl.step hj) hfree' (ready_mono hr (Ne.symm hji)) h3.1 (h3.2.1 hjn) ?_⟩) h2
   rw [Array.setIfInBounds_comm _ _ hji]
   exact h3.2.2
end
end Go.Ab
namespace Go.Ab
def early (ops:Array Oper) (xs:List AOp):List Nat :=
 (Ya ops.size).foldl (fun acc i=>if (match xs[i]?,ops[i]? with
  | some x,some o=>(match x.ins with | .i y=>okE y | _=>false) && x.grd.isNone && (edges o).all fun j=>acc.contains j
  | _,_=>false) then acc ++ [i] else acc) []
def chP (ops:Array Oper) (xs:List AOp):List Nat→Array Bool→Bool
 | [],_=>true
 | e :: es,listed=>(match xs[e]? with | some x=>(match x.ins with | .i y=>okE y | _=>false) && x.grd.isNone | none=>false) &&
   Region.free .any ops listed e && (Region.ready .any ops listed).contains e && chP ops xs es (listed.setIfInBounds e true)
def chE (ops:Array Oper) (xs:List AOp) (E:List Nat):Bool :=
 let an:=ancs ops.toList []
 let ys:=vary2 ops xs
 decide (0<ops.size) && Region.noSelect ops && chP ops xs E (Array.replicate ops.size false) && E.all (fun e=>(an.getD (ops.size - 1) []).contains e) &&
 (Ya (ops.size - 1)).all (fun k=>(an.getD (ops.size - 1) []).contains k) && !E.contains (ops.size - 1) &&
 (Ya ops.size).all fun i =>
  (match ops[i]? with | some o=>(edges o).all (fun j=>decide (j<i)) | none=>true) &&
  (E.contains i || ((match xs[i]? with | some x=>decide (i+1=ops.size) || (x.grd.isNone && (match x.ins with | .i z=>okL z | _=>false)) | none=>false) &&
   (match ys[i]? with
    | some y=>(Ya i).all fun k=>E.contains k || (an.getD i []).contains k || (match ys[k]? with | some x=>comm x y | none=>true)
    | none=>true)))
def lateOf (ops:Array Oper) (E:List Nat):List Nat:=(Ya ops.size).filter fun i=>!E.contains i
def noOp:AOp:=⟨none,none,.i (.mov (.t 0))⟩
def drE (ops:Array Oper) (xs:List AOp):Option (List AOp) :=
 let E:=early ops xs
 let L:=lateOf ops E
 if (chE ops xs E && decide (E.length+L.length=ops.size) && (Ya L.length).all (fun t=>(E ++ L).idxOf (L.getD t 0) == E.length+t))=true
 then some (E.map (fun i=>xs.getD i noOp) ++ L.map fun i=>(vary2 ops xs).getD i noOp) else none
def drW (no:Option (List Nat×List FuncId)) (ops:Array Oper) (xs:List AOp):Option (List AOp):=match drE ops xs with
 | some ys=>some ys
 | none=>drV no ops xs
section
variable {P:Program} {w0:World} {outsC:Nat→Prop} {N:Nat} {c0:Cz}
theorem yzf3 {ops:Array Oper} {xs ys:List AOp} {E:List Nat} {c1:Cz} {vs:Nat→Nat→Nat} {K:St→Prop} {Q:Exit→Act→World→Prop} (hlen:ops.size=ys.length)
  (hget:∀ (i:Nat) o y,ops[i]?=some o→ys[i]?=some y→∃ x,xs[i]?=some x∧cOper P N ops o=some x∧∃ wb sts nos ab la,y=x.m2 wb sts nos ab la)
  (hedge0:∀ (i:Nat) o,ops[i]?=some o→∀ j∈edges o,j<i)
  (hch:∀ i,i<ops.size→i ∉ E→(i+1=ops.size∨∀ x,xs[i]?=some x→x.grd=none∧∃ z,x.ins=.i z∧okL z=true)∧∀ y,ys[i]?=some y→∀ k,k<i→k ∉ E→Ahead ops i k∨∀ x,ys[k]?=some x→comm x y=true)
  (hlast:∀ k,k+1<ops.size→Ahead ops (ops.size - 1) k)
  (hinj:∀ i j i' j',i<ops.size→i'<ops.size→vs i j=vs i' j'→i=i'∧j=j') (hQ:∀ σ a c,Sim w0 outsC N σ a c→Hist c0 c→K σ→Q .normal a c.w) :
  ∀ (fuel:Nat) (listed:Array Bool) (rest:List (Nat×AOp)) (σ:St) (a:Act) (c:Cz),rest.length=fuel→listed.size=ops.size →
   (∀ i,listed.getD i true=false↔∃ x,(i,x)∈rest)→(∀ p∈rest,ys[p.1]?=some p.2∧p.1 ∉ E)→rest.Pairwise (fun p q=>p.1<q.1)→Closed ops listed →
   Sim w0 outsC N σ a c→Hist c0 c→(∀ p∈rest,∀ j,¬ c.used (vs p.1 j))→(rest=[]∨Fram c1 c)→wpL P vs rest σ K→wpAnyE P .any ops Q (Held c1) (ops.size - 1) fuel listed a c.w:=by
 intro fuel
 induction fuel with
 | zero =>
  intro listed rest σ a c hrl hls hun hrx hso hcl S H0 hnew _ h
  have:rest=[]:=Yh hrl
  subst this
  refine ⟨?_,hQ σ a c S H0 h⟩
  cases hr:Region.ready .any ops listed with
  | nil=>rfl
  | cons i is =>
   exfalso
   have hi:i∈Region.ready .any ops listed:=by rw [hr];simp
   obtain ⟨h1,_⟩:=mem_ready.1 hi
   obtain ⟨x,hx⟩:=(hun i).1 h1
   simp at hx
 | succ fuel ih =>
  intro listed rest σ a c hrl hls hun hrx hso hcl S H0 hnew hfr h
  have hlt:∀ i,listed.getD i true=false→i<ops.size:=by
   intro i hi
   by_cases h1:i<listed.size
   ·omega
   ·simp [Array.getD,h1] at hi
  have hft:∀ j,j<ops.size→listed.getD j true≠false→listed.getD j false=true:=by
   intro j hj hne
   have:j<listed.size:=by omega
   simp [Array.getD,this] at hne ⊢
   exact hne
  refine ⟨fun hr=>?_,fun i hi=>?_⟩
  ·exfalso
   cases hre:rest with
   | nil=>rw [hre] at hrl;simp at hrl
   | cons p rest' =>
    obtain ⟨i,x⟩:=p
    have hun1:=(hun i).2 ⟨x,by rw [hre];simp⟩
    have hi:=hlt i hun1
    have hmem:i∈Region.ready .any ops listed:=by
     refine mem_ready.2 ⟨hun1,ops[i],Y27 hi,fun e he hb=>?_⟩
     have hej:=hedge0 i _ (Y27 hi) e.on (yzb0 he hb)
     refine hft e.on (by omega) fun hu=>?_
     obtain ⟨x',hx'⟩:=(hun e.on).1 hu
     rw [hre] at hx' hso
     rcases Y8.1 hx' with e1 | e1
     ·simp only [Prod.mk.injEq] at e1;omega
     ·have:=(Yx.1 hso).1 _ e1
      simp only at this;omega
    rw [hr] at hmem;simp at hmem
  ·obtain ⟨h1,o,ho,hall⟩:=mem_ready.1 hi
   obtain ⟨y,hy⟩:=(hun i).1 h1
   have hilt:=hlt i h1
   have hfx:Fram c1 c:=by
    rcases hfr with h | h
    ·subst h;simp at hy
    ·exact h
   obtain ⟨pre,post,hsplit⟩:=List.append_of_mem hy
   subst hsplit
   obtain ⟨hxi,hiE⟩:=hrx _ hy
   simp only at hxi hiE
   have hedge:∀ o',ops[i]?=some o'→∀ j∈edges o',listed.getD j false=true:=by
    intro o' ho' j hj
    rw [ho] at ho'
    simp only [Option.some.injEq] at ho';subst ho'
    obtain ⟨e,he,hb,rfl⟩:=yz41 hj
    exact hall e he hb
   have hpre:∀ p∈pre,comm p.2 y=true∧∀ j,¬ c.used (vs p.1 j):=by
    intro p hp
    refine ⟨?_,hnew p (by simp [hp])⟩
    have hlt1:p.1<i:=by
     rw [Y12] at hso
     exact hso.2.2 p hp (i,y) (by simp)
    obtain ⟨hxp,hpE⟩:=hrx p (by simp [hp])
    rcases (hch i hilt hiE).2 y hxi p.1 hlt1 hpE with h2 | h2
    ·exfalso
     have h3:=yz83 (yz1x hcl h2 hedge)
     have h4:=(hun p.1).2 ⟨p.2,by simp [hp]⟩
     rw [h4] at h3;cases h3
    ·exact h2 _ hxp
   have hI:Inv c.used σ.tm σ.hp y:=by
    refine ⟨fun t _=>Rep.uses S.good _ _ (S.tm t),fun _ _ r v _ _=>?_⟩
    have:=ObjRep.uses S.good r
    rw [S.hp] at this;exact this
   have h2:=pull pre σ hpre hI h
   have h3:Ab.wpOp false (wpCk P true) (vs i) y σ (fun σ'=>wpL P vs (pre ++ post) σ' K):=by
    simp only [wpL] at h2
    cases hyH:isH y.ins with
    | true=>rw [hyH,if_pos rfl] at h2;exact h2
    | false=>rw [hyH,if_neg (by simp)] at h2;exact (yz69 hyH).2 h2
   obtain ⟨y0,hx0,hco,wb,sts,nos,ab,la,rfl⟩:=hget i o y ho hxi
   have h3:=m2_wp h3
   have hstep:Go.wpOp P ops Q i (fun a' w'=>∃ σ' c',wpL P vs (pre ++ post) σ' K∧Sim w0 outsC N σ' a' c'∧c'.w=w'∧Hist c0 c'∧(∀ u,c'.used u→c.used u∨∃ z,u=vs i z)∧(i+1=ops.size∨Fram c c')) a c.w:=by
    rcases (hch i hilt hiE).1 with hl | hl
    ·have h4:=yz9a (Q:=Q) (i:=i) ho hco S H0 (fun j=>hnew (i,_) hy j) (fun j j' e=>(hinj i j i j' hilt hilt e).2) h3
     refine Go.wpOp_mono ?_ h4
     rintro a' w' ⟨σ',c',hk,S',hw',H',hu⟩
     exact ⟨σ',c',hk,S',hw',H',hu,.inl hl⟩
    ·obtain ⟨hg,z,hz,hzL⟩:=hl _ hx0
     unfold cOper at hco
     split at hco
     ·rename_i g ins hgd hins
      simp only [Option.some.injEq] at hco;subst hco
      simp only at hg hz
      subst hg hz
      have hog:o.guard=none:=by
       cases hgd2:o.guard with
       | none=>rfl
       | some jw =>
        obtain ⟨j,w⟩:=jw
        rw [hgd2] at hgd
        simp only [cGuard,Y1w] at hgd
        obtain ⟨t,_,e⟩:=hgd
        cases e
      obtain ⟨hpre3,hk⟩:z.pre σ (o.dst.getD 0)∧(true=true→z.fact σ→wpL P vs (pre ++ post) (z.eff σ (vs i 0) o.dst) K):=⟨h3.1,fun _ hf=>h3.2 (fun _=>hf)⟩
      obtain ⟨_,hfact,hd⟩:=yzbf (ver:=vs i 0) hins S (hnew (i,_) hy 0) hpre3
      obtain ⟨v,c',hrun,G',K',hhp,hrep,hu,hx',hb,hF⟩:=late_i (ver:=vs i 0) hzL hins S (hnew (i,_) hy 0) hpre3
      have hS:=S.put K' G' hhp hrep hd
      have hw:Region.wanted o (yielded ops a.tmps)=true:=by simp [Region.wanted,hog]
      unfold Go.wpOp
      simp only [ho]
      rw [if_pos hw]
      refine .inl ?_
      unfold Oper.wp
      rw [hrun]
      exact ⟨_,c',hk rfl hfact,hS,rfl,H0.step K' hx' hb,fun u hu'=>by rcases hu u hu' with h | h;exact .inl h;exact .inr ⟨0,h⟩,.inr hF⟩
     ·cases hco
   refine Go.wpOp_mono ?_ hstep
   rintro a' w' ⟨σ',c',hk,S',rfl,H',hu,hF⟩
   have hsub:∀ p,p∈pre ++ post→p∈pre ++ (i,y0.m2 wb sts nos ab la) :: post:=by
    intro p hp
    rcases Y4.1 hp with h5 | h5
    ·exact Y4.2 (.inl h5)
    ·exact Y4.2 (.inr (Yt _ h5))
   have hne:∀ p,p∈pre ++ post→p.1≠i:=by
    intro p hp e
    rw [Y12,Yx] at hso
    rcases Y4.1 hp with h5 | h5
    ·have:=hso.2.2 p h5 (i,y0.m2 wb sts nos ab la) (by simp)
     simp only at this;omega
    ·have:=hso.2.1.1 p h5
     simp only at this;omega
   have hfr':pre ++ post=[]∨Fram c1 c':=by
    rcases hF with hl | hF
    ·left
     cases hpp:pre ++ post with
     | nil=>rfl
     | cons p ps =>
      exfalso
      have hp:p∈pre ++ post:=by rw [hpp];simp
      have hpl:=(hun p.1).2 ⟨p.2,hsub p hp⟩
      have hplt:=hlt _ hpl
      have hne':=hne p hp
      have h6:=hlast p.1 (by omega)
      have hi1:ops.size - 1=i:=by omega
      rw [hi1] at h6
      have h3:=yz83 (yz1x hcl h6 hedge)
      rw [hpl] at h3;cases h3
    ·exact .inr (hfx.trans hF)
   refine ⟨fun hin=>?_,ih (listed.setIfInBounds i true) (pre ++ post) σ' a' c' ?_ (by simpa using hls) ?_ (fun p hp=>hrx p (hsub p hp)) ?_ (hcl.step hi) S' H' ?_ hfr' hk⟩
   ·rcases hF with hl | hF
    ·omega
    ·exact (hfx.trans hF).held
   ·simp at hrl ⊢;omega
   ·intro k
    by_cases e:k=i
    ·subst e
     constructor
     ·intro h5
      have:k<listed.size:=by omega
      simp [Array.getD,this] at h5
     ·rintro ⟨x,hx⟩
      exact absurd rfl (hne _ hx)
    ·rw [getD_set_ne true (Ne.symm e),hun k]
     constructor
     ·rintro ⟨x,hx⟩
      refine ⟨x,?_⟩
      rcases Y4.1 hx with h5 | h5
      ·exact Y4.2 (.inl h5)
      ·rcases Y8.1 h5 with h6 | h6
       ·simp only [Prod.mk.injEq] at h6;exact absurd h6.1 e
       ·exact Y4.2 (.inr h6)
     ·rintro ⟨x,hx⟩
      exact ⟨x,hsub _ hx⟩
   ·rw [Y12] at hso ⊢
    exact ⟨hso.1,(Yx.1 hso.2.1).2,fun p hp q hq=>hso.2.2 p hp q (Yt _ hq)⟩
   ·intro p hp j hused
    rcases hu _ hused with h5 | ⟨z,h5⟩
    ·exact hnew p (hsub p hp) j h5
    ·have hplt:=hlt _ ((hun p.1).2 ⟨p.2,hsub p hp⟩)
     exact hne p hp (hinj _ _ _ _ hplt hilt h5).1
end
end Go.Ab
namespace Go.Ab
section
variable {P:Program} {w0:World} {outsC:Nat→Prop} {N:Nat} {c0:Cz}
theorem yz8x {vs vs':Nat→Nat→Nat} {g:Nat→AOp} {K:St→Prop}:∀ (l:List Nat) (q:Nat) (σ:St),(∀ (t:Nat) i,l[t]?=some i→vs' i=vs (q+t))→Ab.wpOps false (wpCk P true) vs q (l.map g) σ K→wpL P vs' (l.map fun i=>(i,g i)) σ K
 | [],_,_,_,h=>h
 | i :: l,q,σ,hv,h=>by
  have h0:=hv 0 i rfl
  have hs:∀ (t:Nat) j,l[t]?=some j→vs' j=vs (q+1+t):=fun t j hj=>by rw [hv (t+1) j (by simpa using hj)];congr 1;omega
  simp only [Y1,wpL]
  simp only [Y1,Ab.wpOps] at h
  rw [h0,Y1p]
  cases hx:isH (g i).ins with
  | true=>rw [if_pos rfl];exact yz4v (fun σ' hq=>yz8x l (q+1) σ' hs hq) h
  | false=>rw [if_neg (by simp)];exact yz28 (fun A r hq=>yz8x l (q+1) _ hs hq) ((yz69 hx).1 h)
theorem yz5x {ops:Array Oper} {xs:List AOp} {c1:Cz} {vs:Nat→Nat→Nat} {late:List AOp} {K:St→Prop} {Q:Exit→Act→World→Prop} {n1 fuel:Nat}
  (hsel:Region.noSelect ops=true) (hQ:∀ cc (a:Act) d v w,Q (.panic cc) (a.put d v) w→Q (.panic cc) a w)
  (hget:∀ (i:Nat) o x,ops[i]?=some o→xs[i]?=some x→cOper P N ops o=some x) (hlen:ops.size=xs.length)
  (hfree:∀ i j,¬ c1.used (vs i j)) :
  ∀ (es:List Nat) (q:Nat) (listed:Array Bool) (σ:St) (a:Act),chP ops xs es listed=true→Closed ops listed→(∀ e∈es,Ahead ops n1 e)→Sim w0 outsC N σ a c1 →
   Ab.wpOps false (wpCk P true) vs q (es.map (fun i=>xs.getD i noOp) ++ late) σ K →
   (∀ σ' a',Sim w0 outsC N σ' a' c1→Closed ops (es.foldl (fun l e=>l.setIfInBounds e true) listed)→Ab.wpOps false (wpCk P true) vs (q+es.length) late σ' K→wpAnyE P .any ops Q (Held c1) n1 fuel (es.foldl (fun l e=>l.setIfInBounds e true) listed) a' c1.w) →
   wpAnyE P .any ops Q (Held c1) n1 (fuel+es.length) listed a c1.w
 | [],q,listed,σ,a,_,hcl,_,S,h,hk=>hk σ a S hcl h
 | e :: es,q,listed,σ,a,hch,hcl,han,S,h,hk=>by
  simp only [chP,Y20] at hch
  obtain ⟨⟨⟨hx,hf⟩,hr⟩,hch⟩:=hch
  have hr':e∈Region.ready .any ops listed:=by simpa using hr
  obtain ⟨_,o,ho,_⟩:=mem_ready.1 hr'
  cases hxe:xs[e]? with
  | none=>rw [hxe] at hx;cases hx
  | some x =>
   rw [hxe] at hx
   simp only [Y20] at hx
   have hco:=hget e o x ho hxe
   have hgx:xs.getD e noOp=x:=by rw [Y0,hxe];rfl
   simp only [Y1,Yu,Ab.wpOps,hgx] at h
   unfold cOper at hco
   split at hco
   ·rename_i g ins hgd hins
    simp only [Option.some.injEq] at hco;subst hco
    obtain ⟨hx1,hx2⟩:=hx
    have hg:g=none:=by simpa using hx2
    subst hg
    cases ins with
    | i y =>
     simp only at hx1
     have hog:o.guard=none:=by
      cases hgd2:o.guard with
      | none=>rfl
      | some jw =>
       obtain ⟨j,w⟩:=jw
       rw [hgd2] at hgd
       simp only [cGuard,Y1w] at hgd
       obtain ⟨t,_,e⟩:=hgd
       cases e
     obtain ⟨hpre,hk1⟩:y.pre σ (o.dst.getD 0)∧(y.fact σ→Ab.wpOps false (wpCk P true) vs (q+1) (es.map (fun i=>xs.getD i noOp) ++ late) (y.eff σ (vs q 0) o.dst) K):=⟨h.1,fun hf=>h.2 (fun _=>hf)⟩
     obtain ⟨_,hfact,hd⟩:=yzbf (ver:=vs q 0) hins S (hfree q 0) hpre
     obtain ⟨v,hrun,hrep,_⟩:=early_i (ver:=vs q 0) hx1 hins S hpre
     have hw:Region.wanted o (yielded ops a.tmps)=true:=by simp [Region.wanted,hog]
     have hS:Sim w0 outsC N (y.eff σ (vs q 0) o.dst) (a.put o.dst v) c1:=by
      have hh:y.hpw σ (vs q 0) (o.dst.getD 0)=σ.hp:=by cases y <;> first | rfl | (cases hx1;done)
      have:=S.put (Keeps.refl c1) S.good (hh ▸ S.hp) hrep hd
      exact this
     have hrec:=yz5x hsel hQ hget hlen hfree es (q+1) (listed.setIfInBounds e true) _ _ hch (hcl.step hr') (fun e' he'=>han e' (by simp [he'])) hS (hk1 hfact)
      (fun σ' a' S' hc' h'=>hk σ' a' S' hc' (by rw [Ye,show q+(es.length+1)=q+1+es.length by omega];exact h'))
     rw [Ye,show fuel+(es.length+1)=(fuel+es.length)+1 by omega]
     exact yz9h ho (Region.noSelect_spec hsel) (han e (by simp)) (fun cc a' w=>hQ cc a' _ _ w) _ listed a _ hcl (Region.free_spec ho hf) hr' (.inl ⟨hw,hrun⟩) (Fram.refl c1).held hrec
    | _=>cases hx1
   ·cases hco
theorem yz4y {n:Nat}:∀ (es:List Nat) (l:Array Bool),l.size=n→(es.foldl (fun l e=>l.setIfInBounds e true) l).size=n ∧
  ∀ i,(es.foldl (fun l e=>l.setIfInBounds e true) l).getD i true=false↔l.getD i true=false∧i ∉ es
 | [],l,h=>⟨h,fun i=>by simp⟩
 | e :: es,l,h=>by
  obtain ⟨h1,h2⟩:=yz4y es (l.setIfInBounds e true) (by simpa using h)
  refine ⟨h1,fun i=>?_⟩
  rw [Ys,h2 i]
  by_cases hie:i=e
  ·subst hie
   constructor
   ·rintro ⟨h3,_⟩
    exfalso
    by_cases hlt:i<l.size
    ·simp [Array.getD,hlt] at h3
    ·simp [Array.getD,hlt] at h3
   ·rintro ⟨_,h3⟩;exact absurd List.mem_cons_self h3
  ·rw [getD_set_ne true (Ne.symm hie)]
   simp [hie]
theorem drawE_ok {no:Option (List Nat×List FuncId)} (hm:P.follows .mixedOrders=true):DrawOK P N (drW no):=by
 intro w0 outsC c0 id ops xs zs hxs hdr σ a c Q K hQ S H0 h
 unfold drW at hdr
 cases hE:drE ops xs with
 | none=>rw [hE] at hdr;exact yza7 hm w0 outsC c0 id ops xs zs hxs hdr σ a c Q K hQ S H0 h
 | some zs' =>
  rw [hE] at hdr
  simp only [Option.some.injEq] at hdr
  subst hdr
  unfold drE at hE
  simp only [] at hE
  generalize hEe:early ops xs=E at hE
  split at hE
  ·rename_i hck
   simp only [Option.some.injEq] at hE
   subst hE
   obtain ⟨S',H'⟩:=S.drawn H0 (c.w.drawn+1) (Nat.le_succ _)
   obtain ⟨vs,hnew,hfree⟩:=new_vs S'
   obtain ⟨hlen0,hget0⟩:=yz2g hxs
   have hlen:ops.size=xs.length:=by simpa using hlen0
   simp only [Y20,decide_eq_true_eq,chE] at hck
   obtain ⟨⟨⟨⟨⟨⟨⟨⟨hn0,hsel⟩,hP⟩,hanE⟩,hanL⟩,hEl⟩,hpairs⟩,hcount⟩,hidx⟩:=hck
   have hahead:∀ i k,k∈(ancs ops.toList []).getD i []→Ahead ops i k:=fun i k hk=>yz4x ops.toList [] (fun j=>by simp) (fun i k hk=>by simp at hk) i k hk
   have hanE':∀ e∈E,Ahead ops (ops.size - 1) e:=fun e he=>by
    rw [Yo] at hanE
    exact hahead _ _ (by simpa using hanE e he)
   have hanL':∀ k,k+1<ops.size→Ahead ops (ops.size - 1) k:=fun k hk=>by
    rw [Yo] at hanL
    exact hahead _ _ (by simpa using hanL k (Ym.2 (by omega)))
   rw [Yo] at hpairs
   refine Code.wp_mono (Q:=fun e a w=>e=.normal∧Q .normal a w) (fun e a w he=>by obtain ⟨rfl,he⟩:=he;exact he) (wp_region_any hm (yz75 (n1:=ops.size - 1) (S:=Held { c with w:={ c.w with drawn:=c.w.drawn+1 } }) _ _ _ _ ?_))
   have hcl0:Closed ops (Array.replicate ops.size false):=by
    intro i o ho hi
    exfalso
    have:i<ops.size:=(Array.getElem?_eq_some_iff.1 ho).1
    simp [Array.getD,this] at hi
   have hops:=h vs _ hnew
   have hLm:∀ i,i∈lateOf ops E↔i<ops.size∧i ∉ E:=by
    intro i;simp [lateOf,List.mem_filter]
   have hfu:∀ (X:Nat→Prop),X ((lateOf ops E).length+E.length)→X ops.size:=fun X hX=>by rw [← hcount,Nat.add_comm E.length];exact hX
   refine hfu (fun f=>wpAnyE P .any ops _ _ (ops.size - 1) f (Array.replicate ops.size false) a _) ?_
   have hq0:∀ cc (a:Act) (d:Option Tmp) (v:Value) w,(fun e a w=>e=Exit.normal∧Q .normal a w) (.panic cc) (a.put d v) w→(fun e a w=>e=Exit.normal∧Q .normal a w) (.panic cc) a w:=fun cc a d v w hh=>by cases hh.1
   refine yz5x (w0:=w0) (outsC:=outsC) (Q:=fun e a w=>e=Exit.normal∧Q .normal a w) hsel hq0 (fun i o x ho hx=>hget0 i o x (by simpa using ho) hx) hlen hfree E 0 (Array.replicate ops.size false) σ a hP hcl0 hanE' S' hops ?_
   intro σ' a' S'' hcl hlate
   rw [Y1o] at hlate
   obtain ⟨hsz,hlis⟩:=yz4y (n:=ops.size) E (Array.replicate ops.size false) (by simp)
   have hidx':∀ (t:Nat) i,(lateOf ops E)[t]?=some i→(E ++ lateOf ops E).idxOf i=E.length+t:=by
    intro t i hti
    rw [Yo] at hidx
    have hlt:t<(lateOf ops E).length:=(Yn.1 hti).1
    have h3:=hidx t (Ym.2 hlt)
    rw [Y0,hti,Y1x,beq_iff_eq] at h3
    exact h3
   have hmem:∀ i,i<ops.size→i∈E ++ lateOf ops E:=by
    intro i hi
    by_cases hE:i∈E
    ·exact Y4.2 (.inl hE)
    ·exact Y4.2 (.inr ((hLm i).2 ⟨hi,hE⟩))
   have hvl:(vary2 ops xs).length=xs.length:=by simp [vary2]
   have hL:=yz8x (vs':=fun i=>vs ((E ++ lateOf ops E).idxOf i)) (lateOf ops E) E.length σ' (fun t i hti=>by rw [hidx' t i hti]) hlate
   refine yzf3 (ys:=vary2 ops xs) (xs:=xs) (E:=E) (vs:=fun i=>vs ((E ++ lateOf ops E).idxOf i)) (by rw [hvl,hlen]) ?_ ?_ ?_ hanL' ?_ (fun σ a c S H hk=>⟨rfl,hQ σ a c S H hk⟩)
    _ _ ((lateOf ops E).map fun i=>(i,(vary2 ops xs).getD i noOp)) σ' a' _ (by simp) hsz ?_ ?_ ?_ hcl S'' H' ?_ (.inr (Fram.refl _)) hL
   ·intro i o y ho hy
    simp only [vary2,List.getElem?_mapIdx,Y1w] at hy
    obtain ⟨x,hx,rfl⟩:=hy
    exact ⟨x,hx,hget0 i o x (by simpa using ho) hx,_,_,_,_,_,rfl⟩
   ·intro i o ho j hj
    have h3:=hpairs i (Ym.2 (Array.getElem?_eq_some_iff.1 ho).1)
    rw [Y20] at h3
    have h4:=h3.1
    simp only [ho,Yo,decide_eq_true_eq] at h4
    exact h4 j hj
   ·intro i hi hiE
    have h3:=hpairs i (Ym.2 hi)
    rw [Y20,Y22,Y20] at h3
    rcases h3.2 with h4 | ⟨h4,h5⟩
    ·exact absurd (by simpa using h4) hiE
    ·refine ⟨?_,fun y hy k hk hkE=>?_⟩
     ·cases hxi:xs[i]? with
      | none=>rw [hxi] at h4;cases h4
      | some x =>
       rw [hxi] at h4
       simp only [Y22,decide_eq_true_eq,Y20] at h4
       rcases h4 with h4 | ⟨h4,h6⟩
       ·exact .inl h4
       ·right
        rintro x' hx'
        simp only [Option.some.injEq] at hx';subst hx'
        refine ⟨by simpa using h4,?_⟩
        cases hxx:x.ins with
        | i z=>rw [hxx] at h6;exact ⟨z,rfl,h6⟩
        | _=>rw [hxx] at h6;cases h6
     ·rw [hy] at h5
      simp only [Yo] at h5
      have h6:=h5 k (Ym.2 hk)
      rw [Y22,Y22] at h6
      rcases h6 with (h6 | h6) | h6
      ·exact absurd (by simpa using h6) hkE
      ·exact .inl (hahead _ _ (by simpa using h6))
      ·right
       intro x hx
       rw [hx] at h6;exact h6
   ·intro i j i' j' hi hi' e
    obtain ⟨h3,h4⟩:=hnew.inj _ _ _ _ e
    have h5:=List.idxOf_lt_length_iff.2 (hmem i hi)
    have h6:=List.idxOf_lt_length_iff.2 (hmem i' hi')
    have h7:=List.getElem_idxOf h5
    have h8:=List.getElem_idxOf h6
    refine ⟨?_,h4⟩
    rw [← h7,← h8];simp only [h3]
   ·intro i
    rw [hlis i]
    constructor
    ·rintro ⟨h3,h4⟩
     have hi:i<ops.size:=by
      by_cases hlt:i<ops.size
      ·exact hlt
      ·simp [Array.getD,hlt] at h3
     exact ⟨_,Y3.2 ⟨i,(hLm i).2 ⟨hi,h4⟩,rfl⟩⟩
    ·rintro ⟨x,hx⟩
     obtain ⟨i',hi',e⟩:=Y3.1 hx
     simp only [Prod.mk.injEq] at e
     obtain ⟨rfl,_⟩:=e
     obtain ⟨h3,h4⟩:=(hLm i').1 hi'
     exact ⟨by simp [Array.getD,h3],h4⟩
   ·intro p hp
    obtain ⟨i,hi,rfl⟩:=Y3.1 hp
    obtain ⟨h3,h4⟩:=(hLm i).1 hi
    refine ⟨?_,h4⟩
    simp only [Y0]
    rw [Y2 (by rw [hvl];omega),Y1x]
   ·rw [List.pairwise_map]
    exact List.Pairwise.filter _ List.pairwise_lt_range
   ·intro p _ j
    exact hfree _ _
  ·cases hE
end
theorem con_shE {P:Program} {g:FuncId} {F:AFn} (hm:P.follows .mixedOrders=true) {no:Option (List Nat×List FuncId)} (hF:cFn (drW no) P g F) {ins:List AObj} {args:List AVal} (hargs:args.length=F.nparams) (hins:ins.length≤1000)
  {R:List AObj→List AObj→AVal→Prop}
  (h:wpD P F.code (finQ fun σ=>(∀ x∈F.res,σ.there x)∧∃ ids:List Nat,ids.length≤1000∧ids.Nodup∧(∀ n∈ids,n<5000) ∧
   R ((Ya ins.length).map fun j=>(σ.hp (5000+j)).ren (expo ids) id) (ids.map fun n=>(σ.hp n).ren (expo ids) id) ((σ.value F.res).ren (expo ids) id)) (St.init args ins)):Con P g ins args true R:=by
 refine yz3w (drawE_ok hm) hF hargs hins (yzk _ _ _ _ (fun e σ he=>?_) h)
 have:(∀ x∈F.res,σ.there x)∧(∃ ids:List Nat,ids.length≤1000∧ids.Nodup∧(∀ n∈ids,n<5000) ∧
   R ((Ya ins.length).map fun j=>(σ.hp (5000+j)).ren (expo ids) id) (ids.map fun n=>(σ.hp n).ren (expo ids) id) ((σ.value F.res).ren (expo ids) id))→∃ ids,Ret ins.length true ids R F.res σ:=by
  rintro ⟨h1,ids,h2,h3,h4,h8⟩
  exact ⟨ids,h1,h8,hins,h2,h3,h4,fun e=>by cases e⟩
 cases e with
 | exit _=>exact he
 | normal=>exact this he
 | ret=>exact this he
end Go.Ab
