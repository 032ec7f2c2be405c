/-
law 22's document, plain: the pass through a block, the search on all ways.
-/
import Derived.Test.YtmcddolkpcgddaaZHazardFinds47
set_option maxHeartbeats 4000000
set_option maxRecDepth 100000
set_option linter.all false
namespace Go.Proofs.Ytmcddolkpcgddaa
open Go.ChangeShapes Go.WideShapes Go.ChangeAt Go.RowKit
section
structure AlP (m:Md) (p:Pr):Prop where
 ok:okP m p=true
 pr:quq p
 r0:0≤p.regs
 r40:p.regs≤40
 par:p.params≤p.regs
 objs:p.objs.length≤20
 globs:m.globs.length≤20
 procs:m.procs.length≤6
 blks:p.blks.length≤40
 ins:∀ b∈p.blks,b.ins.length≤60∧∀ i∈b.ins,i.args.length≤12
theorem q0g {m:Md} (hf:qia m=true) (hok:okM m=true) (hm:qtw m) {k:Nat} (hk:k<m.procs.length) (h40:(m.procs.getD k default).regs≤40):AlP m (m.procs.getD k default):=by
 have hmem:m.procs.getD k default∈m.procs:=by simp [List.getD,hk]
 have hP:okP m (m.procs.getD k default)=true:=qgf hok hk
 have hH:=qe7 hP
 obtain ⟨f1,f2,f3⟩:=qzn hf hmem
 have hf':=hf
 unfold qia at hf'
 simp only [Bool.and_eq_true,decide_eq_true_eq] at hf'
 refine ⟨hP,hm.procs _ hmem,?_,h40,hH.pr,f2,hf'.2.1,hf'.1,f1,fun b hb=>⟨(f3 b hb).1,fun i hi=>?_⟩⟩
 ·have:=hH.p0;have:=hH.pr;omega
 ·have:=(f3 b hb).2 i hi
  unfold qot at this
  simp only [Bool.and_eq_true,decide_eq_true_eq] at this
  exact this.2.2
section
variable {m:Md} {p:Pr}
theorem AlP.all (h:AlP m p):p.blks.all (okB m p)=true:=by
 have:=h.ok
 unfold okP at this
 simp only [Bool.and_eq_true] at this
 exact this.2
theorem AlP.okI (h:AlP m p) {b:Bk} (hb:b∈p.blks) {i:In} (hi:i∈b.ins):okI m p i=true:=by
 have h1:=List.all_eq_true.1 h.all b hb
 unfold okB at h1
 rw [Bool.and_eq_true] at h1
 exact List.all_eq_true.1 h1.1 i hi
theorem AlP.cons (h:AlP m p):qfp p (p.objs.length+m.globs.length+1):=by
 have h:=qme (m:=m) h.all
 exact ⟨fun c hc=>(h c hc).1,fun c hc=>(h c hc).2⟩
theorem qmz {n:Int} (h:qg9 n=true): -32768≤n∧n≤32768:=by
 unfold qg9 at h;simpa using h
theorem qjf {i:In} (h:okI m p i=true) (hm:qen i=true):q11 p.regs.toNat i∧qsf p.regs.toNat i:=by
 have hop:i.op=5∨i.op=6:=by unfold qen at hm;simpa using hm
 obtain ⟨-, -,hn⟩:=qda h
 obtain ⟨-,ha, -,hmo⟩:=hn (by omega)
 have ea:qdc i.op=true:=by rcases hop with e|e <;> rw [e] <;> rfl
 rw [ea] at ha
 have h1:=qbv ha rfl
 unfold qeb at hmo
 rw [if_neg (by omega),if_neg (by omega),if_pos hop] at hmo
 simp only [Bool.and_eq_true,Bool.or_eq_true,beq_iff_eq] at hmo
 have h2:=qmz hmo.2
 have key:(0≤i.a∧i.a<(p.regs.toNat:Int))∧(-100000≤i.off∧i.off≤100000)∧1≤i.size∧i.size≤4:=by omega
 exact ⟨key,key⟩
theorem qra (o:Nat):∀ (l:List In) (s:Sp),(∀ i∈l,(i.op=7∨i.op=8)→ -32768≤i.off∧i.off≤32768)→(-32768≤s.off∧s.off≤32768)→ -32768≤(l.foldl (spI o) s).off∧(l.foldl (spI o) s).off≤32768
 | [],s,_,h=>h
 | i::l,s,hl,h=>by
  refine qra o l _ (fun j hj=>hl j (List.mem_cons_of_mem _ hj)) ?_
  have h1:=hl i List.mem_cons_self
  unfold spI
  by_cases h7:i.op=7
  ·rw [if_pos h7];exact h1 (.inl h7)
  ·rw [if_neg h7]
   by_cases h8:i.op=8
   ·rw [if_pos h8];exact h1 (.inr h8)
   ·rw [if_neg h8];exact h
theorem AlP.exF_off (h:AlP m p) (r:Int): -100000≤(exF p r).off∧(exF p r).off≤100000:=by
 unfold exF
 split
 ·split
  ·have:=qra p.objs.length (qls p r.toNat) ⟨0,0,if ((r.toNat:Nat):Int)<p.params then 1 else 0,false⟩ (fun i hi hop=>by
    unfold qls q10 at hi
    rw [List.mem_filter,List.mem_flatMap] at hi
    obtain ⟨⟨b,hb,hib⟩, -⟩:=hi
    obtain ⟨-, -,hn⟩:=qda (h.okI hb hib)
    obtain ⟨-, -, -,hmo⟩:=hn (by omega)
    unfold qeb at hmo
    rcases hop with e|e
    ·rw [if_neg (by omega),if_neg (by omega),if_neg (by omega),if_pos e] at hmo
     simp only [Bool.and_eq_true] at hmo
     exact qmz hmo.2
    ·rw [if_neg (by omega),if_neg (by omega),if_neg (by omega),if_neg (by omega),if_pos e] at hmo
     simp only [Bool.and_eq_true] at hmo
     exact qmz hmo.2) ⟨by dsimp only;omega,by dsimp only;omega⟩
   unfold spP
   dsimp only
   omega
  ·exact (by decide:(-100000:Int)≤0∧(0:Int)≤100000)
 ·exact (by decide:(-100000:Int)≤0∧(0:Int)≤100000)
theorem AlP.exR_eq (h:AlP m p) (r:Int):exR p r=exF p r:=by
 by_cases h0:0≤r
 ·exact (qzu p r h0 h.par).symm
 ·have hp:=(qe7 h.ok).p0
  unfold exR exF
  rw [if_pos (.inl (by omega)),if_neg (by omega)]
theorem AlP.exR_off (h:AlP m p) (r:Int): -100000≤(exR p r).off∧(exR p r).off≤100000:=by rw [h.exR_eq];exact h.exF_off r
theorem AlP.obj8 (h:AlP m p):∀ b∈p.blks,∀ i∈b.ins,i.op=8→0≤i.obj∧i.obj≤1000:=qul h.all (by have:=h.globs;omega)
structure qdo (p:Pr) (T:Nat) (x:AS) (y:AR):Prop where
 ex:x.End p T
 ey:y.End p T
 cx:∀ c∈qeh p,c.holds x.sem
 cy:∀ c∈qeh p,c.holds fun o t=>(∀ r,o=some r→r<p.regs.toNat)∧y.sem o t
 bd:∀ o t,x.sem o t→t<T
variable {T:Nat} {x:AS} {y:AR}
theorem qdo.of (hx:x.End p T) (hy:y.End p T) (cx:∀ c∈qeh p,c.holds x.sem) (cy:∀ c∈qeh p,c.holds fun o t=>(∀ r,o=some r→r<p.regs.toNat)∧y.sem o t) (hc:qfp p T):qdo p T x y :=
 ⟨hx,hy,cx,cy,hx.bound hc.thing⟩
theorem qdo.get (h:qdo p T x y) (o:Option Nat) (ho:∀ r,o=some r→r<p.regs.toNat) (t:Nat):(y.get o).getD t false=(x.get o).testBit t:=by
 have:=qsp h.ex h.ey h.cx h.cy o ho t
 unfold AS.sem AR.sem at this
 rw [Bool.eq_iff_iff];exact this.symm
theorem qdo.reg (h:qdo p T x y) {r:Nat} (hr:r<p.regs.toNat) (t:Nat):(y.regs.getD r []).getD t false=(x.regs.getD r 0).testBit t:=h.get (some r) (fun q e=>by cases e;exact hr) t
theorem qdo.len (h:qdo p T x y) {r:Nat} (hr:r<p.regs.toNat):(y.regs.getD r []).length=T:=h.ey.ok.get (some r) fun q e=>by cases e;exact hr
theorem qdo.any (h:qdo p T x y) {a b:Nat} (ha:a<p.regs.toNat) (hb:b<p.regs.toNat):((x.regs.getD a 0 &&& x.regs.getD b 0) !=0)=qtm (y.regs.getD a []) (y.regs.getD b []) T:=by
 rw [Bool.eq_iff_iff,bne_iff_ne]
 constructor
 ·intro hne
  obtain ⟨t,ht⟩:=Nat.exists_testBit_of_ne_zero hne
  rw [Nat.testBit_and,Bool.and_eq_true] at ht
  unfold qtm
  rw [List.any_eq_true]
  refine ⟨t,List.mem_range.2 (h.bd (some a) t ht.1),?_⟩
  rw [h.reg ha,h.reg hb,ht.1,ht.2];rfl
 ·intro hany h0
  unfold qtm at hany
  rw [List.any_eq_true] at hany
  obtain ⟨t, -,ht⟩:=hany
  rw [h.reg ha,h.reg hb,←Nat.testBit_and,h0] at ht
  simp at ht
theorem qq0 (h:qdo p T x y) (hp:AlP m p) {k:VwK} {sp:List Sp} (hbl:k.bs.length=p.regs.toNat) (hsp:∀ r,r<p.regs.toNat→sp.getD r default=spP p r) {a b:In} (ha:okI m p a=true) (hb:okI m p b=true):qbe k x sp a b=qc0 y T p a b:=by
 unfold qbe qc0
 rw [qit hbl hp.r0 hsp,qit hbl hp.r0 hsp,hp.exR_eq,hp.exR_eq]
 cases m1:qen a
 ·simp
 ·cases m2:qen b
  ·simp
  ·obtain ⟨⟨⟨a0,a1⟩, -⟩, -⟩:=qjf ha m1
   obtain ⟨⟨⟨b0,b1⟩, -⟩, -⟩:=qjf hb m2
   rw [h.any (by omega) (by omega)]
end
end
section
theorem qie (b:Bool):b=false∨b=true:=by cases b <;> simp
theorem qla {m:Md} {p:Pr} (h:okP m p=true):∀ j,j<p.blks.length→∀ t∈qbr (p.blks.getD j default),0≤t∧t<(p.blks.length:Int):=fun j hj t ht=>by
 have he:=qi9 (qjm h hj)
 generalize p.blks.getD j default=b at *
 unfold qha qco at he
 by_cases h1:b.fin=1
 ·rw [if_pos h1] at he
  rw [qh8 b (.inl h1)] at ht
  simp only [Bool.and_eq_true,decide_eq_true_eq] at he
  have e:t=b.to:=by simpa using ht
  rw [e];exact he.1
 ·rw [if_neg h1] at he
  by_cases h2:b.fin=2
  ·rw [if_pos h2] at he
   simp only [Bool.and_eq_true,decide_eq_true_eq] at he
   by_cases hc:b.to=b.els
   ·rw [qh8 b (.inr ⟨h2,hc⟩)] at ht
    have e:t=b.to:=by simpa using ht
    rw [e];exact he.1
   ·rw [qm2 b (fun hh=>by rcases hh with hh|hh;exact h1 hh;exact hc hh.2) h2] at ht
    simp only [List.mem_cons,List.not_mem_nil,or_false] at ht
    rcases ht with e|e
    ·rw [e];exact he.1
    ·rw [e];exact he.2.1
  ·rw [qng b h1 h2] at ht
   cases ht
theorem AlP.fi {m:Md} {n:Nat} (h:AlP m (m.procs.getD n default)) (hn:n<m.procs.length):FiA m n where
 hn:=hn
 pl:=by have:=h.procs;omega
 gl:=h.globs
 r0:=h.r0
 r40:=h.r40
 ob:=h.objs
 ok:=h.ok
 pr:=h.pr
 b0:=(qe7 h.ok).b1
 bl:=h.blks
 il:=fun b hb=>⟨Nat.le_trans (h.ins b hb).1 (by decide),(h.ins b hb).2⟩
 ou:=qla h.ok
 ac:=fun b hb i hi hm=>(qjf (h.okI hb hi) hm).1
 hof:=h.exF_off
end
section
theorem qz7 {w:World} {b:Nat} {t:TypeId} {c0 c1 c2 c3 c4 c5 c6 c7 c8:Value} (h:w.heap[b]?=some (.cells #[c0,c1,c2,c3,c4,c5,c6,c7,c8] t (0,0))) :
  w.cell? ⟨b,0,none⟩=some c0∧w.cell? ⟨b,1,none⟩=some c1∧w.cell? ⟨b,2,none⟩=some c2∧w.cell? ⟨b,3,none⟩=some c3∧w.cell? ⟨b,4,none⟩=some c4∧w.cell? ⟨b,5,none⟩=some c5∧w.cell? ⟨b,6,none⟩=some c6∧w.cell? ⟨b,7,none⟩=some c7∧w.cell? ⟨b,8,none⟩=some c8∧b<w.heap.size :=
 ⟨qab h 0,qab h 1,qab h 2,qab h 3,qab h 4,qab h 5,qab h 6,qab h 7,qab h 8,(qkp h).1⟩
def qnq (nm:ByteArray) (p:Pr) (vo vb:Value) (k:AlK) (vA:Value):Obj:=.cells #[.string nm,.bool p.void,.int .i64 p.params,.int .i64 p.regs,vo,vb,k.vr,qbf k.ro.1 k.T k.ro.2,vA] 99
structure MtA (k:AlK) (p:Pr):Prop where
 T:k.T≤1000
 n:k.n≤1000
 hof:∀ r, -100000≤(exR p r).off∧(exR p r).off≤100000
 bl:p.blks.length≤1000
 il:∀ b∈p.blks,b.ins.length≤1000
 ol:p.objs.length≤1000
 ob:∀ b∈p.blks,∀ i∈b.ins,i.op=8→0≤i.obj∧i.obj≤1000
theorem qzw (w0 W:World) (bF:Nat) (nm:ByteArray) (p:Pr) (vo vb:Value) (k:AlK) (x:AR) (vA:Value) (ld i:In) (vl vi:Value) (r:Int)
  (hbx:W.heap[bF]?=some (qnq nm p vo vb k vA)) (hal:AlM w0 W k x) (hp:PrV W (.agg #[.string nm,.bool p.void,.int .i64 p.params,.int .i64 p.regs,vo,vb]) p) (hA:MtA k p) (h1:qen ld=true→qsf k.n ld) (h2:qen i=true→qsf k.n i) (hvl:RdI W vl ld.args) (hvi:RdI W vi i.args) :
  Calls Try.prog 104 #[.pointer (some ⟨bF,0,none⟩),qbu ld vl,.int .i64 r,qbu i vi] W fun e w'=>e=.returned (.bool (qde (qc0 x k.T p) ld r i))∧Below W.heap.size W w':=by
 have HM:=qkm (fun W' (hb:Below W.heap.size W W')=>qv4 w0 k x p ld i vl vi (.agg #[.string nm,.bool p.void,.int .i64 p.params,.int .i64 p.regs,vo,vb]) W' (hal.grow hb) (hp.ext (Ext.below hb)) hA.T hA.n h1 h2 hA.hof hA.bl hA.il hA.ol hA.ob)
 have HD:=qkm (fun W' (hb:Below W.heap.size W W')=>qta i (qbu i vi) W' ⟨vi,rfl,hvi.ext (Ext.below hb)⟩)
 have HU:Hid (qde (qc0 x k.T p) ld r i=if 0≤r then qbn i ==r else i.op ==6 && qc0 x k.T p ld i):=rfl
 obtain ⟨al,cl,rfl, -⟩:=hvl
 obtain ⟨ai,ci,rfl, -⟩:=hvi
 have lbF:=(qkp hbx).1
 obtain ⟨W0,hW0⟩:∃ W0,W0=qbj W [(.cells #[.int .i64 ld.op,.int .i64 ld.d,.int .i64 ld.a,.int .i64 ld.b,.int .i64 ld.fn,.int .i64 ld.obj,.int .i64 ld.off,.int .i64 ld.size,.int .u32 ld.num,.slice al ld.args.length cl,.bool ld.log] 58),(.cells #[.int .i64 i.op,.int .i64 i.d,.int .i64 i.a,.int .i64 i.b,.int .i64 i.fn,.int .i64 i.obj,.int .i64 i.off,.int .i64 i.size,.int .u32 i.num,.slice ai i.args.length ci,.bool i.log] 58)]:=⟨_,rfl⟩
 have B0:Hid (Below W.heap.size W W0):=by rw [hW0];exact qa0 _ _
 have H0:Hid (W0.heap[W.heap.size]?=some (.cells #[.int .i64 ld.op,.int .i64 ld.d,.int .i64 ld.a,.int .i64 ld.b,.int .i64 ld.fn,.int .i64 ld.obj,.int .i64 ld.off,.int .i64 ld.size,.int .u32 ld.num,.slice al ld.args.length cl,.bool ld.log] 58)):=by rw [hW0];exact qai _ W 0 (by simp)
 have H1:Hid (W0.heap[W.heap.size+1]?=some (.cells #[.int .i64 i.op,.int .i64 i.d,.int .i64 i.a,.int .i64 i.b,.int .i64 i.fn,.int .i64 i.obj,.int .i64 i.off,.int .i64 i.size,.int .u32 i.num,.slice ai i.args.length ci,.bool i.log] 58)):=by rw [hW0];exact qai _ W 1 (by simp)
 have HB:=qkm ((B0.out.block _ lbF).trans hbx)
 unfold qbj at hW0
 simp only [List.foldl_cons,List.foldl_nil] at hW0
 have HW0:=qkm hW0.symm
 clear hW0 hbx hal hp hA h1 h2
 unfold qbu at *
 generalize qc0 x k.T p ld i=MR at *
 generalize qde (qc0 x k.T p) ld r i=RES at *
 generalize qbn i=d at *
 by_cases hr:0≤r
 ·have g1:decide (r ≥ 0)=true:=qkn hr
  have g2:decide (0≤r)=true:=qkn hr
  rw [if_pos hr] at HU
  go_enter Try.func104,Try.ntmps104
  go_upto_region 1 with (fail)
  rw [HW0.out]
  obtain ⟨x0,x1,x2,x3,x4,x5,x6,x7,x8,x9,x10,l0⟩:=qau H1.out
  go_wp2_with fail
  refine (HD.out W0 B0.out).mono ?_
  rintro e w1 ⟨rfl,hb1⟩
  have B1:=qkm (B0.out.trans (hb1.mono B0.out.size))
  clear hb1
  rcases qie (d ==r) with hd|hd
  ·have q1:decide (d=r)=false:=qko (by simpa using hd)
   go_wp2_with fail
   go_ret
   exact ⟨qah (by rw [HU.out,hd]),B1.out⟩
  ·have q1:decide (d=r)=true:=qkn (by simpa using hd)
   go_wp2_with fail
   go_ret
   exact ⟨qah (by rw [HU.out,hd]),B1.out⟩
 ·have g1:decide (r ≥ 0)=false:=qko hr
  have g2:decide (0≤r)=false:=qko hr
  rw [if_neg hr] at HU
  obtain ⟨x0,x1,x2,x3,x4,x5,x6,x7,x8,x9,x10,l0⟩:=qau H1.out
  rcases qie (i.op ==6) with h6|h6
  ·rw [h6] at HU
   go_enter Try.func104,Try.ntmps104
   go_upto_region 1 with (fail)
   rw [HW0.out]
   go_wp2_with fail
   go_quiet (fail)
   go_wp2_with fail
   go_ret
   exact ⟨qah (by rw [HU.out];rfl),B0.out.trans ⟨rfl,rfl,rfl,Nat.le_refl _,fun _ _=>rfl⟩⟩
  ·rw [h6] at HU
   obtain ⟨y0,y1,y2,y3,y4,y5,y6,y7,y8,y9,y10,m0⟩:=qau H0.out
   have HB2:Hid (W0.heap[bF]?=some (.cells #[.string nm,.bool p.void,.int .i64 p.params,.int .i64 p.regs,vo,vb,k.vr,.slice (some ⟨k.ro.1,0,none⟩) k.T k.ro.2,vA] 99)):=HB.out
   obtain ⟨z0,z1,z2,z3,z4,z5,z6,z7,z8,k0⟩:=qz7 HB2.out
   have HM:Hid (∀ W',Below W.heap.size W W'→Calls Try.prog 122 #[.agg #[k.vr,.slice (some ⟨k.ro.1,0,none⟩) k.T k.ro.2],.agg #[.string nm,.bool p.void,.int .i64 p.params,.int .i64 p.regs,vo,vb],.agg #[.int .i64 ld.op,.int .i64 ld.d,.int .i64 ld.a,.int .i64 ld.b,.int .i64 ld.fn,.int .i64 ld.obj,.int .i64 ld.off,.int .i64 ld.size,.int .u32 ld.num,.slice al ld.args.length cl,.bool ld.log],.agg #[.int .i64 i.op,.int .i64 i.d,.int .i64 i.a,.int .i64 i.b,.int .i64 i.fn,.int .i64 i.obj,.int .i64 i.off,.int .i64 i.size,.int .u32 i.num,.slice ai i.args.length ci,.bool i.log]] W' fun e w''=>e=.returned (.bool MR)∧Below W'.heap.size W' w''):=HM.out
   clear HB HB2 hr
   go_enter Try.func104,Try.ntmps104
   go_upto_region 1 with (fail)
   rw [HW0.out]
   go_upto_region 3 with (fail)
   refine qak (fun _=>True) (by kernel_rfl) ?_
   refine qan [0,1,2,3,4,5,6,7,8,9,10,11,12,13] _ _ _ _ (by kernel_rfl) ?_
   simp only [qka,qkb,qkc,qkd,qke,qkf,qkg,qkh,qki,Nat.reduceAdd,Nat.reduceSub]
   repeat (go_big_quiet_step (fail))
   refine wpQuiet_nil ?_
   clear x0 x1 x2 x3 x4 x5 x6 x7 x8 x9 x10 y0 y1 y2 y3 y4 y5 y6 y7 y8 y9 y10 z0 z1 z2 z3 z4 z5 z6 z7 z8
   refine qay 14 _ rfl (by kernel_rfl) ?_
   simp only [qkj,qkk,qkl]
   intro wj hj
   go_wp2_with fail
   refine (HM.out wj (B0.out.trans (hj.mono B0.out.size))).mono ?_
   rintro e w2 ⟨rfl,hb2⟩
   go_wp2_with fail
   refine ⟨qa3.below hb2,?_⟩
   have BB:=qkm (B0.out.trans ((hj.trans (hb2.mono hj.size)).mono B0.out.size))
   clear hj hb2
   refine qan [15,16] _ _ _ _ (by kernel_rfl) ?_
   simp only [qka,qkb,qkc,qkd,qke,qkf,qkg,qkh,qki,Nat.reduceAdd,Nat.reduceSub]
   repeat (go_big_quiet_step (fail))
   refine wpQuiet_nil ?_
   refine qbh (by kernel_rfl) (fun wm hm=>?_) _
   have BB:=qkm (BB.out.trans (hm.mono BB.out.size))
   go_wp2_with fail
   go_ret
   exact ⟨qah (by rw [HU.out];rfl),BB.out⟩
end
section
def qfg (p:Pr) (meet:In→In→Bool) (ld:In) (r:Int) (n from' i j:Nat):Prop :=
 i=n∧from'≤j∧qbc (((p.blks.getD n default).ins.take (j+1)).drop from')=true∧qde meet ld r ((p.blks.getD n default).ins.getD j default)=true
def orF (F:Nat→Nat→Bool) (n k:Nat):Nat→Nat→Bool:=fun i j=>F i j || (i ==n && j ==k)
theorem qxf (F:Nat→Nat→Bool) (n k i j:Nat):orF F n k i j=true↔F i j=true∨i=n∧j=k:=by
 unfold orF;simp
theorem qm8 {α:Type} (l:List α) (a k m:Nat) (d:α) (h1:a≤k) (h2:k<m) (h3:k<l.length):l.getD k d∈(l.take m).drop a:=by
 rw [List.mem_drop_iff_getElem]
 refine ⟨k-a,by rw [List.length_take];omega,?_⟩
 rw [List.getElem_take]
 simp [List.getD,h3,show a+(k-a)=k by omega]
structure ThQ (p:Pr) (meet:In→In→Bool) (ld:In) (r:Int) (n from':Nat) (F0:Nat→Nat→Bool) (k:Nat) (F:Nat→Nat→Bool):Prop where
 ge:from'≤k
 le:k≤(p.blks.getD n default).ins.length
 free:qbc (((p.blks.getD n default).ins.take k).drop from')=true
 is:∀ i j,F i j=true↔F0 i j=true∨(qfg p meet ld r n from' i j∧j<k)
section
variable {p:Pr} {meet:In→In→Bool} {ld:In} {r:Int} {n from' k:Nat} {F0 F:Nat→Nat→Bool}
theorem ThQ.start (h:from'≤(p.blks.getD n default).ins.length):ThQ p meet ld r n from' F0 from' F0:=by
 refine ⟨Nat.le_refl _,h,?_,fun i j=>⟨.inl,?_⟩⟩
 ·rw [List.drop_eq_nil_of_le (by rw [List.length_take];omega)];rfl
 ·rintro (h | ⟨⟨-,h1, -⟩,h2⟩)
  ·exact h
  ·omega
theorem qig {α:Type} (l:List α) (a k:Nat) (d:α) (h1:a≤k) (h2:k<l.length):(l.take (k+1)).drop a=(l.take k).drop a++[l.getD k d]:=by
 rw [List.take_succ,List.getElem?_eq_getElem h2,Option.toList_some,List.drop_append_of_le_length (by rw [List.length_take];omega)]
 simp [List.getD,h2]
theorem qte (l l':List In):qbc (l++l')=(qbc l && qbc l'):=by unfold qbc;rw [List.all_append]
theorem qr9 (i:In):qbc [i]= !qgt i:=by unfold qbc;simp
theorem ThQ.free1 (h:ThQ p meet ld r n from' F0 k F) (hk:k<(p.blks.getD n default).ins.length) (hb:qgt ((p.blks.getD n default).ins.getD k default)=false):qbc (((p.blks.getD n default).ins.take (k+1)).drop from')=true:=by
 rw [qig _ _ _ default h.ge hk,qte,h.free,qr9,hb];rfl
theorem ThQ.no (h:ThQ p meet ld r n from' F0 k F) (hk:k<(p.blks.getD n default).ins.length) (hb:qgt ((p.blks.getD n default).ins.getD k default)=false) (hh:qde meet ld r ((p.blks.getD n default).ins.getD k default)=false):ThQ p meet ld r n from' F0 (k+1) F:=by
 refine ⟨by have:=h.ge;omega,hk,h.free1 hk hb,fun i j=>?_⟩
 rw [h.is]
 constructor
 ·rintro (h1 | ⟨h1,h2⟩)
  ·exact .inl h1
  ·exact .inr ⟨h1,by omega⟩
 ·rintro (h1 | ⟨h1,h2⟩)
  ·exact .inl h1
  ·refine .inr ⟨h1,?_⟩
   by_cases e:j=k
   ·subst e
    obtain ⟨-, -, -,h3⟩:=h1
    rw [hh] at h3;cases h3
   ·omega
theorem ThQ.yes (h:ThQ p meet ld r n from' F0 k F) (hk:k<(p.blks.getD n default).ins.length) (hb:qgt ((p.blks.getD n default).ins.getD k default)=false) (hh:qde meet ld r ((p.blks.getD n default).ins.getD k default)=true):ThQ p meet ld r n from' F0 (k+1) (orF F n k):=by
 refine ⟨by have:=h.ge;omega,hk,h.free1 hk hb,fun i j=>?_⟩
 rw [qxf,h.is]
 constructor
 ·rintro ((h1 | ⟨h1,h2⟩) | ⟨rfl,rfl⟩)
  ·exact .inl h1
  ·exact .inr ⟨h1,by omega⟩
  ·exact .inr ⟨⟨rfl,h.ge,h.free1 hk hb,hh⟩,Nat.lt_succ_self _⟩
 ·rintro (h1 | ⟨h1,h2⟩)
  ·exact .inl (.inl h1)
  ·by_cases e:j=k
   ·exact .inr ⟨h1.1,e⟩
   ·exact .inl (.inr ⟨h1,by omega⟩)
theorem ThQ.stop (h:ThQ p meet ld r n from' F0 k F) (hk:k<(p.blks.getD n default).ins.length) (hb:qgt ((p.blks.getD n default).ins.getD k default)=true) :
  qbc ((p.blks.getD n default).ins.drop from')=false∧∀ i j,F i j=true↔F0 i j=true∨qfg p meet ld r n from' i j:=by
 have hnf:∀ j,k≤j→qbc (((p.blks.getD n default).ins.take (j+1)).drop from')=false:=fun j hj=>by
  have hm:(p.blks.getD n default).ins.getD k default∈((p.blks.getD n default).ins.take (j+1)).drop from':=by
   have e:=qm8 (p.blks.getD n default).ins from' k (j+1) default h.ge (by omega) hk
   exact e
  cases hc:qbc (((p.blks.getD n default).ins.take (j+1)).drop from')
  ·rfl
  ·unfold qbc at hc
   rw [List.all_eq_true] at hc
   have:=hc _ hm
   rw [hb] at this;cases this
 constructor
 ·have:=hnf (p.blks.getD n default).ins.length (by omega)
  rwa [List.take_of_length_le (by omega)] at this
 ·intro i j
  rw [h.is]
  constructor
  ·rintro (h1 | ⟨h1,h2⟩)
   ·exact .inl h1
   ·exact .inr h1
  ·rintro (h1 | h1)
   ·exact .inl h1
   ·refine .inr ⟨h1,?_⟩
    obtain ⟨rfl, -,h3, -⟩:=h1
    by_cases e:j<k
    ·exact e
    ·rw [hnf j (by omega)] at h3;cases h3
theorem ThQ.done (h:ThQ p meet ld r n from' F0 k F) (hk:¬ k<(p.blks.getD n default).ins.length) :
  qbc ((p.blks.getD n default).ins.drop from')=true∧∀ i j,j<(p.blks.getD i default).ins.length→(F i j=true↔F0 i j=true∨qfg p meet ld r n from' i j):=by
 have e:k=(p.blks.getD n default).ins.length:=by have:=h.le;omega
 subst e
 refine ⟨by have:=h.free;rwa [List.take_length] at this,fun i j hj=>?_⟩
 rw [h.is]
 constructor
 ·rintro (h1 | ⟨h1,h2⟩)
  ·exact .inl h1
  ·exact .inr h1
 ·rintro (h1 | h1)
  ·exact .inl h1
  ·refine .inr ⟨h1,?_⟩
   obtain ⟨rfl, -⟩:=h1
   exact hj
end
structure OnQ (p:Pr) (meet:In→In→Bool) (ld:In) (r:Int) (b0:Nat) (F0:Nat→Nat→Bool) (f:Nat) (seen:List Bool) (qa2:List Int) (k:Nat) (F:Nat→Nat→Bool):Prop where
 le:k≤qa2.length
 len:seen.length=p.blks.length
 fuel:qa2.length-k+3*seen.count false≤f
 room:qa2.length+2*seen.count false≤2+2*p.blks.length
 ins:∀ t∈qa2,0≤t∧t<p.blks.length
 vis:∀ t∈qa2,qtg p (qum p b0) t.toNat
 sn:∀ b,b<p.blks.length→(seen.getD b false=true↔(b:Int)∈qa2.take k)
 start:∀ t∈qa1 p b0,t∈qa2
 closed:∀ b,b<p.blks.length→seen.getD b false=true→qbc (p.blks.getD b default).ins=true→∀ t∈qa1 p b,t∈qa2
 is:∀ i j,i<p.blks.length→j<(p.blks.getD i default).ins.length→(F i j=true↔F0 i j=true∨(seen.getD i false=true∧qfg p meet ld r i 0 i j))
section
variable {p:Pr} {meet:In→In→Bool} {ld:In} {r:Int} {b0 k f:Nat} {seen:List Bool} {qa2:List Int} {F0 F:Nat→Nat→Bool}
theorem qgj (n b:Nat):(List.replicate n false).getD b false=false:=by
 simp only [List.getD,List.getElem?_replicate];split <;> rfl
theorem qlq {n:Nat} {t:Int} (h:t∈qa1 p n):t∈qbr (p.blks.getD n default):=by
 rw [qi6] at h;exact (List.mem_filter.1 h).1
theorem OnQ.start' (p:Pr) (meet:In→In→Bool) (ld:In) (r:Int) (b0:Nat) (F0:Nat→Nat→Bool):OnQ p meet ld r b0 F0 (2+3*p.blks.length) (List.replicate p.blks.length false) (qa1 p b0) 0 F0:=by
 have:=qdu p b0
 refine ⟨by omega,by simp,?_,?_,fun t ht=>qck ht,fun t ht=>?_,fun b hb=>?_,fun t ht=>ht,fun b hb h=>?_,fun i j hi hj=>?_⟩
 ·simp [List.count_replicate_self];omega
 ·simp [List.count_replicate_self];omega
 ·have:=(qck ht).1
  refine .here _ ?_
  unfold qum
  rw [Int.toNat_of_nonneg this]
  exact qlq ht
 ·rw [qgj];simp
 ·rw [qgj] at h;cases h
 ·rw [qgj];simp
theorem OnQ.inAt (h:OnQ p meet ld r b0 F0 f seen qa2 k F) (hk:k<qa2.length):0≤qa2.getD k 0∧qa2.getD k 0<p.blks.length:=h.ins _ (by simp [List.getD,hk])
theorem qfq (l:List Int) (k:Nat) (h:k<l.length):l.take (k+1)=l.take k++[l.getD k 0]:=by
 rw [List.take_succ,List.getElem?_eq_getElem h];simp [List.getD,h]
theorem OnQ.old (h:OnQ p meet ld r b0 F0 f seen qa2 k F) (hk:k<qa2.length) (hs:seen.getD (qa2.getD k 0).toNat false=true):∃ f',f'<f∧OnQ p meet ld r b0 F0 f' seen qa2 (k+1) F:=by
 have h1:=h.fuel
 have h2:=h.inAt hk
 refine ⟨f-1,by omega,hk,h.len,by omega,h.room,h.ins,h.vis,fun b hb=>?_,h.start,h.closed,h.is⟩
 rw [h.sn b hb,qfq _ _ hk,List.mem_append,List.mem_singleton]
 constructor
 ·exact .inl
 ·rintro (h3 | h3)
  ·exact h3
  ·have h4:=(h.sn (qa2.getD k 0).toNat (by omega)).1 hs
   rw [Int.toNat_of_nonneg h2.1] at h4
   rw [h3];exact h4
theorem qgk (l:List Bool) (i b:Nat) (h:i<l.length):(l.set i true).getD b false=true↔b=i∨l.getD b false=true:=by
 simp only [List.getD,List.getElem?_set]
 by_cases e:i=b
 ·subst e;simp [h]
 ·rw [if_neg e]
  constructor
  ·exact .inr
  ·rintro (h1 | h1)
   ·exact absurd h1.symm e
   ·exact h1
theorem OnQ.new (h:OnQ p meet ld r b0 F0 f seen qa2 k F) (hk:k<qa2.length) (hs:seen.getD (qa2.getD k 0).toNat false=false) {F':Nat→Nat→Bool}
  (hF:∀ i j,j<(p.blks.getD i default).ins.length→(F' i j=true↔F i j=true∨qfg p meet ld r (qa2.getD k 0).toNat 0 i j)) {more:List Int} (hm:more=if qbc (p.blks.getD (qa2.getD k 0).toNat default).ins=true then qa1 p (qa2.getD k 0).toNat else []) :
  ∃ f',f'<f∧OnQ p meet ld r b0 F0 f' (seen.set (qa2.getD k 0).toNat true) (qa2++more) (k+1) F':=by
 have h1:=h.fuel
 have h2:=h.inAt hk
 have h3:=h.room
 have h4:=qhw seen (qa2.getD k 0).toNat (by rw [h.len];omega) hs
 have h5:=qdu p (qa2.getD k 0).toNat
 have h6:(qa2.getD k 0).toNat<seen.length:=by rw [h.len];omega
 have hin:qa2.getD k 0∈qa2:=by simp [List.getD,hk]
 have hm1:more.length≤2:=by
  rw [hm];split
  ·exact h5
  ·exact Nat.zero_le _
 have hm2:∀ t∈more,qbc (p.blks.getD (qa2.getD k 0).toNat default).ins=true∧t∈qa1 p (qa2.getD k 0).toNat:=fun t ht=>by
  rw [hm] at ht
  split at ht
  ·rename_i hf;exact ⟨hf,ht⟩
  ·cases ht
 refine ⟨f-1,by omega,by rw [List.length_append];omega,by simpa using h.len,by rw [List.length_append];omega,by rw [List.length_append];omega,fun t ht=>?_,fun t ht=>?_,fun b hb=>?_,fun t ht=>List.mem_append_left _ (h.start t ht),fun b hb hbs hf t ht=>?_,fun i j hi hj=>?_⟩
 ·rcases List.mem_append.1 ht with ht|ht
  ·exact h.ins t ht
  ·exact qck (hm2 t ht).2
 ·rcases List.mem_append.1 ht with ht|ht
  ·exact h.vis t ht
  ·obtain ⟨hf,ho⟩:=hm2 t ht
   refine .on _ _ (h.vis _ hin) (by omega) hf ?_
   rw [Int.toNat_of_nonneg (qck ho).1]
   exact qlq ho
 ·rw [qgk _ _ _ h6,List.take_append_of_le_length (by omega),qfq _ _ hk,List.mem_append,List.mem_singleton,h.sn b hb]
  constructor
  ·rintro (e | e)
   ·right;omega
   ·exact .inl e
  ·rintro (e | e)
   ·exact .inr e
   ·left;omega
 ·rw [qgk _ _ _ h6] at hbs
  rcases hbs with rfl|hbs
  ·rw [if_pos hf] at hm
   rw [hm]
   exact List.mem_append_right _ ht
  ·exact List.mem_append_left _ (h.closed b hb hbs hf t ht)
 ·rw [hF i j hj,h.is i j hi hj,qgk _ _ _ h6]
  constructor
  ·rintro ((h7 | ⟨h7,h8⟩) | h7)
   ·exact .inl h7
   ·exact .inr ⟨.inr h7,h8⟩
   ·have e:=h7.1
    subst e
    exact .inr ⟨.inl rfl,h7⟩
  ·rintro (h7 | ⟨h7 | h7,h8⟩)
   ·exact .inl (.inl h7)
   ·subst h7
    exact .inr h8
   ·exact .inl (.inr ⟨h7,h8⟩)
theorem OnQ.done (h:OnQ p meet ld r b0 F0 f seen qa2 k F) (hk:¬ k<qa2.length) (hou:∀ b,b<p.blks.length→∀ t∈qbr (p.blks.getD b default),0≤t∧t<(p.blks.length:Int)) (hb0:b0<p.blks.length) :
  ∀ i j,i<p.blks.length→j<(p.blks.getD i default).ins.length→(F i j=true↔F0 i j=true∨(qtg p (qum p b0) i∧qfg p meet ld r i 0 i j)):=by
 intro i j hi hj
 have hin:∀ b,b<p.blks.length→∀ t:Nat,(t:Int)∈qbr (p.blks.getD b default)→(t:Int)∈qa1 p b:=fun b hb t ht=>by
  rw [qi6]
  refine List.mem_filter.2 ⟨ht,?_⟩
  have:=hou b hb _ ht
  unfold inP;simp;omega
 have hs:seen.getD i false=true↔qtg p (qum p b0) i:=by
  rw [h.sn i hi,List.take_of_length_le (by omega)]
  constructor
  ·intro h1
   have:=h.vis _ h1
   simpa using this
  ·intro h1
   clear hj hi
   induction h1 with
   | here n h2=>exact h.start _ (hin b0 hb0 n h2)
   | on m n h2 hm hf ht ih=>
    have:seen.getD m false=true:=by
     rw [h.sn m hm,List.take_of_length_le (by omega)];exact ih
    exact h.closed m hm this hf _ (hin m hm n ht)
 rw [h.is i j hi hj,hs]
end
theorem q07 {p:Pr} {meet:In→In→Bool} {ld:In} {r:Int} {b0 k0:Nat} {F0 F1 F2:Nat→Nat→Bool}
  (h1:∀ i j,j<(p.blks.getD i default).ins.length→(F1 i j=true↔F0 i j=true∨qfg p meet ld r b0 k0 i j))
  (h2:(qbc ((p.blks.getD b0 default).ins.drop k0)=false∧F2=F1)∨(qbc ((p.blks.getD b0 default).ins.drop k0)=true∧∀ i j,i<p.blks.length→j<(p.blks.getD i default).ins.length→(F2 i j=true↔F1 i j=true∨(qtg p (qum p b0) i∧qfg p meet ld r i 0 i j)))) :
  ∀ i j,i<p.blks.length→j<(p.blks.getD i default).ins.length→(F2 i j=true↔F0 i j=true∨(qg4 p b0 k0 i j∧qde meet ld r ((p.blks.getD i default).ins.getD j default)=true)):=by
 intro i j hi hj
 have hc:(qg4 p b0 k0 i j∧qde meet ld r ((p.blks.getD i default).ins.getD j default)=true)↔qfg p meet ld r b0 k0 i j∨(qbc ((p.blks.getD b0 default).ins.drop k0)=true∧qtg p (qum p b0) i∧qfg p meet ld r i 0 i j):=by
  unfold qg4 qfg
  constructor
  ·rintro ⟨⟨rfl,h3,h4⟩ | ⟨h3,h4,h5⟩,h6⟩
   ·exact .inl ⟨rfl,h3,h4,h6⟩
   ·exact .inr ⟨h3,h4,rfl,Nat.zero_le _,by rw [List.drop_zero];exact h5,h6⟩
  ·rintro (⟨rfl,h3,h4,h6⟩ | ⟨h3,h4, -, -,h5,h6⟩)
   ·exact ⟨.inl ⟨rfl,h3,h4⟩,h6⟩
   ·exact ⟨.inr ⟨h3,h4,by rw [List.drop_zero] at h5;exact h5⟩,h6⟩
 rw [hc]
 rcases h2 with ⟨h2,rfl⟩|⟨h2,h3⟩
 ·rw [h1 i j hj,h2]
  simp
 ·rw [h3 i j hi hj,h1 i j hj,h2]
  constructor
  ·rintro ((h4 | h4) | h4)
   ·exact .inl h4
   ·exact .inr (.inl h4)
   ·exact .inr (.inr ⟨rfl,h4⟩)
  ·rintro (h4 | h4 | ⟨-,h4⟩)
   ·exact .inl (.inl h4)
   ·exact .inl (.inr h4)
   ·exact .inr h4
end
end Go.Proofs.Ytmcddolkpcgddaa
