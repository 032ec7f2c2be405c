/-
 law 22's document: Find, its rows made.
-/
import Derived.Test.YtmcddolkpcgddaaZHazardFinds50
set_option maxHeartbeats 4000000
set_option maxRecDepth 100000
set_option linter.all false
namespace Go.Proofs.Ytmcddolkpcgddaa
open Go.ChangeShapes Go.WideShapes Go.ChangeAt Go.RowKit
def RfP (m:Md) (p:Pr) (s:List Bool) (w:World) (e:Ending) (w':World):Prop :=
 ∃ (gA cA:Nat) (gs:Nat→Nat) (F:Nat→Nat→Bool) (x:AR),e=.returned (.slice (some ⟨gA,0,none⟩) p.blks.length cA)∧p.blks.length≤cA∧cA≤maxLen∧Below w.heap.size w w'∧
 (∀ i,i<p.blks.length→w'.cell? ⟨gA,i,none⟩=some (.slice (some ⟨gs i,0,none⟩) (lenI p i) (lenI p i)))∧(∀ i,i<p.blks.length→w'.heap[gs i]?=some (.cells (qc1 (F i) (lenI p i)) 4))∧
 (∀ i j,i<p.blks.length→j<lenI p i→(F i j=true↔atD s p (qc0 x (p.objs.length+m.globs.length+1) p) i j))∧x.End p (p.objs.length+m.globs.length+1)∧(∀ c∈qeh p,c.holds fun o t=>(∀ r,o=some r→r<p.regs.toNat)∧x.sem o t)
theorem qh9:qen (default:In)=false:=by rfl
theorem qhj (w:World):RdI w (.slice none 0 0) []:=⟨none,0,rfl,Nat.le_refl _,Nat.zero_le _,fun i hi=>absurd hi (Nat.not_lt_zero i)⟩
theorem qyt (m:Md) (k0:Nat) (s:List Bool) (v vs:Value) (w:World) (hv:MdV w v m) (hs:RdB w vs s) (hA:AlP m (m.procs.getD k0 default)) (hk0:k0<m.procs.length) :
  Calls Try.prog 16 #[v,.int .i64 (k0:Int),vs] w (RfP m (m.procs.getD k0 default) s w):=by
 have HMV:=qkm hv
 have HSV:=qkm hs
 have HAP:=qkm hA
 obtain ⟨vg,vd,vp,rfl,hvg,hvd,hvp⟩:=hv
 obtain ⟨ap,cp,rfl,hp1,hp2, -⟩:=id hvp
 unfold maxLen at hp2
 obtain ⟨bp,op,tnm,tvo,tvb,hap,hto,htb,t0,t1,t2,t3,t4,t5⟩:=(qcx.at6 hvp).2 k0 hk0
 subst hap
 have hou:=qla hA.ok
 clear hvg hvd hvp hs
 generalize m.procs.getD k0 default=P at *
 have hbl:=HAP.out.blks
 have hb0:Hid (0<P.blks.length):=by have:=(qe7 HAP.out.ok).b1;show _ < _;omega
 have HTO:=qkm hto
 have HBK:=qkm htb
 have HOU:=qkm hou
 clear hou
 obtain ⟨ao,co,rfl, -⟩:=hto
 obtain ⟨ab,cb,rfl,hcb1,hcb2, -⟩:=htb
 unfold maxLen at hcb2
 obtain ⟨W0,hW0⟩:∃ W0,W0=w.alloc (.cells #[vg,vd,.slice (some ⟨bp,op,none⟩) m.procs.length cp,.int .i64 m.main] 26):=⟨_,rfl⟩
 have B0:Hid (Below w.heap.size w W0):=by rw [hW0];exact qaa w _
 have H0:=qkm (qb0 w _ _ hW0)
 have hE:=Ext.below B0.out
 replace t0:=hE _ _ t0
 replace t1:=hE _ _ t1
 replace t2:=hE _ _ t2
 replace t3:=hE _ _ t3
 replace t4:=hE _ _ t4
 replace t5:=hE _ _ t5
 clear hE
 obtain ⟨y0,y1,y2,y3,l0⟩:=cl4 H0.out
 have HW0:=qkm hW0.symm
 clear hW0 hA
 have g5:decide ((k0:Int)<(m.procs.length:Int))=true:=qkn (by omega)
 have g6:decide (k0<m.procs.length)=true:=qkn hk0
 go_enter Try.func16,Try.ntmps16
 go_upto_region 1 with (fail)
 rw [HW0.out]
 go_wp2_with fail
 obtain ⟨W2,hW2⟩:∃ W2,W2=W0.alloc (.cells #[.string tnm,.bool P.void,.int .i64 P.params,.int .i64 P.regs,.slice ao P.objs.length co,.slice ab P.blks.length cb] 32):=⟨_,rfl⟩
 have H2:Hid (W2.heap[W0.heap.size]?=some (.cells #[.string tnm,.bool P.void,.int .i64 P.params,.int .i64 P.regs,.slice ao P.objs.length co,.slice ab P.blks.length cb] 32)):=by rw [hW2];exact heap_alloc_new W0 _
 have B2:Hid (Below W0.heap.size W0 W2):=by rw [hW2];exact qaa W0 _
 have H0:=qkm ((B2.out.block _ l0).trans H0.out)
 have BB:=qkm (B0.out.trans (B2.out.mono B0.out.size))
 rw [←hW2]
 clear hW2 t0 t1 t2 t3 t4 t5 y0 y1 y2 y3 g5 g6 HW0
 have hbPw:Hid (w.heap.size≤W0.heap.size):=B0.out.size
 generalize W0.heap.size=bP at *
 clear B2 B0
 obtain ⟨WD,hWD⟩:∃ WD,WD=W2.drew:=⟨_,rfl⟩
 have BD:Hid (Below W2.heap.size W2 WD):=by
  show Below _ _ _
  rw [hWD];exact Below.drew (Below.refl _ _)
 refine qae (fun b=>b=w.heap.size∨b=bP) (by kernel_rfl) ?_
 show wpE _ _ _ _ _ _ _ (World.drew _)
 rw [←hWD]
 clear hWD
 have H0:=qkm ((BD.out.block _ (qkp H0.out).1).trans H0.out)
 have H2:=qkm ((BD.out.block _ (qkp H2.out).1).trans H2.out)
 have BB:=qkm (BB.out.trans (BD.out.mono BB.out.size))
 clear BD l0
 obtain ⟨y0,y1,y2,y3,l0⟩:=cl4 H0.out
 obtain ⟨x0,x1,x2,x3,x4,x5,l2⟩:=cl6 H2.out
 have HPV:Hid (PrV WD (.agg #[.string tnm,.bool P.void,.int .i64 P.params,.int .i64 P.regs,.slice ao P.objs.length co,.slice ab P.blks.length cb]) P):=by
  have hE:=Ext.below BB.out
  exact ⟨tnm,_,_,rfl,HTO.out.ext hE,HBK.out.ext hE⟩
 have HOF:=qkm (q05 m P _ _ WD (HMV.out.ext (Ext.below BB.out)) HPV.out (by have:=HAP.out.objs;omega) (by have:=HAP.out.globs;omega) HAP.out.r0 (by have:=HAP.out.r40;omega) (by
  have h:=HAP.out.ok
  unfold okP at h
  rw [Bool.and_eq_true] at h
  exact h.2) (by omega) (fun b hb=>by have:=HAP.out.ins b hb;exact ⟨by omega,fun i hi=>by have:=this.2 i hi;omega⟩))
 refine qaf [0,1,2] _ _ _ _ (by kernel_rfl) ?_
 simp only [qka,qkb,qkc,qkd,qke,qkf,qkg,qkh,qki,Nat.reduceAdd,Nat.reduceSub]
 repeat (go_big_quiet_step (fail))
 refine wpQuiet_nil ?_
 clear y0 y1 y2 y3 x0 x1 x2 x3 x4 x5
 refine qag 3 _ rfl (by kernel_rfl) ?_
 simp only [qkj,qkk,qkl]
 go_wp2_with fail
 refine HOF.out.mono ?_
 rintro e w3 ⟨ak,ax,rfl,hal,hkn,hkT,hend,hcon⟩
 have HAL:=qkm hal
 have HKN:=qkm hkn
 have HKT:=qkm hkT
 have HEN:=qkm hend
 have HCN:=qkm hcon
 have H2:=qkm ((hal.below.block _ l2).trans H2.out)
 clear hend hcon HOF hkn hkT
 unfold qbf
 go_wp2_with fail
 refine ⟨qaj hal.below (fun z hz=>by rcases hz with rfl|rfl <;> assumption),?_⟩
 have BB:=qkm (BB.out.trans (hal.below.mono BB.out.size))
 have L0:Hid (w.heap.size<w3.heap.size∧bP<w3.heap.size):=by
  have:=hal.below.size
  show _∧_
  omega
 clear hal l0 l2
 refine qaf [4] _ _ _ _ (by kernel_rfl) ?_
 simp only [qka,qkb,qkc,qkd,qke,qkf,qkg,qkh,qki,Nat.reduceAdd,Nat.reduceSub]
 repeat (go_big_quiet_step (fail))
 refine wpQuiet_nil ?_
 refine qag 5 _ rfl (by kernel_rfl) ?_
 simp only [qkj,qkk,qkl]
 go_wp2_with fail
 refine ⟨qaj (qaa w3 _) (fun z hz=>by have:=L0.out;rcases hz with rfl|rfl <;> omega),?_⟩
 refine qaf [6] _ _ _ _ (by kernel_rfl) ?_
 simp only [qka,qkb,qkc,qkd,qke,qkf,qkg,qkh,qki,Nat.reduceAdd,Nat.reduceSub]
 repeat (go_big_quiet_step (fail))
 refine wpQuiet_nil ?_
 refine qao (by kernel_rfl) ?_ _
 go_wp2_with fail
 have T0:Hid (FoT w3 (w3.alloc (qnq tnm P (.slice ao P.objs.length co) (.slice ab P.blks.length cb) ak (.slice none 0 0))) w3.heap.size tnm P (.slice ao P.objs.length co) (.slice ab P.blks.length cb) ak (.slice none 0 0) []) :=
  ⟨qaa w3 _,heap_alloc_new w3 _,Nat.le_refl _,World.ownsRow_nil _ _ _ _,fun i hi=>absurd hi (Nat.not_lt_zero i),fun i hi=>absurd hi (Nat.not_lt_zero i),fun i j hi=>absurd hi (Nat.not_lt_zero i)⟩
 unfold qnq qbf at T0
 have HBP:Hid (∀ wr,Below w3.heap.size w3 wr→wr.heap[bP]?=some (.cells #[.string tnm,.bool P.void,.int .i64 P.params,.int .i64 P.regs,.slice ao P.objs.length co,.slice ab P.blks.length cb] 32)):=fun wr hb=>(hb.block _ L0.out.2).trans H2.out
 have HWX:Hid (∀ wr,Below w3.heap.size w3 wr→Below w.heap.size w wr):=fun wr hb=>BB.out.trans (hb.mono (by have:=L0.out;omega))
 clear H0
 generalize w3.alloc (.cells #[.string tnm,.bool P.void,.int .i64 P.params,.int .i64 P.regs,.slice ao P.objs.length co,.slice ab P.blks.length cb,ak.vr,.slice (some ⟨ak.ro.1,0,none⟩) ak.T ak.ro.2,.slice none 0 0] 99)=w4 at *
 obtain ⟨bF,hbF⟩:∃ bF,bF=w3.heap.size:=⟨_,rfl⟩
 rw [←hbF] at T0
 rw [←hbF]
 have HbF:=qkm hbF
 clear hbF
 go_loopw [9] (fun iv wr=>∃ (g:List Nat) (tv:Value),iv=.int .i64 (g.length:Int)∧g.length≤P.blks.length∧Hid (FoT w3 wr bF tnm P (.slice ao P.objs.length co) (.slice ab P.blks.length cb) ak tv g)) (fun iv _=>P.blks.length-(intOf iv).toNat)
 case atStart=>exact ⟨[],_,rfl,Nat.zero_le _,T0⟩
 case round=>
  clear T0
  obtain ⟨g,tv,rfl,hgl,T⟩:=hrel
  obtain ⟨x0,x1,x2,x3,x4,x5,l2⟩:=cl6 (HBP.out wr T.out.below)
  by_cases hlt:g.length<P.blks.length
  ·have g3:decide (g.length<P.blks.length)=true:=qkn hlt
   have g4:decide ((g.length:Int)<(P.blks.length:Int))=true:=qkn (by omega)
   obtain ⟨a1,k1,rfl⟩:=qc9 (k:=g.length) T.out.tab (qf8 P g)
   obtain ⟨bb,ob,vi,hab,hvi,c0,c1,c2,c3,c4⟩:=(qbl.at HBK.out).2 g.length hlt
   subst hab
   obtain ⟨ai,ci,rfl,hi1,hi2, -⟩:=hvi
   unfold maxLen at hi2
   have hi60:=(HAP.out.ins (P.blks.getD g.length default) (qa5 hlt)).1
   have hlen:Hid ((P.blks.getD g.length default).ins.length=lenI P g.length):=rfl
   have lb0:bb<w.heap.size:=World.block_lt_of_cell? w _ c0
   have c0:=Ext.below (HWX.out wr T.out.below) _ _ c0
   obtain ⟨n1,hn1⟩:∃ n1,n1=lenI P g.length:=⟨_,rfl⟩
   rw [hlen.out,←hn1] at c0 hi60 hi1
   have HN1:=qkm hn1
   have HB3:=T.out.bx
   unfold qnq qbf at HB3
   obtain ⟨z0,z1,z2,z3,z4,z5,z6,z7,z8,k0⟩:=qz7 HB3
   clear c1 c2 c3 c4 HB3 hlen hn1
   have hmk:=run_make_row' (P:=Try.prog) 37 4 (.bool false) 1 Try.underlying37 qht rfl .i64 .i64 n1 (by omega) (by omega)
   go_wp2_with fail
   obtain ⟨W5,hW5⟩:∃ W5,W5=wr.drew:=⟨_,rfl⟩
   have B5:Hid (Below wr.heap.size wr W5):=by
    show Below _ _ _
    rw [hW5];exact Below.drew (Below.refl _ _)
   refine qae (fun b=>b=bF∨b=bP∨b=bb) (by kernel_rfl) ?_
   show wpE _ _ _ _ _ _ _ (World.drew _)
   rw [←hW5]
   clear hW5
   have T5:=qkm (T.out.grow B5.out)
   have HB3:=T5.out.bx
   unfold qnq qbf at HB3
   have z8:=qab HB3 8
   simp only [qkc,qkd,qke] at z8
   obtain ⟨x0,x1,x2,x3,x4,x5,l2⟩:=cl6 (HBP.out W5 T5.out.below)
   have c0:=(B5.out.cell (World.block_lt_of_cell? wr _ c0)).trans c0
   have lF:bF<W5.heap.size:=T5.out.lt
   have lb:bb<W5.heap.size:=World.block_lt_of_cell? W5 _ c0
   clear z0 z1 z2 z3 z4 z5 z6 z7 k0 B5 HB3 T
   refine qaf [0,1,2,3,4,5,6,7,8,9,10,11] _ _ _ _ (by kernel_rfl) ?_
   simp only [qka,qkb,qkc,qkd,qke,qkf,qkg,qkh,qki,Nat.reduceAdd,Nat.reduceSub]
   repeat (go_big_quiet_step (fail))
   refine wpQuiet_nil ?_
   clear z8 x0 x1 x2 x3 x4 x5 c0
   refine qag 12 _ rfl (by kernel_rfl) ?_
   simp only [qkj,qkk,qkl]
   go_wp2_with fail
   refine ⟨qaj (qaa W5 _) (fun z hz=>by rcases hz with rfl|rfl|rfl <;> assumption),?_⟩
   obtain ⟨W6,hW6⟩:∃ W6,W6=W5.alloc (.cells (madeCells #[.bool false] n1) 4):=⟨_,rfl⟩
   have B6:Hid (Below W5.heap.size W5 W6):=by rw [hW6];exact qaa W5 _
   have H6:Hid (W6.heap[W5.heap.size]?=some (.cells (madeCells #[.bool false] n1) 4)):=by rw [hW6];exact heap_alloc_new W5 _
   rw [←hW6]
   clear hW6
   have hz56:W5.heap.size<W6.heap.size:=(qkp H6.out).1
   refine qag 13 _ rfl (by kernel_rfl) ?_
   simp only [qkj,qkk,qkl]
   go_wp2_with fail
   refine ⟨qaj (qaa W6 _) (fun z hz=>by rcases hz with rfl|rfl|rfl <;> omega),?_⟩
   have CC:=qgb W6 (.slice (some ⟨W5.heap.size,0,none⟩) n1 n1) 37 W6.heap.size rfl 0 _ rfl
   obtain ⟨W7,hW7⟩:∃ W7,W7=W6.alloc (.cells #[.slice (some ⟨W5.heap.size,0,none⟩) n1 n1] 37):=⟨_,rfl⟩
   have B7:Hid (Below W6.heap.size W6 W7):=by rw [hW7];exact qaa W6 _
   rw [←hW7] at CC ⊢
   clear hW7
   have T7:=qkm ((T5.out.grow B6.out).grow B7.out)
   have H7:=qkm ((B7.out.block _ hz56).trans H6.out)
   have TT:=T7.out.tab
   have HQ9:(qi7 P g).length≤1000000000:=by rw [qf8];omega
   have HB9:w3.heap.size≤W7.heap.size:=T7.out.below.size
   have l7F:=T7.out.lt
   have l7P:bP<W7.heap.size:=by have:=L0.out;omega
   have l7b:bb<W7.heap.size:=by have:=L0.out;omega
   have T7b:=T7.out.bx
   have HY1:Hid (w3.heap.size≤W5.heap.size):=T5.out.below.size
   have HY2:Hid (∀ i,i<g.length→g.getD i 0≠W5.heap.size):=fun i hi e=>by have:=T5.out.rlt hi;omega
   generalize W5.heap.size=yy at *
   refine qag 14 _ rfl (by kernel_rfl) ?_
   simp only [qkj,qkk,qkl]
   refine q2t TT rfl rfl rfl rfl CC rfl HQ9 HB9 ?_
   intro v1 w5 hT5 G5
   have N1:=qkm (T7.out.push HN1.out H7.out HY1.out HY2.out hT5 G5)
   have hne:=T7.out.ne_box
   have hlo:∀ b,(Value.slice a1 g.length k1).ownBlock=some b→w3.heap.size≤b:=fun b e=>(World.ownsRow.lt TT b e).1
   refine ⟨fun b o hb=>by
    rcases hb with rfl|rfl|rfl
    ·exact qaq G5 l7F hne
    ·exact qaq G5 l7P (fun e=>by have:=hlo _ e;have:=L0.out;omega)
    ·exact qaq G5 l7b (fun e=>by have:=hlo _ e;have:=L0.out;omega),?_⟩
   have bx5:=(G5.block bF l7F (fun e=>hne e.symm)).trans T7b
   unfold qnq qbf at bx5
   have z8:=qab bx5 8
   have f8:=qac bx5 8
   simp only [qkc,qkd,qke] at z8
   obtain ⟨a2,k2,rfl⟩:=qc9 (k:=g.length+1) hT5 (by simp [qf8])
   clear hT5 G5 TT CC HQ9 HB9 T7 T7b bx5 hne hlo B6 B7 H6 H7 T5
   simp only [Act.put,List.setIfInBounds_toArray,List.set_cons_succ,List.set_cons_zero]
   refine qaf [15,16] _ _ _ _ (by kernel_rfl) ?_
   simp only [qka,qkb,qkc,qkd,qke,qkf,qkg,qkh,qki,Nat.reduceAdd,Nat.reduceSub]
   repeat (go_big_quiet_step (fail))
   refine wpQuiet_nil ?_
   refine qbq 17 _ rfl (by kernel_rfl) ?_
   simp only [qkj,qkk,qkl]
   go_wp2_with fail
   refine qao (by kernel_rfl) ?_ _
   go_wp2_with fail
   go_roundw
   case rel=>exact ⟨g++[yy],_,by rw [List.length_append,List.length_singleton];go_num,by rw [List.length_append,List.length_singleton];omega,N1⟩
   case measure=>simp [intOf];omega
  ·have g3:decide (g.length<P.blks.length)=false:=qko hlt
   have g4:decide ((g.length:Int)<(P.blks.length:Int))=false:=qko (by omega)
   obtain ⟨gA,cA,etv,hc1,hc2,hS⟩:=T.out.done (by omega) hb0.out
   obtain ⟨K,hKb,hKg,hKc,hKn,hKo,hKv,hKk,hS⟩:∃ K:FoK,K.bF=bF∧K.gA=gA∧K.cA=cA∧K.nm=tnm∧K.vo=.slice ao P.objs.length co∧K.vb=.slice ab P.blks.length cb∧K.k=ak∧FoS w3 wr K P (fun _ _=>false):=⟨_,rfl,rfl,rfl,rfl,rfl,rfl,rfl,hS⟩
   have S0:=qkm hS
   have HC1:=qkm (show _∧_ from ⟨hc1,hc2⟩)
   have G0:Hid (FoG WD w3 K P ax):=by
    refine ⟨by rw [hKk];exact HAL.out,by rw [hKn,hKo,hKv];exact HPV.out.ext (Ext.below HAL.out.below),⟨?_,?_,HAP.out.exR_off,by omega,fun b hb=>?_,?_,HAP.out.obj8⟩,fun b hb i hi hm=>?_,hb0.out⟩
    ·rw [hKk,HKT.out];have:=HAP.out.objs;have:=HAP.out.globs;omega
    ·rw [hKk,HKN.out];have:=HAP.out.r40;omega
    ·have:=(HAP.out.ins b hb).1;omega
    ·have:=HAP.out.objs;omega
    ·rw [hKk,HKN.out];exact (qjf (HAP.out.okI hb hi) hm).2
   have HBX:Hid (∀ wr F,FoS w3 wr K P F→wr.heap[bF]?=some (.cells #[.string tnm,.bool P.void,.int .i64 P.params,.int .i64 P.regs,.slice ao P.objs.length co,.slice ab P.blks.length cb,ak.vr,.slice (some ⟨ak.ro.1,0,none⟩) ak.T ak.ro.2,.slice (some ⟨gA,0,none⟩) P.blks.length cA] 99)):=fun wr F h=>by
    have h:=h.bx
    rw [hKb,hKg,hKc,hKn,hKo,hKv,hKk] at h
    exact h
   have HON:Hid (∀ (wr:World) (F:Nat→Nat→Bool) (ld:In) (vl:Value) (n fr:Nat) (r:Int),FoS w3 wr K P F→(qen ld=true→qsf ak.n ld)→RdI w3 vl ld.args→n<P.blks.length→fr≤(P.blks.getD n default).ins.length→Calls Try.prog 41 #[.pointer (some ⟨bF,0,none⟩),.int .i64 (n:Int),.int .i64 (fr:Int),qbu ld vl,.int .i64 r] wr (OnP w3 wr K P (qc0 ax ak.T P) ld r n fr F)):=fun wr F ld vl n fr r h1 h2 h3 h4 h5=>by
    have h:=q29 WD w3 wr K P ax F ld vl n fr r h1 G0.out (by rw [hKk];exact h2) h3 h4 h5 HOU.out
    rw [hKb,hKk] at h
    exact h
   have HKF:=qkm (show _∧_∧_ from ⟨hKb,hKg,hKc⟩)
   have HACC:Hid (∀ b∈P.blks,∀ i∈b.ins,qen i=true→qsf ak.n i):=fun b hb i hi hm=>by
    have:=G0.out.acc b hb i hi hm
    rw [hKk] at this
    exact this
   have TL0:Hid (qbi (qc0 ax ak.T P) P (qf5 s P 0) (fun _ _=>false)):=qsb
   have HAT:Hid (∀ F,qbi (qc0 ax ak.T P) P (qf5 s P P.blks.length) F→∀ i j,i<P.blks.length→j<lenI P i→(F i j=true↔atD s P (qc0 ax (P.objs.length+m.globs.length+1) P) i j)):=fun F hF i j hi hj=>by
    rw [←HKT.out]
    exact qwi hF hi hj
   clear hKb hKg hKc hKn hKo hKv hKk hS T etv hc1 hc2 G0
   generalize qc0 ax ak.T P=MT at *
   generalize (fun (_ _:Nat)=>false)=F0 at *
   go_wp2_with fail
   go_loopw [10] (fun bv wr=>∃ (b:Nat) (F:Nat→Nat→Bool),bv=.int .i64 (b:Int)∧b≤P.blks.length∧Hid (FoS w3 wr K P F)∧Hid (qbi MT P (qf5 s P b) F)) (fun bv _=>P.blks.length-(intOf bv).toNat)
   case atStart=>exact ⟨0,F0,rfl,Nat.zero_le _,S0,TL0⟩
   case round=>
    clear S0 TL0 g3 g4 hlt
    obtain ⟨b,F,rfl,hb,S,TL⟩:=hrel
    obtain ⟨x0,x1,x2,x3,x4,x5,l2⟩:=cl6 (HBP.out wr S.out.below)
    by_cases hlb:b<P.blks.length
    ·have g7:decide (b<P.blks.length)=true:=qkn hlb
     have g8:decide ((b:Int)<(P.blks.length:Int))=true:=qkn (by omega)
     obtain ⟨bb,ob,vi,hab,hvi,c0,c1,c2,c3,c4⟩:=(qbl.at HBK.out).2 b hlb
     subst hab
     have HVI:=qkm hvi
     have hi60:=(HAP.out.ins (P.blks.getD b default) (qa5 hlb))
     have HARG:=qkm hi60.2
     have hL60:=hi60.1
     obtain ⟨ai,ci,rfl,hi1,hi2, -⟩:=hvi
     unfold maxLen at hi2
     have HCB:=qkm (show _∧_∧_ from ⟨c0,c1,c2⟩)
     have c0:=Ext.below (HWX.out wr S.out.below) _ _ c0
     have HACB:=qkm (HACC.out _ (qa5 hlb))
     have TK0:=qkm (qyq TL.out)
     have HTLD:Hid (∀ k F F',((P.blks.getD b default).ins.getD k default).op=5→qbi MT P (qet s P b k) F→onD MT P b k ((P.blks.getD b default).ins.getD k default) (-1) F F'→qbi MT P (qdq s P b k 0) F'):=fun k F F' h1 h2 h3=>qr6 h2 h1 h3
     have HTNL:Hid (∀ k F,((P.blks.getD b default).ins.getD k default).op≠5→qbi MT P (qet s P b k) F→qbi MT P (qdq s P b k 0) F):=fun k F h1 h2=>qni h2 h1
     have HUSE:Hid (∀ k u F F' ld,u<(qbb ((P.blks.getD b default).ins.getD k default)).length→qbi MT P (qdq s P b k u) F→qam s ((qbb ((P.blks.getD b default).ins.getD k default)).getD u 0)=true→onD MT P b k ld ((qbb ((P.blks.getD b default).ins.getD k default)).getD u 0) F F'→qbi MT P (qdq s P b k (u+1)) F'):=fun k u F F' ld h1 h2 h3 h4=>quf h2 h1 h3 h4
     have HNOU:Hid (∀ k u F,u<(qbb ((P.blks.getD b default).ins.getD k default)).length→qbi MT P (qdq s P b k u) F→qam s ((qbb ((P.blks.getD b default).ins.getD k default)).getD u 0)=false→qbi MT P (qdq s P b k (u+1)) F):=fun k u F h1 h2 h3=>qpr h2 h1 h3
     have HKK:Hid (∀ k u F,¬ u<(qbb ((P.blks.getD b default).ins.getD k default)).length→k<(P.blks.getD b default).ins.length→qbi MT P (qdq s P b k u) F→qbi MT P (qet s P b (k+1)) F):=fun k u F h1 h2 h3=>q0u h3 h1 h2
     have HEND:Hid (∀ F F' ld,qbs s (P.blks.getD b default)=true→qbi MT P (qet s P b (P.blks.getD b default).ins.length) F→onD MT P b (P.blks.getD b default).ins.length ld (P.blks.getD b default).a F F'→qbi MT P (qf5 s P (b+1)) F'):=fun F F' ld h1 h2 h3=>qt7 h2 rfl h1 h3
     have HNEN:Hid (∀ F,qbs s (P.blks.getD b default)=false→qbi MT P (qet s P b (P.blks.getD b default).ins.length) F→qbi MT P (qf5 s P (b+1)) F):=fun F h1 h2=>qo5 h2 rfl h1
     have HONB:Hid (∀ (wr:World) (F:Nat→Nat→Bool) (ld:In) (vl:Value) (fr:Nat) (r:Int),FoS w3 wr K P F→(qen ld=true→qsf ak.n ld)→RdI w3 vl ld.args→fr≤(P.blks.getD b default).ins.length→Calls Try.prog 41 #[.pointer (some ⟨bF,0,none⟩),.int .i64 (b:Int),.int .i64 (fr:Int),qbu ld vl,.int .i64 r] wr (OnP w3 wr K P MT ld r b fr F)):=fun wr F ld vl fr r h1 h2 h3 h5=>HON.out wr F ld vl b fr r h1 h2 h3 hlb h5
     have HES:Hid (qbs s (P.blks.getD b default)=(((P.blks.getD b default).fin ==2 || (P.blks.getD b default).fin ==3) && qam s (P.blks.getD b default).a)):=rfl
     clear c1 c2 c3 c4 hi60 TL
     generalize qbs s (P.blks.getD b default)=ES at *
     generalize hLL:(P.blks.getD b default).ins=L at *
     clear hLL
     generalize P.blks.getD b default=BK at *
     go_wp2_with fail
     clear c0 x0 x1 x2 x3 x4 x5 l2
     go_loopw [12] (fun kv wr=>∃ (k:Nat) (F:Nat→Nat→Bool),kv=.int .i64 (k:Int)∧k≤L.length∧Hid (FoS w3 wr K P F)∧Hid (qbi MT P (qet s P b k) F)) (fun kv _=>L.length-(intOf kv).toNat)
     case atStart=>exact ⟨0,F,rfl,Nat.zero_le _,S,TK0⟩
     case round=>
      clear S TK0
      obtain ⟨k,F,rfl,hk,S,TL⟩:=hrel
      by_cases hlt:k<L.length
      ·have g9:decide (k<L.length)=true:=qkn hlt
       have g10:decide ((k:Int)<(L.length:Int))=true:=qkn (by omega)
       obtain ⟨bi,oi,vx,hai,hbw,hva,d0,d1,d2,d3,d4,d5,d6,d7,d8,d9,d10⟩:=(qbd.at HVI.out).2 k hlt
       subst hai
       have hag:=HARG.out _ (qa5 hlt)
       have HACI:=qkm (HACB.out _ (qa5 hlt))
       have HVA:=qkm hva
       obtain ⟨aa,ca,rfl, -⟩:=id hva
       have HD:=qkm (show _∧_∧_∧_∧_∧_∧_∧_∧_∧_∧_ from ⟨d0,d1,d2,d3,d4,d5,d6,d7,d8,d9,d10⟩)
       have KLD:=qkm (HTLD.out k F)
       have KNL:=qkm (HTNL.out k F)
       have KUS:=qkm (HUSE.out k)
       have KNU:=qkm (HNOU.out k)
       have KKK:=qkm (fun u F h=>HKK.out k u F h hlt)
       clear d0 d1 d2 d3 d4 d5 d6 d7 d8 d9 d10 hva
       generalize L.getD k default=y at *
       have hE:=Ext.below (HWX.out wr S.out.below)
       obtain ⟨d0,d1,d2,d3,d4,d5,d6,d7,d8,d9,d10⟩:=HD.out
       replace d0:=hE _ _ d0
       replace d1:=hE _ _ d1
       replace d2:=hE _ _ d2
       replace d3:=hE _ _ d3
       replace d4:=hE _ _ d4
       replace d5:=hE _ _ d5
       replace d6:=hE _ _ d6
       replace d7:=hE _ _ d7
       replace d8:=hE _ _ d8
       replace d9:=hE _ _ d9
       replace d10:=hE _ _ d10
       clear hE
       go_upto_if 74 with (fail)
       go_cut [] from 74 to 82 (fun wx=>∃ F',Hid (FoS w3 wx K P F')∧Hid (qbi MT P (qdq s P b k 0) F'))
       case first=>
        rcases qie (y.op ==5) with h5|h5
        ·have TN:=qkm (KNL.out (by simpa using h5) TL.out)
         go_wp2_with fail
         go_meet
         case rel=>exact ⟨F,S,TN⟩
        ·have HC:=qkm (HONB.out wr F y _ k (-1) S.out HACI.out (HVA.out.ext (Ext.below (HWX.out w3 (Below.refl _ _)))) (Nat.le_of_lt hlt))
         go_wp2_with fail
         refine HC.out.mono ?_
         rintro e w6 ⟨rfl,F2,hS2,hR2,hF2⟩
         have S2:=qkm hS2
         have TN:=qkm (KLD.out F2 (by simpa using h5) TL.out hF2)
         clear hS2 hR2 hF2 HC
         go_wp2_with fail
         go_meet
         case rel=>exact ⟨F2,S2,TN⟩
       case rest=>
        clear S TL d0 d1 d2 d3 d4 d5 d6 d7 d8 d9 d10 KLD KNL
        obtain ⟨F',S,TL⟩:=hcut
        have hE:=Ext.below (HWX.out wc S.out.below)
        have HU:=qkm (qxc y _ wc ⟨_,rfl,HVA.out.ext hE⟩ (by omega))
        obtain ⟨d0,d1,d2,d3,d4,d5,d6,d7,d8,d9,d10⟩:=HD.out
        replace d0:=hE _ _ d0
        replace d1:=hE _ _ d1
        replace d2:=hE _ _ d2
        replace d3:=hE _ _ d3
        replace d4:=hE _ _ d4
        replace d5:=hE _ _ d5
        replace d6:=hE _ _ d6
        replace d7:=hE _ _ d7
        replace d8:=hE _ _ d8
        replace d9:=hE _ _ d9
        replace d10:=hE _ _ d10
        clear hE
        generalize qbb y=U at *
        go_wp2_with fail
        refine HU.out.mono ?_
        rintro e w7 ⟨vu,rfl,hou,hbu⟩
        have hrf:=hou.rf
        obtain ⟨au,cu,rfl,hu1,hu2,hcu⟩:=hou.rd
        unfold maxLen at hu2
        have HCU:Hid (∀ wr,FoR K P.blks.length w7 wr→∀ j,j<U.length→∃ bu ou,au=some ⟨bu,ou,none⟩∧wr.cell? ⟨bu,ou+j,none⟩=some (.int .i64 (U.getD j 0))):=fun wr hr j hj=>by
         obtain ⟨bu,ou,e1,e2⟩:=hcu j hj
         subst e1
         have h1:wc.heap.size≤bu:=hrf.2 _ _ _ rfl
         have h2:=World.block_lt_of_cell? _ _ e2
         refine ⟨bu,ou,rfl,?_⟩
         simp only [Nat.mul_one,Nat.add_zero] at e2
         rw [←e2]
         exact World.cell?_of_block (w:=w7) (a:=⟨bu,ou+j,none⟩) (hr.block bu h2 fun i hi e=>by have:=S.out.rlt hi;omega)
        have S7:=qkm (S.out.grow hb0.out hbu)
        clear hou hbu hrf hcu HU S d0 d1 d2 d3 d4 d5 d6 d7 d8 d9 d10
        go_wp2_with fail
        go_loopw [14] (fun uv wr=>∃ (u:Nat) (F:Nat→Nat→Bool),uv=.int .i64 (u:Int)∧u≤U.length∧Hid (FoS w3 wr K P F)∧Hid (qbi MT P (qdq s P b k u) F)∧Hid (FoR K P.blks.length w7 wr)) (fun uv _=>U.length-(intOf uv).toNat)
        case atStart=>exact ⟨0,F',rfl,Nat.zero_le _,S7,TL,FoR.refl _ _ _⟩
        case round=>
         clear S7 TL
         obtain ⟨u,F,rfl,hu,S,TL,R⟩:=hrel
         by_cases hlu:u<U.length
         ·have g11:decide (u<U.length)=true:=qkn hlu
          have g12:decide ((u:Int)<(U.length:Int))=true:=qkn (by omega)
          obtain ⟨bu,ou,eau,hcz⟩:=HCU.out wr R.out u hlu
          subst eau
          have LUS:=qkm (fun F2=>KUS.out u F F2 default hlu TL.out)
          have LNU:=qkm (KNU.out u F hlu TL.out)
          generalize U.getD u 0=z at *
          have HSP:=qkm (qgl vs s z wr (HSV.out.ext (Ext.below (HWX.out wr S.out.below))))
          have HC:Hid (Calls Try.prog 41 #[.pointer (some ⟨bF,0,none⟩),.int .i64 (b:Int),.int .i64 (k:Int),.agg #[.int .i64 0,.int .i64 0,.int .i64 0,.int .i64 0,.int .i64 0,.int .i64 0,.int .i64 0,.int .i64 0,.int .u32 0,.slice none 0 0,.bool false],.int .i64 z] wr (OnP w3 wr K P MT default z b k F)):=HONB.out wr F default (.slice none 0 0) k z S.out (fun h=>by rw [qh9] at h;cases h) (qhj _) (Nat.le_of_lt hlt)
          go_wp2_with fail
          refine HSP.out.mono ?_
          rintro e w8 ⟨rfl,rfl⟩
          rcases qie (qam s z) with hsz|hsz
          ·have TN:=qkm (LNU.out hsz)
           rw [hsz]
           clear LUS LNU HSP HC
           go_wp2_with fail
           go_roundw
           case rel=>exact ⟨u+1,F,by go_num,hlu,S,TN,R⟩
           case measure=>simp [intOf];omega
          ·rw [hsz]
           go_wp2_with fail
           refine HC.out.mono ?_
           rintro e w9 ⟨rfl,F2,hS2,hR2,hF2⟩
           have S2:=qkm hS2
           have R2:=qkm (R.out.trans hR2)
           have TN:=qkm (LUS.out F2 hsz hF2)
           clear hS2 hR2 hF2 HSP HC LUS LNU
           go_wp2_with fail
           go_roundw
           case rel=>exact ⟨u+1,F2,by go_num,hlu,S2,TN,R2⟩
           case measure=>simp [intOf];omega
         ·have g11:decide (u<U.length)=false:=qko hlu
          have g12:decide ((u:Int)<(U.length:Int))=false:=qko (by omega)
          have TN:=qkm (KKK.out u F hlu TL.out)
          go_wp2_with fail
          go_roundw
          case rel=>exact ⟨k+1,F,by go_num,hlt,S,TN⟩
          case measure=>simp [intOf];omega
      ·obtain rfl:k=L.length:=by omega
       have g9:decide (L.length<L.length)=false:=qko hlt
       have g10:decide ((L.length:Int)<(L.length:Int))=false:=qko (by omega)
       obtain ⟨x0,x1,x2,x3,x4,x5,l2⟩:=cl6 (HBP.out wr S.out.below)
       obtain ⟨c0,c1,c2⟩:=HCB.out
       have hE:=Ext.below (HWX.out wr S.out.below)
       replace c0:=hE _ _ c0
       replace c1:=hE _ _ c1
       replace c2:=hE _ _ c2
       clear hE
       rcases qie (BK.fin ==2) with h2|h2
       ·rcases qie (BK.fin ==3) with h3|h3
        ·have TN:=qkm (HNEN.out F (by rw [HES.out,h2,h3];rfl) TL.out)
         clear HEND HNEN HES
         go_wp2_with fail
         go_roundw
         case rel=>exact ⟨b+1,F,by go_num,hlb,S,TN⟩
         case measure=>simp [intOf];omega
        ·have HSP:=qkm (qgl vs s BK.a wr (HSV.out.ext (Ext.below (HWX.out wr S.out.below))))
         have HC:Hid (Calls Try.prog 41 #[.pointer (some ⟨bF,0,none⟩),.int .i64 (b:Int),.int .i64 (L.length:Int),.agg #[.int .i64 0,.int .i64 0,.int .i64 0,.int .i64 0,.int .i64 0,.int .i64 0,.int .i64 0,.int .i64 0,.int .u32 0,.slice none 0 0,.bool false],.int .i64 BK.a] wr (OnP w3 wr K P MT default BK.a b L.length F)):=HONB.out wr F default (.slice none 0 0) L.length BK.a S.out (fun h=>by rw [qh9] at h;cases h) (qhj _) (Nat.le_refl _)
         go_wp2_with fail
         refine HSP.out.mono ?_
         rintro e w8 ⟨rfl,rfl⟩
         rcases qie (qam s BK.a) with hsz|hsz
         ·have TN:=qkm (HNEN.out F (by rw [HES.out,hsz,Bool.and_false]) TL.out)
          rw [hsz]
          clear HSP HC HEND HNEN HES
          go_wp2_with fail
          go_roundw
          case rel=>exact ⟨b+1,F,by go_num,hlb,S,TN⟩
          case measure=>simp [intOf];omega
         ·have hes:=HES.out
          rw [hsz,h2,h3,Bool.false_or,Bool.and_true] at hes
          rw [hsz]
          go_wp2_with fail
          refine HC.out.mono ?_
          rintro e w9 ⟨rfl,F2,hS2,hR2,hF2⟩
          have S2:=qkm hS2
          have TN:=qkm (HEND.out F F2 default hes TL.out hF2)
          clear hS2 hR2 hF2 HSP HC HEND HNEN HES hes
          go_wp2_with fail
          go_roundw
          case rel=>exact ⟨b+1,F2,by go_num,hlb,S2,TN⟩
          case measure=>simp [intOf];omega
       ·have HSP:=qkm (qgl vs s BK.a wr (HSV.out.ext (Ext.below (HWX.out wr S.out.below))))
        have HC:Hid (Calls Try.prog 41 #[.pointer (some ⟨bF,0,none⟩),.int .i64 (b:Int),.int .i64 (L.length:Int),.agg #[.int .i64 0,.int .i64 0,.int .i64 0,.int .i64 0,.int .i64 0,.int .i64 0,.int .i64 0,.int .i64 0,.int .u32 0,.slice none 0 0,.bool false],.int .i64 BK.a] wr (OnP w3 wr K P MT default BK.a b L.length F)):=HONB.out wr F default (.slice none 0 0) L.length BK.a S.out (fun h=>by rw [qh9] at h;cases h) (qhj _) (Nat.le_refl _)
        go_wp2_with fail
        refine HSP.out.mono ?_
        rintro e w8 ⟨rfl,rfl⟩
        rcases qie (qam s BK.a) with hsz|hsz
        ·have TN:=qkm (HNEN.out F (by rw [HES.out,hsz,Bool.and_false]) TL.out)
         rw [hsz]
         clear HSP HC HEND HNEN HES
         go_wp2_with fail
         go_roundw
         case rel=>exact ⟨b+1,F,by go_num,hlb,S,TN⟩
         case measure=>simp [intOf];omega
        ·have hes:=HES.out
         rw [hsz,h2,Bool.true_or,Bool.and_true] at hes
         rw [hsz]
         go_wp2_with fail
         refine HC.out.mono ?_
         rintro e w9 ⟨rfl,F2,hS2,hR2,hF2⟩
         have S2:=qkm hS2
         have TN:=qkm (HEND.out F F2 default hes TL.out hF2)
         clear hS2 hR2 hF2 HSP HC HEND HNEN HES hes
         go_wp2_with fail
         go_roundw
         case rel=>exact ⟨b+1,F2,by go_num,hlb,S2,TN⟩
         case measure=>simp [intOf];omega
    ·obtain rfl:b=P.blks.length:=by omega
     have g7:decide (P.blks.length<P.blks.length)=false:=qko hlb
     have g8:decide ((P.blks.length:Int)<(P.blks.length:Int))=false:=qko (by omega)
     obtain ⟨z0,z1,z2,z3,z4,z5,z6,z7,z8,k0⟩:=qz7 (HBX.out wr F S.out)
     have hat:=HAT.out F TL.out
     have HAT2:=qkm hat
     clear hat
     go_wp2_with fail
     go_ret
     obtain ⟨hk1,hk2,hk3⟩:=HKF.out
     exact ⟨gA,cA,K.gs,F,ax,rfl,HC1.out.1,HC1.out.2,HWX.out wr S.out.below,fun i hi=>by
      have:=S.out.tab i hi
      rw [hk2] at this;exact this,S.out.row,HAT2.out,HEN.out,HCN.out⟩
end Go.Proofs.Ytmcddolkpcgddaa
