/-
 The document's answer for alias: may two loads or stores meet (Meet)?
-/
import Derived.Test.YtmcddolkpcgddaaZHazardFinds42
import Derived.Test.YtmcddolkpcgddaaZHazardFinds33
import Derived.Test.YtmcddolkpcgddaaZHazardFinds43
set_option maxHeartbeats 4000000
set_option maxRecDepth 100000
set_option linter.all false
namespace Go.Proofs.Ytmcddolkpcgddaa
open Go.ChangeShapes Go.WideShapes Go.ChangeAt Go.RowKit
def qtm (a b:List Bool) (t:Nat):Bool:=(List.range t).any fun i=>a.getD i false && b.getD i false
theorem qqk (a b:List Bool) (t:Nat):qtm a b (t+1)=(qtm a b t || (a.getD t false && b.getD t false)):=by
 unfold qtm;rw [List.range_succ,List.any_append];simp
def qc0 (x:AR) (T:Nat) (p:Pr) (a b:In):Bool :=
 qen a && qen b && qtm (x.regs.getD a.a.toNat []) (x.regs.getD b.a.toNat []) T && (!(exR p a.a).is || !(exR p b.a).is || qqe ((exR p a.a).off+a.off) ((exR p b.a).off+b.off) a.size b.size)
def qsf (n:Nat) (a:In):Prop:=(0≤a.a∧a.a<(n:Int))∧(-100000≤a.off∧a.off≤100000)∧1≤a.size∧a.size≤4
def qlc (e:Ex):Array Value:=#[.int .i64 e.thing,.int .i64 e.off,.bool e.is]
def q2x (W1:World) (e1 e2:Ex) (t11 t12:Value) (wx:World):Prop:=∃ b1 b2,t11=.pointer (some ⟨b1,0,none⟩)∧t12=.pointer (some ⟨b2,0,none⟩)∧
 Hid (wx.heap[b1]?=some (.cells (qlc e1) 199))∧Hid (wx.heap[b2]?=some (.cells (qlc e2) 199))∧Hid (Below W1.heap.size W1 wx)
theorem cl2 {w:World} {b:Nat} {t:TypeId} {c0 c1:Value} (h:w.heap[b]?=some (.cells #[c0,c1] t (0,0))) :
  w.cell? ⟨b,0,none⟩=some c0∧w.cell? ⟨b,1,none⟩=some c1∧b<w.heap.size:=⟨qab h 0,qab h 1,(qkp h).1⟩
theorem cl3 {w:World} {b:Nat} {t:TypeId} {c0 c1 c2:Value} (h:w.heap[b]?=some (.cells #[c0,c1,c2] t (0,0))) :
  w.cell? ⟨b,0,none⟩=some c0∧w.cell? ⟨b,1,none⟩=some c1∧w.cell? ⟨b,2,none⟩=some c2∧b<w.heap.size:=⟨qab h 0,qab h 1,qab h 2,(qkp h).1⟩
theorem qqx {i:In} (h:qen i=false):(i.op !=5)=true∧(i.op !=6)=true:=by
 unfold qen at h
 simp only [Bool.or_eq_false_iff] at h
 exact ⟨by rw [bne,h.1];rfl,by rw [bne,h.2];rfl⟩
theorem qnk {i:In} (h:qen i=true):(i.op !=5)=false∧(i.op !=6)=true∨(i.op !=5)=true∧(i.op !=6)=false:=by
 unfold qen at h
 by_cases h5:i.op=5
 ·rw [h5];exact .inl ⟨rfl,rfl⟩
 ·right
  have:i.op=6:=by
   rw [beq_eq_false_iff_ne.2 h5,Bool.false_or] at h
   exact beq_iff_eq.1 h
  rw [this];exact ⟨rfl,rfl⟩
theorem qe1 {n b:Nat} (w:World) (u v x:Value) (h:¬ b<n):qbp (fun z=>z<n) w (((w.setCell ⟨b,0,none⟩ u).setCell ⟨b,1,none⟩ v).setCell ⟨b,2,none⟩ x):=(((qbp.refl _ w).set u h).set v h).set x h
theorem qd5 {B:Nat} {w w1:World} {b:Nat} (h:Below B w w1) (hb:B≤b) (u v y:Value):Below B w (((w1.setCell ⟨b,0,none⟩ u).setCell ⟨b,1,none⟩ v).setCell ⟨b,2,none⟩ y) :=
 ((h.setCell (p:=⟨b,0,none⟩) hb u).setCell (p:=⟨b,1,none⟩) hb v).setCell (p:=⟨b,2,none⟩) hb y
theorem qv4 (w0:World) (k:AlK) (x:AR) (p:Pr) (i1 i2:In) (va vb U:Value) (w:World) (h:AlM w0 w k x) (hp:PrV w U p) (hT:k.T≤1000) (hn:k.n≤1000)
  (h1:qen i1=true→qsf k.n i1) (h2:qen i2=true→qsf k.n i2) (hof:∀ r, -100000≤(exR p r).off∧(exR p r).off≤100000)
  (hbl:p.blks.length≤1000) (hil:∀ b∈p.blks,b.ins.length≤1000) (hol:p.objs.length≤1000) (hob:∀ b∈p.blks,∀ i∈b.ins,i.op=8→0≤i.obj∧i.obj≤1000) :
  Calls Try.prog 122 #[.agg #[k.vr,qbf k.ro.1 k.T k.ro.2],U,qbu i1 va,qbu i2 vb] w fun e w'=>e=.returned (.bool (qc0 x k.T p i1 i2))∧Below w.heap.size w w':=by
 have V:=qkm h
 have HOF:=qkm hof
 have HEX:Hid (∀ (r:Int) W,Ext w W→Calls Try.prog 141 #[U,.int .i64 r] W fun e w'=>e=.returned (.agg #[.int .i64 (exR p r).thing,.int .i64 (exR p r).off,.bool (exR p r).is])∧Below W.heap.size W w'):=fun r W hW=>qss p r U W (hp.ext hW) hbl hil hol hob
 obtain ⟨nm,vo,vb',rfl,hvo,hvb⟩:=hp
 obtain ⟨ao,co,rfl, -⟩:=hvo
 obtain ⟨ab,cb,rfl, -⟩:=hvb
 obtain ⟨av,cv,hvr⟩:∃ a c,k.vr=.slice a k.n c:=qc9 h.tab (by rw [List.length_map];exact h.rl)
 rw [hvr]
 have Hvr:=qkm hvr
 clear h hof hbl hil hol hob hvr
 have HX:Hid (qc0 x k.T p i1 i2=(qen i1 && qen i2 && qtm (x.regs.getD i1.a.toNat []) (x.regs.getD i2.a.toNat []) k.T && (!(exR p i1.a).is || !(exR p i2.a).is || qqe ((exR p i1.a).off+i1.off) ((exR p i2.a).off+i2.off) i1.size i2.size))):=rfl
 generalize qc0 x k.T p i1 i2=R at *
 unfold qbf
 cases m1:qen i1
 ·rw [m1,Bool.false_and,Bool.false_and,Bool.false_and] at HX
  obtain ⟨g1,g2⟩:=qqx m1
  clear h1 h2 m1
  obtain ⟨op,d,a,b,fn,obj,off,size,num,args,lg⟩:=i1
  obtain ⟨op',d',a',b',fn',obj',off',size',num',args',lg'⟩:=i2
  unfold qbu
  dsimp only at g1 g2 ⊢
  obtain ⟨W1,hW1⟩:∃ W1,W1=qbj w [.cells #[.slice av k.n cv,.slice (some ⟨k.ro.1,0,none⟩) k.T k.ro.2] 96,.cells #[.string nm,.bool p.void,.int .i64 p.params,.int .i64 p.regs,.slice ao p.objs.length co,.slice ab p.blks.length cb] 32,.cells #[.int .i64 op,.int .i64 d,.int .i64 a,.int .i64 b,.int .i64 fn,.int .i64 obj,.int .i64 off,.int .i64 size,.int .u32 num,va,.bool lg] 58,.cells #[.int .i64 op',.int .i64 d',.int .i64 a',.int .i64 b',.int .i64 fn',.int .i64 obj',.int .i64 off',.int .i64 size',.int .u32 num',vb,.bool lg'] 58]:=⟨_,rfl⟩
  have BB:Hid (Below w.heap.size w W1):=by rw [hW1];exact qa0 _ _
  have HZ:Hid (W1.heap.size=w.heap.size+4):=by rw [hW1,qb9];rfl
  have H0:Hid (W1.heap[w.heap.size]?=some (.cells #[.slice av k.n cv,.slice (some ⟨k.ro.1,0,none⟩) k.T k.ro.2] 96)):=by rw [hW1];exact qai _ w 0 (by simp)
  have H1:Hid (W1.heap[w.heap.size+1]?=some (.cells #[.string nm,.bool p.void,.int .i64 p.params,.int .i64 p.regs,.slice ao p.objs.length co,.slice ab p.blks.length cb] 32)):=by rw [hW1];exact qai _ w 1 (by simp)
  have H2:Hid (W1.heap[w.heap.size+2]?=some (.cells #[.int .i64 op,.int .i64 d,.int .i64 a,.int .i64 b,.int .i64 fn,.int .i64 obj,.int .i64 off,.int .i64 size,.int .u32 num,va,.bool lg] 58)):=by rw [hW1];exact qai _ w 2 (by simp)
  have H3:Hid (W1.heap[w.heap.size+3]?=some (.cells #[.int .i64 op',.int .i64 d',.int .i64 a',.int .i64 b',.int .i64 fn',.int .i64 obj',.int .i64 off',.int .i64 size',.int .u32 num',vb,.bool lg'] 58)):=by rw [hW1];exact qai _ w 3 (by simp)
  have HW1:Hid ((((w.alloc (.cells #[.slice av k.n cv,.slice (some ⟨k.ro.1,0,none⟩) k.T k.ro.2] 96)).alloc (.cells #[.string nm,.bool p.void,.int .i64 p.params,.int .i64 p.regs,.slice ao p.objs.length co,.slice ab p.blks.length cb] 32)).alloc (.cells #[.int .i64 op,.int .i64 d,.int .i64 a,.int .i64 b,.int .i64 fn,.int .i64 obj,.int .i64 off,.int .i64 size,.int .u32 num,va,.bool lg] 58)).alloc (.cells #[.int .i64 op',.int .i64 d',.int .i64 a',.int .i64 b',.int .i64 fn',.int .i64 obj',.int .i64 off',.int .i64 size',.int .u32 num',vb,.bool lg'] 58)=W1):=hW1.symm
  clear hW1
  obtain ⟨v0,v1,lv0⟩:=cl2 H0.out
  obtain ⟨p0,p1,p2,p3,p4,p5,lp⟩:=cl6 H1.out
  obtain ⟨x0,x1,x2,x3,x4,x5,x6,x7,x8,x9,x10,l0⟩:=qau H2.out
  obtain ⟨y0,y1,y2,y3,y4,y5,y6,y7,y8,y9,y10,l1⟩:=qau H3.out
  go_enter Try.func122,Try.ntmps122
  go_wp2_with fail
  go_ret
  rw [HW1.out]
  exact ⟨qah HX.out.symm,BB.out⟩
 ·have A1:=h1 m1
  clear h1
  rw [m1,Bool.true_and] at HX
  cases m2:qen i2
  ·rw [m2,Bool.false_and,Bool.false_and] at HX
   obtain ⟨g3,g4⟩:=qqx m2
   clear h2 m2 A1
   obtain ⟨op,d,a,b,fn,obj,off,size,num,args,lg⟩:=i1
   obtain ⟨op',d',a',b',fn',obj',off',size',num',args',lg'⟩:=i2
   unfold qbu
   dsimp only at g3 g4 ⊢
   have HM:=qkm (qnk m1)
   clear m1
   dsimp only at HM
   obtain ⟨W1,hW1⟩:∃ W1,W1=qbj w [.cells #[.slice av k.n cv,.slice (some ⟨k.ro.1,0,none⟩) k.T k.ro.2] 96,.cells #[.string nm,.bool p.void,.int .i64 p.params,.int .i64 p.regs,.slice ao p.objs.length co,.slice ab p.blks.length cb] 32,.cells #[.int .i64 op,.int .i64 d,.int .i64 a,.int .i64 b,.int .i64 fn,.int .i64 obj,.int .i64 off,.int .i64 size,.int .u32 num,va,.bool lg] 58,.cells #[.int .i64 op',.int .i64 d',.int .i64 a',.int .i64 b',.int .i64 fn',.int .i64 obj',.int .i64 off',.int .i64 size',.int .u32 num',vb,.bool lg'] 58]:=⟨_,rfl⟩
   have BB:Hid (Below w.heap.size w W1):=by rw [hW1];exact qa0 _ _
   have HZ:Hid (W1.heap.size=w.heap.size+4):=by rw [hW1,qb9];rfl
   have H0:Hid (W1.heap[w.heap.size]?=some (.cells #[.slice av k.n cv,.slice (some ⟨k.ro.1,0,none⟩) k.T k.ro.2] 96)):=by rw [hW1];exact qai _ w 0 (by simp)
   have H1:Hid (W1.heap[w.heap.size+1]?=some (.cells #[.string nm,.bool p.void,.int .i64 p.params,.int .i64 p.regs,.slice ao p.objs.length co,.slice ab p.blks.length cb] 32)):=by rw [hW1];exact qai _ w 1 (by simp)
   have H2:Hid (W1.heap[w.heap.size+2]?=some (.cells #[.int .i64 op,.int .i64 d,.int .i64 a,.int .i64 b,.int .i64 fn,.int .i64 obj,.int .i64 off,.int .i64 size,.int .u32 num,va,.bool lg] 58)):=by rw [hW1];exact qai _ w 2 (by simp)
   have H3:Hid (W1.heap[w.heap.size+3]?=some (.cells #[.int .i64 op',.int .i64 d',.int .i64 a',.int .i64 b',.int .i64 fn',.int .i64 obj',.int .i64 off',.int .i64 size',.int .u32 num',vb,.bool lg'] 58)):=by rw [hW1];exact qai _ w 3 (by simp)
   have HW1:Hid ((((w.alloc (.cells #[.slice av k.n cv,.slice (some ⟨k.ro.1,0,none⟩) k.T k.ro.2] 96)).alloc (.cells #[.string nm,.bool p.void,.int .i64 p.params,.int .i64 p.regs,.slice ao p.objs.length co,.slice ab p.blks.length cb] 32)).alloc (.cells #[.int .i64 op,.int .i64 d,.int .i64 a,.int .i64 b,.int .i64 fn,.int .i64 obj,.int .i64 off,.int .i64 size,.int .u32 num,va,.bool lg] 58)).alloc (.cells #[.int .i64 op',.int .i64 d',.int .i64 a',.int .i64 b',.int .i64 fn',.int .i64 obj',.int .i64 off',.int .i64 size',.int .u32 num',vb,.bool lg'] 58)=W1):=hW1.symm
   clear hW1
   obtain ⟨v0,v1,lv0⟩:=cl2 H0.out
   obtain ⟨p0,p1,p2,p3,p4,p5,lp⟩:=cl6 H1.out
   obtain ⟨x0,x1,x2,x3,x4,x5,x6,x7,x8,x9,x10,l0⟩:=qau H2.out
   obtain ⟨y0,y1,y2,y3,y4,y5,y6,y7,y8,y9,y10,l1⟩:=qau H3.out
   go_enter Try.func122,Try.ntmps122
   rcases HM.out with ⟨g1,g2⟩|⟨g1,g2⟩
   ·go_wp2_with fail
    go_ret
    rw [HW1.out]
    exact ⟨qah HX.out.symm,BB.out⟩
   ·go_wp2_with fail
    go_ret
    rw [HW1.out]
    exact ⟨qah HX.out.symm,BB.out⟩
  ·have A2:=h2 m2
   rw [m2,Bool.true_and] at HX
   clear h2
   obtain ⟨op,d,a,b,fn,obj,off,size,num,args,lg⟩:=i1
   obtain ⟨op',d',a',b',fn',obj',off',size',num',args',lg'⟩:=i2
   unfold qbu
   obtain ⟨⟨ra0,ra1⟩,⟨oa0,oa1⟩,sa0,sa1⟩:=A1
   obtain ⟨⟨rb0,rb1⟩,⟨ob0,ob1⟩,sb0,sb1⟩:=A2
   dsimp only at ra0 ra1 oa0 oa1 sa0 sa1 rb0 rb1 ob0 ob1 sb0 sb1 HX ⊢
   have HM1:=qkm (qnk m1)
   have HM2:=qkm (qnk m2)
   clear m1 m2
   dsimp only at HM1 HM2
   obtain ⟨a,rfl⟩:=Int.eq_ofNat_of_zero_le ra0
   obtain ⟨a',rfl⟩:=Int.eq_ofNat_of_zero_le rb0
   have la:a<k.n:=by omega
   have lb:a'<k.n:=by omega
   simp only [Int.toNat_natCast] at HX
   obtain ⟨W1,hW1⟩:∃ W1,W1=qbj w [.cells #[.slice av k.n cv,.slice (some ⟨k.ro.1,0,none⟩) k.T k.ro.2] 96,.cells #[.string nm,.bool p.void,.int .i64 p.params,.int .i64 p.regs,.slice ao p.objs.length co,.slice ab p.blks.length cb] 32,.cells #[.int .i64 op,.int .i64 d,.int .i64 a,.int .i64 b,.int .i64 fn,.int .i64 obj,.int .i64 off,.int .i64 size,.int .u32 num,va,.bool lg] 58,.cells #[.int .i64 op',.int .i64 d',.int .i64 a',.int .i64 b',.int .i64 fn',.int .i64 obj',.int .i64 off',.int .i64 size',.int .u32 num',vb,.bool lg'] 58]:=⟨_,rfl⟩
   have BB:Hid (Below w.heap.size w W1):=by rw [hW1];exact qa0 _ _
   have HZ:Hid (W1.heap.size=w.heap.size+4):=by rw [hW1,qb9];rfl
   have H0:Hid (W1.heap[w.heap.size]?=some (.cells #[.slice av k.n cv,.slice (some ⟨k.ro.1,0,none⟩) k.T k.ro.2] 96)):=by rw [hW1];exact qai _ w 0 (by simp)
   have H1:Hid (W1.heap[w.heap.size+1]?=some (.cells #[.string nm,.bool p.void,.int .i64 p.params,.int .i64 p.regs,.slice ao p.objs.length co,.slice ab p.blks.length cb] 32)):=by rw [hW1];exact qai _ w 1 (by simp)
   have H2:Hid (W1.heap[w.heap.size+2]?=some (.cells #[.int .i64 op,.int .i64 d,.int .i64 a,.int .i64 b,.int .i64 fn,.int .i64 obj,.int .i64 off,.int .i64 size,.int .u32 num,va,.bool lg] 58)):=by rw [hW1];exact qai _ w 2 (by simp)
   have H3:Hid (W1.heap[w.heap.size+3]?=some (.cells #[.int .i64 op',.int .i64 d',.int .i64 a',.int .i64 b',.int .i64 fn',.int .i64 obj',.int .i64 off',.int .i64 size',.int .u32 num',vb,.bool lg'] 58)):=by rw [hW1];exact qai _ w 3 (by simp)
   have HW1:Hid ((((w.alloc (.cells #[.slice av k.n cv,.slice (some ⟨k.ro.1,0,none⟩) k.T k.ro.2] 96)).alloc (.cells #[.string nm,.bool p.void,.int .i64 p.params,.int .i64 p.regs,.slice ao p.objs.length co,.slice ab p.blks.length cb] 32)).alloc (.cells #[.int .i64 op,.int .i64 d,.int .i64 a,.int .i64 b,.int .i64 fn,.int .i64 obj,.int .i64 off,.int .i64 size,.int .u32 num,va,.bool lg] 58)).alloc (.cells #[.int .i64 op',.int .i64 d',.int .i64 a',.int .i64 b',.int .i64 fn',.int .i64 obj',.int .i64 off',.int .i64 size',.int .u32 num',vb,.bool lg'] 58)=W1):=hW1.symm
   clear hW1
   obtain ⟨v0,v1,lv0⟩:=cl2 H0.out
   obtain ⟨p0,p1,p2,p3,p4,p5,lp⟩:=cl6 H1.out
   obtain ⟨x0,x1,x2,x3,x4,x5,x6,x7,x8,x9,x10,l0⟩:=qau H2.out
   obtain ⟨y0,y1,y2,y3,y4,y5,y6,y7,y8,y9,y10,l1⟩:=qau H3.out
   go_enter Try.func122,Try.ntmps122
   go_upto_region 1 with (fail)
   rw [HW1.out]
   clear HW1
   go_cut [32] from 15 to 31 (fun t32 wx=>t32=.bool false∧W1=wx)
   case first=>
    rcases HM1.out with ⟨g1,g2⟩|⟨g1,g2⟩ <;> rcases HM2.out with ⟨g3,g4⟩|⟨g3,g4⟩
    all_goals
     go_wp2_with fail
     go_meet
     exact ⟨rfl,rfl⟩
   case rest=>
    obtain ⟨rfl,rfl⟩:=hcut
    clear HM1 HM2
    have VG:=V.out.grow BB.out
    obtain ⟨br,cp,hvr',e1,e2,e3, -,e4, -⟩:=VG.at la
    rw [Hvr.out] at hvr'
    simp only [Value.slice.injEq,true_and] at hvr'
    obtain ⟨rfl,rfl⟩:=hvr'
    have ya:=e4 a la
    have yb:=e4 a' lb
    obtain ⟨-,fa0,fa, -,fca, -,fla⟩:=(VG.row a la).cellAt
    obtain ⟨-,fb0,fb, -,fcb, -,flb⟩:=(VG.row a' lb).cellAt
    obtain ⟨-,fo0,fo, -⟩:=VG.out.cellAt
    have HFa:=qkm fca
    have HFb:=qkm fcb
    clear e4 VG fca fcb
    unfold qbf at ya yb
    unfold maxLen at e2 fa fb fo
    have ga1:decide (a<k.n)=true:=qkn la
    have ga2:decide ((a:Int)<(k.n:Int))=true:=qkn (by omega)
    have gb1:decide (a'<k.n)=true:=qkn lb
    have gb2:decide ((a':Int)<(k.n:Int))=true:=qkn (by omega)
    generalize k.rs.getD a (0,0)=Ra at *
    generalize k.rs.getD a' (0,0)=Rb at *
    obtain ⟨ga,ka⟩:=Ra
    obtain ⟨gb,kb⟩:=Rb
    dsimp only at ya yb HFa HFb fa fb fa0 fb0 fla flb
    generalize x.regs.getD a []=LA at *
    generalize x.regs.getD a' []=LB at *
    have HV9:=qkm V
    clear V Hvr
    generalize k.T=T at *
    generalize k.n=N at *
    generalize k.ro.2=oc at *
    generalize k.ro.1=og at *
    have o1:=HOF.out (a:Int)
    have o2:=HOF.out (a':Int)
    have HE1:=qkm (HEX.out (a:Int))
    have HE2:=qkm (HEX.out (a':Int))
    clear HOF HEX
    generalize exR p (a:Int)=E1 at *
    generalize exR p (a':Int)=E2 at *
    obtain ⟨t1,f1,s1⟩:=E1
    obtain ⟨t2,f2,s2⟩:=E2
    dsimp only at o1 o2 HX HE1 HE2
    obtain ⟨o1a,o1b⟩:=o1
    obtain ⟨o2a,o2b⟩:=o2
    go_wp2_with fail
    go_loopw [9,10] (fun s i wr=>∃ t:Nat,t≤T∧s=.bool (qtm LA LB t)∧i=.int .i64 (t:Int)∧W1=wr) (fun _ i _=>T-(intOf i).toNat)
    case atStart=>exact ⟨0,Nat.zero_le _,rfl,rfl,rfl⟩
    case round=>
     obtain ⟨t,ht,rfl,rfl,rfl⟩:=hrel
     by_cases hlt:t<T
     ·have gt1:decide (t<T)=true:=qkn hlt
      have gt2:decide ((t:Int)<(T:Int))=true:=qkn (by omega)
      have ca:=HFa.out t hlt
      have cb2:=HFb.out t hlt
      have HS:=qkm (qqk LA LB t)
      generalize hA:LA.getD t false=A at *
      generalize hB:LB.getD t false=B at *
      generalize hQ:qtm LA LB t=Q at *
      clear hA hB hQ
      cases Q
      ·cases A
       ·go_wp2_with fail
        go_roundw
        case rel=>exact ⟨t+1,hlt,by rw [HS.out];rfl,by go_num,trivial⟩
        case measure=>simp [intOf];omega
       ·cases B
        ·go_wp2_with fail
         go_roundw
         case rel=>exact ⟨t+1,hlt,by rw [HS.out];rfl,by go_num,trivial⟩
         case measure=>simp [intOf];omega
        ·go_wp2_with fail
         go_roundw
         case rel=>exact ⟨t+1,hlt,by rw [HS.out];rfl,by go_num,trivial⟩
         case measure=>simp [intOf];omega
      ·go_wp2_with fail
       go_roundw
       case rel=>exact ⟨t+1,hlt,by rw [HS.out,Bool.true_or],by go_num,trivial⟩
       case measure=>simp [intOf];omega
     ·obtain rfl:T=t:=by omega
      have gt2:decide ((T:Int)<(T:Int))=false:=qko (by omega)
      generalize qtm LA LB T=both at *
      go_wp2_with fail
      clear gt2 ya yb ga1 ga2 gb1 gb2 HFa HFb
      go_cut [11,12] from 63 to 70 (fun t11 t12 wx=>q2x W1 ⟨t1,f1,s1⟩ ⟨t2,f2,s2⟩ t11 t12 wx)
      case first=>
       refine qih (fun z=>z<W1.heap.size) (by kernel_rfl) ?_
       have HEW:Hid (Ext w W1):=Ext.below BB.out
       have HSZ:Hid (w.heap.size≤W1.heap.size):=BB.out.size
       refine qwq [0,1,2,4,5,6] _ _ _ _ (by kernel_rfl) ?_
       simp only [qka,qkb,qkc,qkd,qke,qkf,qkg,qkh,qki,Nat.reduceAdd,Nat.reduceSub]
       repeat (go_big_quiet_step (fail))
       refine wpQuiet_nil ?_
       refine qwl 3 _ (.agg #[.int .i64 t1,.int .i64 f1,.bool s1]) rfl (by kernel_rfl) rfl ?_ ?_
       all_goals simp only [qkj,qkk,qkl]
       ·intro wk hk
        go_wp2_with fail
        refine (HE1.out wk (hk.ext HEW.out HSZ.out)).mono ?_
        rintro e wz ⟨rfl,hb⟩
        go_wp2_with fail
        exact ⟨rfl,hb⟩
       simp only [Act.put,List.setIfInBounds_toArray,List.set_cons_succ,List.set_cons_zero]
       refine qwl 7 _ (.agg #[.int .i64 t2,.int .i64 f2,.bool s2]) rfl (by kernel_rfl) rfl ?_ ?_
       all_goals simp only [qkj,qkk,qkl]
       ·intro wk hk
        go_wp2_with fail
        refine (HE2.out wk (hk.ext HEW.out HSZ.out)).mono ?_
        rintro e wz ⟨rfl,hb⟩
        go_wp2_with fail
        exact ⟨rfl,hb⟩
       simp only [Act.put,List.setIfInBounds_toArray,List.set_cons_succ,List.set_cons_zero]
       have BC:Hid (Below W1.heap.size W1 W1):=Below.refl _ _
       refine qzp 8 9 _ _ rfl rfl (by kernel_rfl) ?_ ?_
       ·simp only [qkj,qkk,qkl]
        intro wj hj
        have BC:=qkm (BC.out.trans (hj.mono BC.out.size))
        go_wp2_with fail
        refine ⟨qbp.below (qaa _ _),?_⟩
        have hA:=qaa wj (.cells #[.int .i64 0,.int .i64 0,.bool false] 199)
        have Zb1:Hid ((wj.alloc (.cells #[.int .i64 0,.int .i64 0,.bool false] 199)).heap[wj.heap.size]?=_):=heap_alloc_new wj _
        obtain ⟨b1,hb1⟩:∃ b,b=wj.heap.size:=⟨_,rfl⟩
        rw [←hb1] at Zb1 ⊢
        have lb1:W1.heap.size≤b1:=by rw [hb1];exact BC.out.size
        have hlt:b1<(wj.alloc (.cells #[.int .i64 0,.int .i64 0,.bool false] 199)).heap.size:=by rw [hb1];simp
        have BC:=qkm (BC.out.trans (hA.mono BC.out.size))
        generalize wj.alloc (.cells #[.int .i64 0,.int .i64 0,.bool false] 199)=w5 at *
        clear hA hj hb1
        refine qgs 9 _ rfl (by kernel_rfl) ?_
        simp only [qkj,qkk,qkl]
        intro wj hj
        have BC:=qkm (BC.out.trans (hj.mono BC.out.size))
        have Zb1:=qkm ((hj.block _ hlt).trans Zb1.out)
        have hlt1:b1<wj.heap.size:=Nat.lt_of_lt_of_le hlt hj.size
        go_wp2_with fail
        refine ⟨qbp.below (qaa _ _),?_⟩
        have hA:=qaa wj (.cells #[.int .i64 0,.int .i64 0,.bool false] 199)
        have Zb2:Hid ((wj.alloc (.cells #[.int .i64 0,.int .i64 0,.bool false] 199)).heap[wj.heap.size]?=_):=heap_alloc_new wj _
        obtain ⟨b2,hb2⟩:∃ b,b=wj.heap.size:=⟨_,rfl⟩
        rw [←hb2] at Zb2 ⊢
        have lb2:W1.heap.size≤b2:=by rw [hb2];exact BC.out.size
        have hlt:b2<(wj.alloc (.cells #[.int .i64 0,.int .i64 0,.bool false] 199)).heap.size:=by rw [hb2];simp
        have BC:=qkm (BC.out.trans (hA.mono BC.out.size))
        have Zb1:=qkm ((hA.block _ hlt1).trans Zb1.out)
        have hne:b1≠b2:=by omega
        generalize wj.alloc (.cells #[.int .i64 0,.int .i64 0,.bool false] 199)=w6 at *
        clear hA hj hb2 hlt hlt1
        refine qgs 10 _ rfl (by kernel_rfl) ?_
        simp only [qkj,qkk,qkl]
        intro wj hj
        have Zb1:=qkm ((hj.block _ (qkp Zb1.out).1).trans Zb1.out)
        have Zb2:=qkm ((hj.block _ (qkp Zb2.out).1).trans Zb2.out)
        have BC:=qkm (BC.out.trans (hj.mono BC.out.size))
        have zc:=cl3 Zb1.out
        obtain ⟨z0,z1,z2,zl⟩:=zc
        have q0:=qac Zb1.out 0
        have q1:=qac Zb1.out 1
        have q2:=qac Zb1.out 2
        go_wp2_with fail
        refine ⟨qe1 _ _ _ _ (by omega),?_⟩
        have BS:=qd5 BC.out (b:=b1) lb1 (.int .i64 t1) (.int .i64 f1) (.bool s1)
        have Zb1:=qkm (qcy Zb1.out (.int .i64 t1) (.int .i64 f1) (.bool s1))
        have Zb2:=qkm (qb1 Zb2.out (Ne.symm hne) (.int .i64 t1) (.int .i64 f1) (.bool s1))
        have BC:=qkm BS
        generalize ((wj.setCell ⟨b1,0,none⟩ (.int .i64 t1)).setCell ⟨b1,1,none⟩ (.int .i64 f1)).setCell ⟨b1,2,none⟩ (.bool s1)=w7 at *
        clear BS hj z0 z1 z2 zl q0 q1 q2
        refine qgs 11 _ rfl (by kernel_rfl) ?_
        simp only [qkj,qkk,qkl]
        intro wj hj
        have Zb1:=qkm ((hj.block _ (qkp Zb1.out).1).trans Zb1.out)
        have Zb2:=qkm ((hj.block _ (qkp Zb2.out).1).trans Zb2.out)
        have BC:=qkm (BC.out.trans (hj.mono BC.out.size))
        have zc:=cl3 Zb2.out
        obtain ⟨z0,z1,z2,zl⟩:=zc
        have q0:=qac Zb2.out 0
        have q1:=qac Zb2.out 1
        have q2:=qac Zb2.out 2
        go_wp2_with fail
        refine ⟨qe1 _ _ _ _ (by omega),?_⟩
        have BS:=qd5 BC.out (b:=b2) lb2 (.int .i64 t2) (.int .i64 f2) (.bool s2)
        have Zb2:=qkm (qcy Zb2.out (.int .i64 t2) (.int .i64 f2) (.bool s2))
        have Zb1:=qkm (qb1 Zb1.out hne (.int .i64 t2) (.int .i64 f2) (.bool s2))
        have BC:=qkm BS
        generalize ((wj.setCell ⟨b2,0,none⟩ (.int .i64 t2)).setCell ⟨b2,1,none⟩ (.int .i64 f2)).setCell ⟨b2,2,none⟩ (.bool s2)=w8 at *
        clear BS hj z0 z1 z2 zl q0 q1 q2
        refine qwo (by kernel_rfl) (fun wj hj=>?_) _
        have Zb1:=qkm ((hj.block _ (qkp Zb1.out).1).trans Zb1.out)
        have Zb2:=qkm ((hj.block _ (qkp Zb2.out).1).trans Zb2.out)
        have BC:=qkm (BC.out.trans (hj.mono BC.out.size))
        go_wp2_with fail
        go_meet
        case rel=>exact ⟨b1,b2,rfl,rfl,Zb1,Zb2,BC⟩
       ·simp only [qkj,qkk,qkl]
        intro wj hj
        have BC:=qkm (BC.out.trans (hj.mono BC.out.size))
        go_wp2_with fail
        refine ⟨qbp.below (qaa _ _),?_⟩
        have hA:=qaa wj (.cells #[.int .i64 0,.int .i64 0,.bool false] 199)
        have Zb2:Hid ((wj.alloc (.cells #[.int .i64 0,.int .i64 0,.bool false] 199)).heap[wj.heap.size]?=_):=heap_alloc_new wj _
        obtain ⟨b2,hb2⟩:∃ b,b=wj.heap.size:=⟨_,rfl⟩
        rw [←hb2] at Zb2 ⊢
        have lb2:W1.heap.size≤b2:=by rw [hb2];exact BC.out.size
        have hlt:b2<(wj.alloc (.cells #[.int .i64 0,.int .i64 0,.bool false] 199)).heap.size:=by rw [hb2];simp
        have BC:=qkm (BC.out.trans (hA.mono BC.out.size))
        generalize wj.alloc (.cells #[.int .i64 0,.int .i64 0,.bool false] 199)=w5 at *
        clear hA hj hb2
        refine qgs 8 _ rfl (by kernel_rfl) ?_
        simp only [qkj,qkk,qkl]
        intro wj hj
        have BC:=qkm (BC.out.trans (hj.mono BC.out.size))
        have Zb2:=qkm ((hj.block _ hlt).trans Zb2.out)
        have hlt1:b2<wj.heap.size:=Nat.lt_of_lt_of_le hlt hj.size
        go_wp2_with fail
        refine ⟨qbp.below (qaa _ _),?_⟩
        have hA:=qaa wj (.cells #[.int .i64 0,.int .i64 0,.bool false] 199)
        have Zb1:Hid ((wj.alloc (.cells #[.int .i64 0,.int .i64 0,.bool false] 199)).heap[wj.heap.size]?=_):=heap_alloc_new wj _
        obtain ⟨b1,hb1⟩:∃ b,b=wj.heap.size:=⟨_,rfl⟩
        rw [←hb1] at Zb1 ⊢
        have lb1:W1.heap.size≤b1:=by rw [hb1];exact BC.out.size
        have hlt:b1<(wj.alloc (.cells #[.int .i64 0,.int .i64 0,.bool false] 199)).heap.size:=by rw [hb1];simp
        have BC:=qkm (BC.out.trans (hA.mono BC.out.size))
        have Zb2:=qkm ((hA.block _ hlt1).trans Zb2.out)
        have hne:b1≠b2:=by omega
        generalize wj.alloc (.cells #[.int .i64 0,.int .i64 0,.bool false] 199)=w6 at *
        clear hA hj hb1 hlt hlt1
        refine qgs 10 _ rfl (by kernel_rfl) ?_
        simp only [qkj,qkk,qkl]
        intro wj hj
        have Zb1:=qkm ((hj.block _ (qkp Zb1.out).1).trans Zb1.out)
        have Zb2:=qkm ((hj.block _ (qkp Zb2.out).1).trans Zb2.out)
        have BC:=qkm (BC.out.trans (hj.mono BC.out.size))
        have zc:=cl3 Zb1.out
        obtain ⟨z0,z1,z2,zl⟩:=zc
        have q0:=qac Zb1.out 0
        have q1:=qac Zb1.out 1
        have q2:=qac Zb1.out 2
        go_wp2_with fail
        refine ⟨qe1 _ _ _ _ (by omega),?_⟩
        have BS:=qd5 BC.out (b:=b1) lb1 (.int .i64 t1) (.int .i64 f1) (.bool s1)
        have Zb1:=qkm (qcy Zb1.out (.int .i64 t1) (.int .i64 f1) (.bool s1))
        have Zb2:=qkm (qb1 Zb2.out (Ne.symm hne) (.int .i64 t1) (.int .i64 f1) (.bool s1))
        have BC:=qkm BS
        generalize ((wj.setCell ⟨b1,0,none⟩ (.int .i64 t1)).setCell ⟨b1,1,none⟩ (.int .i64 f1)).setCell ⟨b1,2,none⟩ (.bool s1)=w7 at *
        clear BS hj z0 z1 z2 zl q0 q1 q2
        refine qgs 11 _ rfl (by kernel_rfl) ?_
        simp only [qkj,qkk,qkl]
        intro wj hj
        have Zb1:=qkm ((hj.block _ (qkp Zb1.out).1).trans Zb1.out)
        have Zb2:=qkm ((hj.block _ (qkp Zb2.out).1).trans Zb2.out)
        have BC:=qkm (BC.out.trans (hj.mono BC.out.size))
        have zc:=cl3 Zb2.out
        obtain ⟨z0,z1,z2,zl⟩:=zc
        have q0:=qac Zb2.out 0
        have q1:=qac Zb2.out 1
        have q2:=qac Zb2.out 2
        go_wp2_with fail
        refine ⟨qe1 _ _ _ _ (by omega),?_⟩
        have BS:=qd5 BC.out (b:=b2) lb2 (.int .i64 t2) (.int .i64 f2) (.bool s2)
        have Zb2:=qkm (qcy Zb2.out (.int .i64 t2) (.int .i64 f2) (.bool s2))
        have Zb1:=qkm (qb1 Zb1.out hne (.int .i64 t2) (.int .i64 f2) (.bool s2))
        have BC:=qkm BS
        generalize ((wj.setCell ⟨b2,0,none⟩ (.int .i64 t2)).setCell ⟨b2,1,none⟩ (.int .i64 f2)).setCell ⟨b2,2,none⟩ (.bool s2)=w8 at *
        clear BS hj z0 z1 z2 zl q0 q1 q2
        refine qwo (by kernel_rfl) (fun wj hj=>?_) _
        have Zb1:=qkm ((hj.block _ (qkp Zb1.out).1).trans Zb1.out)
        have Zb2:=qkm ((hj.block _ (qkp Zb2.out).1).trans Zb2.out)
        have BC:=qkm (BC.out.trans (hj.mono BC.out.size))
        go_wp2_with fail
        go_meet
        case rel=>exact ⟨b1,b2,rfl,rfl,Zb1,Zb2,BC⟩
      case rest=>
       obtain ⟨b1,b2,rfl,rfl,Z1,Z2,BC⟩:=hcut
       have H2:=qkm ((BC.out.block _ l0).trans H2.out)
       have H3:=qkm ((BC.out.block _ l1).trans H3.out)
       have BB:=qkm (BB.out.trans (BC.out.mono BB.out.size))
       clear v0 v1 lv0 p0 p1 p2 p3 p4 p5 lp x0 x1 x2 x3 x4 x5 x6 x7 x8 x9 x10 l0 y0 y1 y2 y3 y4 y5 y6 y7 y8 y9 y10 l1 H0 H1 HE1 HE2 BC
       obtain ⟨x0,x1,x2,x3,x4,x5,x6,x7,x8,x9,x10,l0⟩:=qau H2.out
       obtain ⟨y0,y1,y2,y3,y4,y5,y6,y7,y8,y9,y10,l1⟩:=qau H3.out
       obtain ⟨u0,u1,u2,lz1⟩:=cl3 Z1.out
       obtain ⟨z0,z1,z2,lz2⟩:=cl3 Z2.out
       cases both
       ·rw [Bool.false_and] at HX
        go_wp2_with fail
        go_ret
        exact ⟨qah HX.out.symm,BB.out⟩
       ·rw [Bool.true_and] at HX
        cases s1
        ·rw [Bool.not_false,Bool.true_or,Bool.true_or] at HX
         go_wp2_with fail
         go_ret
         exact ⟨qah HX.out.symm,BB.out⟩
        ·cases s2
         ·rw [Bool.not_false,Bool.or_true,Bool.true_or] at HX
          go_wp2_with fail
          go_ret
          exact ⟨qah HX.out.symm,BB.out⟩
         ·rw [Bool.not_true,Bool.false_or,Bool.false_or] at HX
          obtain ⟨sz,rfl⟩:=Int.eq_ofNat_of_zero_le (show 0≤size by omega)
          obtain ⟨sz',rfl⟩:=Int.eq_ofNat_of_zero_le (show 0≤size' by omega)
          have HY:Hid (∀ i k:Nat,i<sz→k<sz'→f1+off+(i:Int)=f2+off'+(k:Int)→qqe (f1+off) (f2+off') sz sz'=true):=fun i k hi hk he=>qxp (i:=i) (k:=k) (by omega) (by omega) he
          have HN:Hid ((∀ i k:Nat,i<sz→k<sz'→f1+off+(i:Int)≠f2+off'+(k:Int))→qqe (f1+off) (f2+off') sz sz'=false):=fun h=>q0n (by omega) (by omega) fun i k hi hi2 hk hk2=>by
           have:=h i.toNat k.toNat (by omega) (by omega)
           rw [Int.toNat_of_nonneg hi,Int.toNat_of_nonneg hk] at this
           exact this
          generalize qqe (f1+off) (f2+off') (sz:Int) (sz':Int)=Q at *
          go_wp2_with fail
          go_loopw [13] (fun i wr=>∃ n:Nat,n≤sz∧i=.int .i64 (n:Int)∧wc=wr∧Hid (∀ i k:Nat,i<n→k<sz'→f1+off+(i:Int)≠f2+off'+(k:Int))) (fun i _=>sz-(intOf i).toNat)
          case atStart=>exact ⟨0,Nat.zero_le _,rfl,rfl,fun i k h=>absurd h (Nat.not_lt_zero i)⟩
          case round=>
           obtain ⟨n,hn,rfl,rfl,HNN⟩:=hrel
           by_cases hlt2:n<sz
           ·have gn1:decide ((n:Int)<(sz:Int))=true:=qkn (by omega)
            have gn2:decide (n<sz)=true:=qkn hlt2
            go_wp2_with fail
            go_loopw [14] (fun i wr=>∃ q:Nat,q≤sz'∧i=.int .i64 (q:Int)∧wc=wr∧Hid (∀ k:Nat,k<q→f1+off+(n:Int)≠f2+off'+(k:Int))) (fun i _=>sz'-(intOf i).toNat)
            case atStart=>exact ⟨0,Nat.zero_le _,rfl,rfl,fun k h=>absurd h (Nat.not_lt_zero k)⟩
            case round=>
             obtain ⟨q,hq,rfl,rfl,HQQ⟩:=hrel
             by_cases hlt3:q<sz'
             ·have gq1:decide ((q:Int)<(sz':Int))=true:=qkn (by omega)
              have gq2:decide (q<sz')=true:=qkn hlt3
              by_cases heq:f1+off+(n:Int)=f2+off'+(q:Int)
              ·have ge:(f1+off+(n:Int) ==f2+off'+(q:Int))=true:=beq_iff_eq.2 heq
               have HQ:=qkm (HY.out n q hlt2 hlt3 heq)
               clear heq
               go_wp2_with fail
               go_ret
               exact ⟨qah (by rw [HX.out,HQ.out]),BB.out⟩
              ·have ge:(f1+off+(n:Int) ==f2+off'+(q:Int))=false:=beq_eq_false_iff_ne.2 heq
               have HQ2:Hid (∀ k:Nat,k<q+1→f1+off+(n:Int)≠f2+off'+(k:Int)):=fun k hk=>by
                by_cases e:k<q
                ·exact HQQ.out k e
                ·obtain rfl:k=q:=by omega
                 exact heq
               clear heq
               go_wp2_with fail
               go_roundw
               case rel=>exact ⟨q+1,hlt3,by go_num,trivial,HQ2⟩
               case measure=>simp [intOf];omega
             ·obtain rfl:q=sz':=by omega
              have HN2:Hid (∀ i k:Nat,i<n+1→k<q→f1+off+(i:Int)≠f2+off'+(k:Int)):=fun i k hi hk=>by
               by_cases e:i<n
               ·exact HNN.out i k e hk
               ·obtain rfl:i=n:=by omega
                exact HQQ.out k hk
              go_wp2_with fail
              go_roundw
              case rel=>exact ⟨n+1,hlt2,by go_num,trivial,HN2⟩
              case measure=>simp [intOf];omega
           ·obtain rfl:n=sz:=by omega
            have HQ:=qkm (HN.out HNN.out)
            go_wp2_with fail
            go_ret
            exact ⟨qah (by rw [HX.out,HQ.out]),BB.out⟩
end Go.Proofs.Ytmcddolkpcgddaa
