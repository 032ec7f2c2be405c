/-
 alias: may two loads or stores meet (View.Meet)?
-/
import Derived.Test.YtmcddolkpcgddaaZHazardFinds33
set_option maxHeartbeats 4000000
set_option maxRecDepth 100000
set_option linter.all false
namespace Go.Proofs.Ytmcddolkpcgddaa
open Go.ChangeShapes Go.WideShapes Go.ChangeAt Go.RowKit
def qbe (k:VwK) (x:AS) (sp:List Sp) (a b:In):Bool :=
 qen a && qen b && ((x.regs.getD a.a.toNat 0 &&& x.regs.getD b.a.toNat 0) !=0) && (!(exV k sp a.a).is || !(exV k sp b.a).is || qqe ((exV k sp a.a).off+a.off) ((exV k sp b.a).off+b.off) a.size b.size)
def q11 (n:Nat) (a:In):Prop:=(0≤a.a∧a.a<(n:Int))∧(-100000≤a.off∧a.off≤100000)∧1≤a.size∧a.size≤4
theorem qrs (w0:World) (k:VwK) (x:AS) (sp:List Sp) (i1 i2:In) (va vb:Value) (w:World) (h:VwM w0 w k x sp) (hl:k.bs.length≤1000)
  (h1:qen i1=true→q11 k.bs.length i1) (h2:qen i2=true→q11 k.bs.length i2) (hof:∀ r, -100000≤(exV k sp r).off∧(exV k sp r).off≤100000) :
  Calls Try.prog 77 #[.pointer (some ⟨k.bv,0,none⟩),qbu i1 va,qbu i2 vb] w fun e w'=>e=.returned (.bool (qbe k x sp i1 i2))∧Below w.heap.size w w':=by
 have V:=qkm h
 have HOF:=qkm hof
 clear h hof
 have HX:Hid (qbe k x sp i1 i2=(qen i1 && qen i2 && ((x.regs.getD i1.a.toNat 0 &&& x.regs.getD i2.a.toNat 0) !=0) && (!(exV k sp i1.a).is || !(exV k sp i2.a).is || qqe ((exV k sp i1.a).off+i1.off) ((exV k sp i2.a).off+i2.off) i1.size i2.size))):=rfl
 generalize qbe k x sp i1 i2=R at *
 cases m1:qen i1
 ·rw [m1,Bool.false_and,Bool.false_and,Bool.false_and] at HX
  clear h1 h2
  obtain ⟨op,d,a,b,fn,obj,off,size,num,args,lg⟩:=i1
  obtain ⟨op',d',a',b',fn',obj',off',size',num',args',lg'⟩:=i2
  unfold qbu
  dsimp only
  have M1:=qkm m1
  clear m1
  obtain ⟨W1,hW1⟩:∃ W1,W1=qbj w [.cells #[.int .i64 op,.int .i64 d,.int .i64 a,.int .i64 b,.int .i64 fn,.int .i64 obj,.int .i64 off,.int .i64 size,.int .u32 num,va,.bool lg] 58,.cells #[.int .i64 op',.int .i64 d',.int .i64 a',.int .i64 b',.int .i64 fn',.int .i64 obj',.int .i64 off',.int .i64 size',.int .u32 num',vb,.bool lg'] 58]:=⟨_,rfl⟩
  have BB:Hid (Below w.heap.size w W1):=by rw [hW1];exact qa0 _ _
  have H0:Hid (W1.heap[w.heap.size]?=some (.cells #[.int .i64 op,.int .i64 d,.int .i64 a,.int .i64 b,.int .i64 fn,.int .i64 obj,.int .i64 off,.int .i64 size,.int .u32 num,va,.bool lg] 58)):=by rw [hW1];exact qai _ w 0 (by simp)
  have H1:Hid (W1.heap[w.heap.size+1]?=some (.cells #[.int .i64 op',.int .i64 d',.int .i64 a',.int .i64 b',.int .i64 fn',.int .i64 obj',.int .i64 off',.int .i64 size',.int .u32 num',vb,.bool lg'] 58)):=by rw [hW1];exact qai _ w 1 (by simp)
  have HW1:Hid ((w.alloc (.cells #[.int .i64 op,.int .i64 d,.int .i64 a,.int .i64 b,.int .i64 fn,.int .i64 obj,.int .i64 off,.int .i64 size,.int .u32 num,va,.bool lg] 58)).alloc (.cells #[.int .i64 op',.int .i64 d',.int .i64 a',.int .i64 b',.int .i64 fn',.int .i64 obj',.int .i64 off',.int .i64 size',.int .u32 num',vb,.bool lg'] 58)=W1):=hW1.symm
  have V:=qkm (V.out.grow BB.out)
  clear hW1
  obtain ⟨x0,x1,x2,x3,x4,x5,x6,x7,x8,x9,x10,l0⟩:=qau H0.out
  obtain ⟨y0,y1,y2,y3,y4,y5,y6,y7,y8,y9,y10,l1⟩:=qau H1.out
  go_enter Try.func77,Try.ntmps77
  go_wp2_with fail
  rw [HW1.out]
  refine qak (fun _=>True) (by kernel_rfl) ?_
  refine qan [0] _ _ _ _ (by kernel_rfl) ?_
  simp only [qka,qkb,qkc,qkd,qke,qkf,qkg,qkh,qki,Nat.reduceAdd,Nat.reduceSub]
  repeat (go_big_quiet_step (fail))
  refine wpQuiet_nil ?_
  refine qay 1 _ rfl (by kernel_rfl) ?_
  simp only [qkj,qkk,qkl]
  intro wj hj
  go_wp2_with fail
  have hme:=qge ⟨op,d,a,b,fn,obj,off,size,num,args,lg⟩ va wj
  unfold qbu at hme
  rw [M1.out] at hme
  refine hme.mono ?_
  clear hme
  rintro e w1 ⟨rfl,hb2⟩
  go_wp2_with fail
  refine ⟨qa3.below hb2,?_⟩
  have hb3:=qkm (hj.trans (hb2.mono hj.size))
  have H0:=qkm ((hb3.out.block w.heap.size l0).trans H0.out)
  have H1:=qkm ((hb3.out.block (w.heap.size+1) l1).trans H1.out)
  have V:=qkm (V.out.grow hb3.out)
  have BB:=qkm (BB.out.trans (hb3.out.mono BB.out.size))
  clear x0 x1 x2 x3 x4 x5 x6 x7 x8 x9 x10 y0 y1 y2 y3 y4 y5 y6 y7 y8 y9 y10 l0 l1 hb2 hj hb3
  obtain ⟨x0,x1,x2,x3,x4,x5,x6,x7,x8,x9,x10,l0⟩:=qau H0.out
  obtain ⟨y0,y1,y2,y3,y4,y5,y6,y7,y8,y9,y10,l1⟩:=qau H1.out
  refine qan [2,3,4] _ _ _ _ (by kernel_rfl) ?_
  simp only [qka,qkb,qkc,qkd,qke,qkf,qkg,qkh,qki,Nat.reduceAdd,Nat.reduceSub]
  repeat (go_big_quiet_step (fail))
  refine wpQuiet_nil ?_
  refine qay 5 _ rfl (by kernel_rfl) ?_
  simp only [qkj,qkk,qkl]
  intro wj hj
  refine ⟨qa3.refl _ _,?_⟩
  try simp only [Act.put,List.setIfInBounds_toArray,List.set_cons_succ,List.set_cons_zero]
  have hb2:=Below.refl wj.heap.size wj
  have hb3:=qkm (hj.trans (hb2.mono hj.size))
  have H0:=qkm ((hb3.out.block w.heap.size l0).trans H0.out)
  have H1:=qkm ((hb3.out.block (w.heap.size+1) l1).trans H1.out)
  have V:=qkm (V.out.grow hb3.out)
  have BB:=qkm (BB.out.trans (hb3.out.mono BB.out.size))
  clear x0 x1 x2 x3 x4 x5 x6 x7 x8 x9 x10 y0 y1 y2 y3 y4 y5 y6 y7 y8 y9 y10 l0 l1 hb2 hj hb3
  obtain ⟨x0,x1,x2,x3,x4,x5,x6,x7,x8,x9,x10,l0⟩:=qau H0.out
  obtain ⟨y0,y1,y2,y3,y4,y5,y6,y7,y8,y9,y10,l1⟩:=qau H1.out
  refine qan [6,7,8,9,10,11] _ _ _ _ (by kernel_rfl) ?_
  simp only [qka,qkb,qkc,qkd,qke,qkf,qkg,qkh,qki,Nat.reduceAdd,Nat.reduceSub]
  repeat (go_big_quiet_step (fail))
  refine wpQuiet_nil ?_
  refine qay 12 _ rfl (by kernel_rfl) ?_
  simp only [qkj,qkk,qkl]
  intro wj hj
  refine ⟨qa3.refl _ _,?_⟩
  try simp only [Act.put,List.setIfInBounds_toArray,List.set_cons_succ,List.set_cons_zero]
  have hb2:=Below.refl wj.heap.size wj
  have hb3:=qkm (hj.trans (hb2.mono hj.size))
  have H0:=qkm ((hb3.out.block w.heap.size l0).trans H0.out)
  have H1:=qkm ((hb3.out.block (w.heap.size+1) l1).trans H1.out)
  have V:=qkm (V.out.grow hb3.out)
  have BB:=qkm (BB.out.trans (hb3.out.mono BB.out.size))
  clear x0 x1 x2 x3 x4 x5 x6 x7 x8 x9 x10 y0 y1 y2 y3 y4 y5 y6 y7 y8 y9 y10 l0 l1 hb2 hj hb3
  obtain ⟨x0,x1,x2,x3,x4,x5,x6,x7,x8,x9,x10,l0⟩:=qau H0.out
  obtain ⟨y0,y1,y2,y3,y4,y5,y6,y7,y8,y9,y10,l1⟩:=qau H1.out
  refine qan [13,14,15,16,17,18] _ _ _ _ (by kernel_rfl) ?_
  simp only [qka,qkb,qkc,qkd,qke,qkf,qkg,qkh,qki,Nat.reduceAdd,Nat.reduceSub]
  repeat (go_big_quiet_step (fail))
  refine wpQuiet_nil ?_
  refine qay 19 _ rfl (by kernel_rfl) ?_
  simp only [qkj,qkk,qkl]
  intro wj hj
  refine ⟨qa3.refl _ _,?_⟩
  try simp only [Act.put,List.setIfInBounds_toArray,List.set_cons_succ,List.set_cons_zero]
  have hb2:=Below.refl wj.heap.size wj
  have hb3:=qkm (hj.trans (hb2.mono hj.size))
  have H0:=qkm ((hb3.out.block w.heap.size l0).trans H0.out)
  have H1:=qkm ((hb3.out.block (w.heap.size+1) l1).trans H1.out)
  have V:=qkm (V.out.grow hb3.out)
  have BB:=qkm (BB.out.trans (hb3.out.mono BB.out.size))
  clear x0 x1 x2 x3 x4 x5 x6 x7 x8 x9 x10 y0 y1 y2 y3 y4 y5 y6 y7 y8 y9 y10 l0 l1 hb2 hj hb3
  obtain ⟨x0,x1,x2,x3,x4,x5,x6,x7,x8,x9,x10,l0⟩:=qau H0.out
  obtain ⟨y0,y1,y2,y3,y4,y5,y6,y7,y8,y9,y10,l1⟩:=qau H1.out
  refine qan [20,21,22,23,24,25,26,27,28,29,30,31,32,33,34,35,36,37,38] _ _ _ _ (by kernel_rfl) ?_
  simp only [qka,qkb,qkc,qkd,qke,qkf,qkg,qkh,qki,Nat.reduceAdd,Nat.reduceSub]
  repeat (go_big_quiet_step (fail))
  refine wpQuiet_nil ?_
  refine qay 39 _ rfl (by kernel_rfl) ?_
  simp only [qkj,qkk,qkl]
  intro wj hj
  refine ⟨qa3.refl _ _,?_⟩
  try simp only [Act.put,List.setIfInBounds_toArray,List.set_cons_succ,List.set_cons_zero]
  have hb2:=Below.refl wj.heap.size wj
  have hb3:=qkm (hj.trans (hb2.mono hj.size))
  have H0:=qkm ((hb3.out.block w.heap.size l0).trans H0.out)
  have H1:=qkm ((hb3.out.block (w.heap.size+1) l1).trans H1.out)
  have V:=qkm (V.out.grow hb3.out)
  have BB:=qkm (BB.out.trans (hb3.out.mono BB.out.size))
  clear x0 x1 x2 x3 x4 x5 x6 x7 x8 x9 x10 y0 y1 y2 y3 y4 y5 y6 y7 y8 y9 y10 l0 l1 hb2 hj hb3
  obtain ⟨x0,x1,x2,x3,x4,x5,x6,x7,x8,x9,x10,l0⟩:=qau H0.out
  obtain ⟨y0,y1,y2,y3,y4,y5,y6,y7,y8,y9,y10,l1⟩:=qau H1.out
  refine qan [40,41] _ _ _ _ (by kernel_rfl) ?_
  simp only [qka,qkb,qkc,qkd,qke,qkf,qkg,qkh,qki,Nat.reduceAdd,Nat.reduceSub]
  repeat (go_big_quiet_step (fail))
  refine wpQuiet_nil ?_
  refine qbh (by kernel_rfl) (fun wj hj=>?_) _
  have hb2:=Below.refl wj.heap.size wj
  have hb3:=qkm (hj.trans (hb2.mono hj.size))
  have H0:=qkm ((hb3.out.block w.heap.size l0).trans H0.out)
  have H1:=qkm ((hb3.out.block (w.heap.size+1) l1).trans H1.out)
  have V:=qkm (V.out.grow hb3.out)
  have BB:=qkm (BB.out.trans (hb3.out.mono BB.out.size))
  clear x0 x1 x2 x3 x4 x5 x6 x7 x8 x9 x10 y0 y1 y2 y3 y4 y5 y6 y7 y8 y9 y10 l0 l1 hb2 hj hb3
  obtain ⟨x0,x1,x2,x3,x4,x5,x6,x7,x8,x9,x10,l0⟩:=qau H0.out
  obtain ⟨y0,y1,y2,y3,y4,y5,y6,y7,y8,y9,y10,l1⟩:=qau H1.out
  go_wp2_with fail
  go_ret
  exact ⟨qah HX.out.symm,BB.out⟩
 ·have A1:=h1 m1
  clear h1
  rw [m1,Bool.true_and] at HX
  cases m2:qen i2
  ·rw [m2,Bool.false_and,Bool.false_and] at HX
   clear h2 A1
   obtain ⟨op,d,a,b,fn,obj,off,size,num,args,lg⟩:=i1
   obtain ⟨op',d',a',b',fn',obj',off',size',num',args',lg'⟩:=i2
   unfold qbu
   dsimp only
   have M1:=qkm m1
   have M2:=qkm m2
   clear m1 m2
   obtain ⟨W1,hW1⟩:∃ W1,W1=qbj w [.cells #[.int .i64 op,.int .i64 d,.int .i64 a,.int .i64 b,.int .i64 fn,.int .i64 obj,.int .i64 off,.int .i64 size,.int .u32 num,va,.bool lg] 58,.cells #[.int .i64 op',.int .i64 d',.int .i64 a',.int .i64 b',.int .i64 fn',.int .i64 obj',.int .i64 off',.int .i64 size',.int .u32 num',vb,.bool lg'] 58]:=⟨_,rfl⟩
   have BB:Hid (Below w.heap.size w W1):=by rw [hW1];exact qa0 _ _
   have H0:Hid (W1.heap[w.heap.size]?=some (.cells #[.int .i64 op,.int .i64 d,.int .i64 a,.int .i64 b,.int .i64 fn,.int .i64 obj,.int .i64 off,.int .i64 size,.int .u32 num,va,.bool lg] 58)):=by rw [hW1];exact qai _ w 0 (by simp)
   have H1:Hid (W1.heap[w.heap.size+1]?=some (.cells #[.int .i64 op',.int .i64 d',.int .i64 a',.int .i64 b',.int .i64 fn',.int .i64 obj',.int .i64 off',.int .i64 size',.int .u32 num',vb,.bool lg'] 58)):=by rw [hW1];exact qai _ w 1 (by simp)
   have HW1:Hid ((w.alloc (.cells #[.int .i64 op,.int .i64 d,.int .i64 a,.int .i64 b,.int .i64 fn,.int .i64 obj,.int .i64 off,.int .i64 size,.int .u32 num,va,.bool lg] 58)).alloc (.cells #[.int .i64 op',.int .i64 d',.int .i64 a',.int .i64 b',.int .i64 fn',.int .i64 obj',.int .i64 off',.int .i64 size',.int .u32 num',vb,.bool lg'] 58)=W1):=hW1.symm
   have V:=qkm (V.out.grow BB.out)
   clear hW1
   obtain ⟨x0,x1,x2,x3,x4,x5,x6,x7,x8,x9,x10,l0⟩:=qau H0.out
   obtain ⟨y0,y1,y2,y3,y4,y5,y6,y7,y8,y9,y10,l1⟩:=qau H1.out
   go_enter Try.func77,Try.ntmps77
   go_wp2_with fail
   rw [HW1.out]
   refine qak (fun _=>True) (by kernel_rfl) ?_
   refine qan [0] _ _ _ _ (by kernel_rfl) ?_
   simp only [qka,qkb,qkc,qkd,qke,qkf,qkg,qkh,qki,Nat.reduceAdd,Nat.reduceSub]
   repeat (go_big_quiet_step (fail))
   refine wpQuiet_nil ?_
   refine qay 1 _ rfl (by kernel_rfl) ?_
   simp only [qkj,qkk,qkl]
   intro wj hj
   go_wp2_with fail
   have hme:=qge ⟨op,d,a,b,fn,obj,off,size,num,args,lg⟩ va wj
   unfold qbu at hme
   rw [M1.out] at hme
   refine hme.mono ?_
   clear hme
   rintro e w1 ⟨rfl,hb2⟩
   go_wp2_with fail
   refine ⟨qa3.below hb2,?_⟩
   have hb3:=qkm (hj.trans (hb2.mono hj.size))
   have H0:=qkm ((hb3.out.block w.heap.size l0).trans H0.out)
   have H1:=qkm ((hb3.out.block (w.heap.size+1) l1).trans H1.out)
   have V:=qkm (V.out.grow hb3.out)
   have BB:=qkm (BB.out.trans (hb3.out.mono BB.out.size))
   clear x0 x1 x2 x3 x4 x5 x6 x7 x8 x9 x10 y0 y1 y2 y3 y4 y5 y6 y7 y8 y9 y10 l0 l1 hb2 hj hb3
   obtain ⟨x0,x1,x2,x3,x4,x5,x6,x7,x8,x9,x10,l0⟩:=qau H0.out
   obtain ⟨y0,y1,y2,y3,y4,y5,y6,y7,y8,y9,y10,l1⟩:=qau H1.out
   refine qan [2,3,4] _ _ _ _ (by kernel_rfl) ?_
   simp only [qka,qkb,qkc,qkd,qke,qkf,qkg,qkh,qki,Nat.reduceAdd,Nat.reduceSub]
   repeat (go_big_quiet_step (fail))
   refine wpQuiet_nil ?_
   refine qay 5 _ rfl (by kernel_rfl) ?_
   simp only [qkj,qkk,qkl]
   intro wj hj
   go_wp2_with fail
   have hme:=qge ⟨op',d',a',b',fn',obj',off',size',num',args',lg'⟩ vb wj
   unfold qbu at hme
   rw [M2.out] at hme
   refine hme.mono ?_
   clear hme
   rintro e w2 ⟨rfl,hb2⟩
   go_wp2_with fail
   refine ⟨qa3.below hb2,?_⟩
   have hb3:=qkm (hj.trans (hb2.mono hj.size))
   have H0:=qkm ((hb3.out.block w.heap.size l0).trans H0.out)
   have H1:=qkm ((hb3.out.block (w.heap.size+1) l1).trans H1.out)
   have V:=qkm (V.out.grow hb3.out)
   have BB:=qkm (BB.out.trans (hb3.out.mono BB.out.size))
   clear x0 x1 x2 x3 x4 x5 x6 x7 x8 x9 x10 y0 y1 y2 y3 y4 y5 y6 y7 y8 y9 y10 l0 l1 hb2 hj hb3
   obtain ⟨x0,x1,x2,x3,x4,x5,x6,x7,x8,x9,x10,l0⟩:=qau H0.out
   obtain ⟨y0,y1,y2,y3,y4,y5,y6,y7,y8,y9,y10,l1⟩:=qau H1.out
   refine qan [6,7,8,9,10,11] _ _ _ _ (by kernel_rfl) ?_
   simp only [qka,qkb,qkc,qkd,qke,qkf,qkg,qkh,qki,Nat.reduceAdd,Nat.reduceSub]
   repeat (go_big_quiet_step (fail))
   refine wpQuiet_nil ?_
   refine qay 12 _ rfl (by kernel_rfl) ?_
   simp only [qkj,qkk,qkl]
   intro wj hj
   refine ⟨qa3.refl _ _,?_⟩
   try simp only [Act.put,List.setIfInBounds_toArray,List.set_cons_succ,List.set_cons_zero]
   have hb2:=Below.refl wj.heap.size wj
   have hb3:=qkm (hj.trans (hb2.mono hj.size))
   have H0:=qkm ((hb3.out.block w.heap.size l0).trans H0.out)
   have H1:=qkm ((hb3.out.block (w.heap.size+1) l1).trans H1.out)
   have V:=qkm (V.out.grow hb3.out)
   have BB:=qkm (BB.out.trans (hb3.out.mono BB.out.size))
   clear x0 x1 x2 x3 x4 x5 x6 x7 x8 x9 x10 y0 y1 y2 y3 y4 y5 y6 y7 y8 y9 y10 l0 l1 hb2 hj hb3
   obtain ⟨x0,x1,x2,x3,x4,x5,x6,x7,x8,x9,x10,l0⟩:=qau H0.out
   obtain ⟨y0,y1,y2,y3,y4,y5,y6,y7,y8,y9,y10,l1⟩:=qau H1.out
   refine qan [13,14,15,16,17,18] _ _ _ _ (by kernel_rfl) ?_
   simp only [qka,qkb,qkc,qkd,qke,qkf,qkg,qkh,qki,Nat.reduceAdd,Nat.reduceSub]
   repeat (go_big_quiet_step (fail))
   refine wpQuiet_nil ?_
   refine qay 19 _ rfl (by kernel_rfl) ?_
   simp only [qkj,qkk,qkl]
   intro wj hj
   refine ⟨qa3.refl _ _,?_⟩
   try simp only [Act.put,List.setIfInBounds_toArray,List.set_cons_succ,List.set_cons_zero]
   have hb2:=Below.refl wj.heap.size wj
   have hb3:=qkm (hj.trans (hb2.mono hj.size))
   have H0:=qkm ((hb3.out.block w.heap.size l0).trans H0.out)
   have H1:=qkm ((hb3.out.block (w.heap.size+1) l1).trans H1.out)
   have V:=qkm (V.out.grow hb3.out)
   have BB:=qkm (BB.out.trans (hb3.out.mono BB.out.size))
   clear x0 x1 x2 x3 x4 x5 x6 x7 x8 x9 x10 y0 y1 y2 y3 y4 y5 y6 y7 y8 y9 y10 l0 l1 hb2 hj hb3
   obtain ⟨x0,x1,x2,x3,x4,x5,x6,x7,x8,x9,x10,l0⟩:=qau H0.out
   obtain ⟨y0,y1,y2,y3,y4,y5,y6,y7,y8,y9,y10,l1⟩:=qau H1.out
   refine qan [20,21,22,23,24,25,26,27,28,29,30,31,32,33,34,35,36,37,38] _ _ _ _ (by kernel_rfl) ?_
   simp only [qka,qkb,qkc,qkd,qke,qkf,qkg,qkh,qki,Nat.reduceAdd,Nat.reduceSub]
   repeat (go_big_quiet_step (fail))
   refine wpQuiet_nil ?_
   refine qay 39 _ rfl (by kernel_rfl) ?_
   simp only [qkj,qkk,qkl]
   intro wj hj
   refine ⟨qa3.refl _ _,?_⟩
   try simp only [Act.put,List.setIfInBounds_toArray,List.set_cons_succ,List.set_cons_zero]
   have hb2:=Below.refl wj.heap.size wj
   have hb3:=qkm (hj.trans (hb2.mono hj.size))
   have H0:=qkm ((hb3.out.block w.heap.size l0).trans H0.out)
   have H1:=qkm ((hb3.out.block (w.heap.size+1) l1).trans H1.out)
   have V:=qkm (V.out.grow hb3.out)
   have BB:=qkm (BB.out.trans (hb3.out.mono BB.out.size))
   clear x0 x1 x2 x3 x4 x5 x6 x7 x8 x9 x10 y0 y1 y2 y3 y4 y5 y6 y7 y8 y9 y10 l0 l1 hb2 hj hb3
   obtain ⟨x0,x1,x2,x3,x4,x5,x6,x7,x8,x9,x10,l0⟩:=qau H0.out
   obtain ⟨y0,y1,y2,y3,y4,y5,y6,y7,y8,y9,y10,l1⟩:=qau H1.out
   refine qan [40,41] _ _ _ _ (by kernel_rfl) ?_
   simp only [qka,qkb,qkc,qkd,qke,qkf,qkg,qkh,qki,Nat.reduceAdd,Nat.reduceSub]
   repeat (go_big_quiet_step (fail))
   refine wpQuiet_nil ?_
   refine qbh (by kernel_rfl) (fun wj hj=>?_) _
   have hb2:=Below.refl wj.heap.size wj
   have hb3:=qkm (hj.trans (hb2.mono hj.size))
   have H0:=qkm ((hb3.out.block w.heap.size l0).trans H0.out)
   have H1:=qkm ((hb3.out.block (w.heap.size+1) l1).trans H1.out)
   have V:=qkm (V.out.grow hb3.out)
   have BB:=qkm (BB.out.trans (hb3.out.mono BB.out.size))
   clear x0 x1 x2 x3 x4 x5 x6 x7 x8 x9 x10 y0 y1 y2 y3 y4 y5 y6 y7 y8 y9 y10 l0 l1 hb2 hj hb3
   obtain ⟨x0,x1,x2,x3,x4,x5,x6,x7,x8,x9,x10,l0⟩:=qau H0.out
   obtain ⟨y0,y1,y2,y3,y4,y5,y6,y7,y8,y9,y10,l1⟩:=qau H1.out
   go_wp2_with fail
   go_ret
   exact ⟨qah HX.out.symm,BB.out⟩
  ·have A2:=h2 m2
   rw [m2,Bool.true_and] at HX
   clear h2
   obtain ⟨op,d,a,b,fn,obj,off,size,num,args,lg⟩:=i1
   obtain ⟨op',d',a',b',fn',obj',off',size',num',args',lg'⟩:=i2
   unfold qbu
   obtain ⟨⟨ra0,ra1⟩,⟨oa0,oa1⟩,sa0,sa1⟩:=A1
   obtain ⟨⟨rb0,rb1⟩,⟨ob0,ob1⟩,sb0,sb1⟩:=A2
   dsimp only at ra0 ra1 oa0 oa1 sa0 sa1 rb0 rb1 ob0 ob1 sb0 sb1 HX ⊢
   have M1:=qkm m1
   have M2:=qkm m2
   clear m1 m2
   obtain ⟨a,rfl⟩:=Int.eq_ofNat_of_zero_le ra0
   obtain ⟨a',rfl⟩:=Int.eq_ofNat_of_zero_le rb0
   have la:a<k.bs.length:=by omega
   have lb:a'<k.bs.length:=by omega
   simp only [Int.toNat_natCast] at HX
   obtain ⟨W1,hW1⟩:∃ W1,W1=qbj w [.cells #[.int .i64 op,.int .i64 d,.int .i64 a,.int .i64 b,.int .i64 fn,.int .i64 obj,.int .i64 off,.int .i64 size,.int .u32 num,va,.bool lg] 58,.cells #[.int .i64 op',.int .i64 d',.int .i64 a',.int .i64 b',.int .i64 fn',.int .i64 obj',.int .i64 off',.int .i64 size',.int .u32 num',vb,.bool lg'] 58]:=⟨_,rfl⟩
   have BB:Hid (Below w.heap.size w W1):=by rw [hW1];exact qa0 _ _
   have H0:Hid (W1.heap[w.heap.size]?=some (.cells #[.int .i64 op,.int .i64 d,.int .i64 a,.int .i64 b,.int .i64 fn,.int .i64 obj,.int .i64 off,.int .i64 size,.int .u32 num,va,.bool lg] 58)):=by rw [hW1];exact qai _ w 0 (by simp)
   have H1:Hid (W1.heap[w.heap.size+1]?=some (.cells #[.int .i64 op',.int .i64 d',.int .i64 a',.int .i64 b',.int .i64 fn',.int .i64 obj',.int .i64 off',.int .i64 size',.int .u32 num',vb,.bool lg'] 58)):=by rw [hW1];exact qai _ w 1 (by simp)
   have HW1:Hid ((w.alloc (.cells #[.int .i64 op,.int .i64 d,.int .i64 a,.int .i64 b,.int .i64 fn,.int .i64 obj,.int .i64 off,.int .i64 size,.int .u32 num,va,.bool lg] 58)).alloc (.cells #[.int .i64 op',.int .i64 d',.int .i64 a',.int .i64 b',.int .i64 fn',.int .i64 obj',.int .i64 off',.int .i64 size',.int .u32 num',vb,.bool lg'] 58)=W1):=hW1.symm
   have V:=qkm (V.out.grow BB.out)
   clear hW1
   obtain ⟨x0,x1,x2,x3,x4,x5,x6,x7,x8,x9,x10,l0⟩:=qau H0.out
   obtain ⟨y0,y1,y2,y3,y4,y5,y6,y7,y8,y9,y10,l1⟩:=qau H1.out
   go_enter Try.func77,Try.ntmps77
   go_wp2_with fail
   rw [HW1.out]
   refine qak (fun _=>True) (by kernel_rfl) ?_
   refine qan [0] _ _ _ _ (by kernel_rfl) ?_
   simp only [qka,qkb,qkc,qkd,qke,qkf,qkg,qkh,qki,Nat.reduceAdd,Nat.reduceSub]
   repeat (go_big_quiet_step (fail))
   refine wpQuiet_nil ?_
   refine qay 1 _ rfl (by kernel_rfl) ?_
   simp only [qkj,qkk,qkl]
   intro wj hj
   go_wp2_with fail
   have hme:=qge ⟨op,d,(a:Int),b,fn,obj,off,size,num,args,lg⟩ va wj
   unfold qbu at hme
   rw [M1.out] at hme
   refine hme.mono ?_
   clear hme
   rintro e w1 ⟨rfl,hb2⟩
   go_wp2_with fail
   refine ⟨qa3.below hb2,?_⟩
   have hb3:=qkm (hj.trans (hb2.mono hj.size))
   have H0:=qkm ((hb3.out.block w.heap.size l0).trans H0.out)
   have H1:=qkm ((hb3.out.block (w.heap.size+1) l1).trans H1.out)
   have V:=qkm (V.out.grow hb3.out)
   have BB:=qkm (BB.out.trans (hb3.out.mono BB.out.size))
   clear x0 x1 x2 x3 x4 x5 x6 x7 x8 x9 x10 y0 y1 y2 y3 y4 y5 y6 y7 y8 y9 y10 l0 l1 hb2 hj hb3
   obtain ⟨x0,x1,x2,x3,x4,x5,x6,x7,x8,x9,x10,l0⟩:=qau H0.out
   obtain ⟨y0,y1,y2,y3,y4,y5,y6,y7,y8,y9,y10,l1⟩:=qau H1.out
   refine qan [2,3,4] _ _ _ _ (by kernel_rfl) ?_
   simp only [qka,qkb,qkc,qkd,qke,qkf,qkg,qkh,qki,Nat.reduceAdd,Nat.reduceSub]
   repeat (go_big_quiet_step (fail))
   refine wpQuiet_nil ?_
   refine qay 5 _ rfl (by kernel_rfl) ?_
   simp only [qkj,qkk,qkl]
   intro wj hj
   go_wp2_with fail
   have hme:=qge ⟨op',d',(a':Int),b',fn',obj',off',size',num',args',lg'⟩ vb wj
   unfold qbu at hme
   rw [M2.out] at hme
   refine hme.mono ?_
   clear hme
   rintro e w2 ⟨rfl,hb2⟩
   go_wp2_with fail
   refine ⟨qa3.below hb2,?_⟩
   have hb3:=qkm (hj.trans (hb2.mono hj.size))
   have H0:=qkm ((hb3.out.block w.heap.size l0).trans H0.out)
   have H1:=qkm ((hb3.out.block (w.heap.size+1) l1).trans H1.out)
   have V:=qkm (V.out.grow hb3.out)
   have BB:=qkm (BB.out.trans (hb3.out.mono BB.out.size))
   clear x0 x1 x2 x3 x4 x5 x6 x7 x8 x9 x10 y0 y1 y2 y3 y4 y5 y6 y7 y8 y9 y10 l0 l1 hb2 hj hb3
   obtain ⟨x0,x1,x2,x3,x4,x5,x6,x7,x8,x9,x10,l0⟩:=qau H0.out
   obtain ⟨y0,y1,y2,y3,y4,y5,y6,y7,y8,y9,y10,l1⟩:=qau H1.out
   refine qan [6,7,8,9,10,11] _ _ _ _ (by kernel_rfl) ?_
   simp only [qka,qkb,qkc,qkd,qke,qkf,qkg,qkh,qki,Nat.reduceAdd,Nat.reduceSub]
   repeat (go_big_quiet_step (fail))
   refine wpQuiet_nil ?_
   refine qay 12 _ rfl (by kernel_rfl) ?_
   simp only [qkj,qkk,qkl]
   intro wj hj
   go_wp2_with fail
   have hme:=qrd w0 k x sp (a:Int) wj (V.out.grow hj) hl
   rw [show (decide (0≤(a:Int)) && decide ((a:Int)<(k.bs.length:Int)))=true by simp;omega] at hme
   refine hme.mono ?_
   clear hme
   rintro e w3 ⟨rfl,rfl⟩
   go_wp2_with fail
   refine ⟨qa3.refl _ _,?_⟩
   have hb2:=Below.refl w3.heap.size w3
   have hb3:=qkm (hj.trans (hb2.mono hj.size))
   have H0:=qkm ((hb3.out.block w.heap.size l0).trans H0.out)
   have H1:=qkm ((hb3.out.block (w.heap.size+1) l1).trans H1.out)
   have V:=qkm (V.out.grow hb3.out)
   have BB:=qkm (BB.out.trans (hb3.out.mono BB.out.size))
   clear x0 x1 x2 x3 x4 x5 x6 x7 x8 x9 x10 y0 y1 y2 y3 y4 y5 y6 y7 y8 y9 y10 l0 l1 hb2 hj hb3
   obtain ⟨x0,x1,x2,x3,x4,x5,x6,x7,x8,x9,x10,l0⟩:=qau H0.out
   obtain ⟨y0,y1,y2,y3,y4,y5,y6,y7,y8,y9,y10,l1⟩:=qau H1.out
   refine qan [13,14,15,16,17,18] _ _ _ _ (by kernel_rfl) ?_
   simp only [qka,qkb,qkc,qkd,qke,qkf,qkg,qkh,qki,Nat.reduceAdd,Nat.reduceSub]
   repeat (go_big_quiet_step (fail))
   refine wpQuiet_nil ?_
   refine qay 19 _ rfl (by kernel_rfl) ?_
   simp only [qkj,qkk,qkl]
   intro wj hj
   go_wp2_with fail
   have hme:=qrd w0 k x sp (a':Int) wj (V.out.grow hj) hl
   rw [show (decide (0≤(a':Int)) && decide ((a':Int)<(k.bs.length:Int)))=true by simp;omega] at hme
   refine hme.mono ?_
   clear hme
   rintro e w4 ⟨rfl,rfl⟩
   go_wp2_with fail
   refine ⟨qa3.refl _ _,?_⟩
   have hb2:=Below.refl w4.heap.size w4
   have hb3:=qkm (hj.trans (hb2.mono hj.size))
   have H0:=qkm ((hb3.out.block w.heap.size l0).trans H0.out)
   have H1:=qkm ((hb3.out.block (w.heap.size+1) l1).trans H1.out)
   have V:=qkm (V.out.grow hb3.out)
   have BB:=qkm (BB.out.trans (hb3.out.mono BB.out.size))
   clear x0 x1 x2 x3 x4 x5 x6 x7 x8 x9 x10 y0 y1 y2 y3 y4 y5 y6 y7 y8 y9 y10 l0 l1 hb2 hj hb3
   obtain ⟨x0,x1,x2,x3,x4,x5,x6,x7,x8,x9,x10,l0⟩:=qau H0.out
   obtain ⟨y0,y1,y2,y3,y4,y5,y6,y7,y8,y9,y10,l1⟩:=qau H1.out
   obtain ⟨g,c,hvR,hc1,hc2,hgl,hcr⟩:=V.out.at la
   obtain ⟨g',c',hvR', -, -, -,hcr'⟩:=V.out.at lb
   rw [hvR] at hvR'
   simp only [Value.slice.injEq,Option.some.injEq,Addr.mk.injEq,and_true,true_and] at hvR'
   obtain ⟨rfl,rfl⟩:=hvR'
   have c7:w4.cell? ⟨k.bv,7,none⟩=some (.slice (some ⟨g,0,none⟩) k.bs.length c):=by rw [qab V.out.hv 7,←hvR];rfl
   have ga1:decide (a<k.bs.length)=true:=qkn la
   have ga2:decide ((a:Int)<(k.bs.length:Int))=true:=qkn (by omega)
   have gb1:decide (a'<k.bs.length)=true:=qkn lb
   have gb2:decide ((a':Int)<(k.bs.length:Int))=true:=qkn (by omega)
   have lv:=V.out.lv
   have HRA:Hid (∀ W,VwM w0 W k x sp→qd4 W (k.bs.getD a 0) (x.regs.getD a 0)∧x.regs.getD a 0<2 ^ 64):=fun W h=>h.row a la
   have HRB:Hid (∀ W,VwM w0 W k x sp→qd4 W (k.bs.getD a' 0) (x.regs.getD a' 0)∧x.regs.getD a' 0<2 ^ 64):=fun W h=>h.row a' lb
   generalize k.bs.getD a 0=ka at *
   generalize k.bs.getD a' 0=kb at *
   generalize x.regs.getD a 0=xa at *
   generalize x.regs.getD a' 0=xb at *
   unfold slW at hcr hcr'
   unfold maxLen at hc2
   clear hvR
   refine qan [20,21,22,23,24,25,26,27,28,29,30,31,32,33,34,35,36,37,38] _ _ _ _ (by kernel_rfl) ?_
   simp only [qka,qkb,qkc,qkd,qke,qkf,qkg,qkh,qki,Nat.reduceAdd,Nat.reduceSub]
   repeat (go_big_quiet_step (fail))
   refine wpQuiet_nil ?_
   clear c7 hcr hcr' ga1 ga2 gb1 gb2 hc1 hc2 lv hgl
   obtain ⟨M,hM⟩:∃ M,((xa &&& xb) !=0)=M:=⟨_,rfl⟩
   have HM:=qkm hM
   rw [hM] at HX
   clear hM
   refine qay 39 _ rfl (by kernel_rfl) ?_
   simp only [qkj,qkk,qkl]
   intro wj hj
   have V2:=V.out.grow hj
   have hme:=qzt _ _ _ _ wj (HRA.out _ V2).1 (HRB.out _ V2).1 (HRA.out _ V2).2 (HRB.out _ V2).2
   rw [HM.out] at hme
   unfold slW at hme
   go_wp2_with fail
   refine hme.mono ?_
   clear hme V2
   rintro e w5 ⟨rfl,rfl⟩
   go_wp2_with fail
   refine ⟨qa3.refl _ _,?_⟩
   have hb2:=Below.refl w5.heap.size w5
   have hb3:=qkm (hj.trans (hb2.mono hj.size))
   have H0:=qkm ((hb3.out.block w.heap.size l0).trans H0.out)
   have H1:=qkm ((hb3.out.block (w.heap.size+1) l1).trans H1.out)
   have V:=qkm (V.out.grow hb3.out)
   have BB:=qkm (BB.out.trans (hb3.out.mono BB.out.size))
   clear x0 x1 x2 x3 x4 x5 x6 x7 x8 x9 x10 y0 y1 y2 y3 y4 y5 y6 y7 y8 y9 y10 l0 l1 hb2 hj hb3
   obtain ⟨x0,x1,x2,x3,x4,x5,x6,x7,x8,x9,x10,l0⟩:=qau H0.out
   obtain ⟨y0,y1,y2,y3,y4,y5,y6,y7,y8,y9,y10,l1⟩:=qau H1.out
   cases M
   ·rw [Bool.false_and] at HX
    refine qan [40,41] _ _ _ _ (by kernel_rfl) ?_
    simp only [qka,qkb,qkc,qkd,qke,qkf,qkg,qkh,qki,Nat.reduceAdd,Nat.reduceSub]
    repeat (go_big_quiet_step (fail))
    refine wpQuiet_nil ?_
    refine qbh (by kernel_rfl) (fun wj hj=>?_) _
    have hb2:=Below.refl wj.heap.size wj
    have hb3:=qkm (hj.trans (hb2.mono hj.size))
    have H0:=qkm ((hb3.out.block w.heap.size l0).trans H0.out)
    have H1:=qkm ((hb3.out.block (w.heap.size+1) l1).trans H1.out)
    have V:=qkm (V.out.grow hb3.out)
    have BB:=qkm (BB.out.trans (hb3.out.mono BB.out.size))
    clear x0 x1 x2 x3 x4 x5 x6 x7 x8 x9 x10 y0 y1 y2 y3 y4 y5 y6 y7 y8 y9 y10 l0 l1 hb2 hj hb3
    obtain ⟨x0,x1,x2,x3,x4,x5,x6,x7,x8,x9,x10,l0⟩:=qau H0.out
    obtain ⟨y0,y1,y2,y3,y4,y5,y6,y7,y8,y9,y10,l1⟩:=qau H1.out
    go_wp2_with fail
    go_ret
    exact ⟨qah HX.out.symm,BB.out⟩
   ·rw [Bool.true_and] at HX
    have o1:=HOF.out (a:Int)
    have o2:=HOF.out (a':Int)
    have HE1:Hid (∀ W,VwM w0 W k x sp→Calls Try.prog 102 #[.pointer (some ⟨k.bv,0,none⟩),.int .i64 (a:Int)] W fun e w'=>e=.returned (exT (exV k sp (a:Int)))∧Below W.heap.size W w'):=fun W h=>qny w0 k x sp a W h hl
    have HE2:Hid (∀ W,VwM w0 W k x sp→Calls Try.prog 102 #[.pointer (some ⟨k.bv,0,none⟩),.int .i64 (a':Int)] W fun e w'=>e=.returned (exT (exV k sp (a':Int)))∧Below W.heap.size W w'):=fun W h=>qny w0 k x sp a' W h hl
    unfold exT at HE1 HE2
    generalize exV k sp (a:Int)=E1 at *
    generalize exV k sp (a':Int)=E2 at *
    obtain ⟨t1,f1,s1⟩:=E1
    obtain ⟨t2,f2,s2⟩:=E2
    dsimp only at o1 o2 HX HE1 HE2
    obtain ⟨o1a,o1b⟩:=o1
    obtain ⟨o2a,o2b⟩:=o2
    refine qan [40,41] _ _ _ _ (by kernel_rfl) ?_
    simp only [qka,qkb,qkc,qkd,qke,qkf,qkg,qkh,qki,Nat.reduceAdd,Nat.reduceSub]
    repeat (go_big_quiet_step (fail))
    refine wpQuiet_nil ?_
    refine qbh (by kernel_rfl) (fun wj hj=>?_) _
    have hb2:=Below.refl wj.heap.size wj
    have hb3:=qkm (hj.trans (hb2.mono hj.size))
    have H0:=qkm ((hb3.out.block w.heap.size l0).trans H0.out)
    have H1:=qkm ((hb3.out.block (w.heap.size+1) l1).trans H1.out)
    have V:=qkm (V.out.grow hb3.out)
    have BB:=qkm (BB.out.trans (hb3.out.mono BB.out.size))
    clear x0 x1 x2 x3 x4 x5 x6 x7 x8 x9 x10 y0 y1 y2 y3 y4 y5 y6 y7 y8 y9 y10 l0 l1 hb2 hj hb3
    obtain ⟨x0,x1,x2,x3,x4,x5,x6,x7,x8,x9,x10,l0⟩:=qau H0.out
    obtain ⟨y0,y1,y2,y3,y4,y5,y6,y7,y8,y9,y10,l1⟩:=qau H1.out
    go_wp2_with fail
    refine (HE1.out _ V.out).mono ?_
    rintro e w6 ⟨rfl,hb2⟩
    have hj:=Below.refl wj.heap.size wj
    have hb3:=qkm (hj.trans (hb2.mono hj.size))
    have H0:=qkm ((hb3.out.block w.heap.size l0).trans H0.out)
    have H1:=qkm ((hb3.out.block (w.heap.size+1) l1).trans H1.out)
    have V:=qkm (V.out.grow hb3.out)
    have BB:=qkm (BB.out.trans (hb3.out.mono BB.out.size))
    clear x0 x1 x2 x3 x4 x5 x6 x7 x8 x9 x10 y0 y1 y2 y3 y4 y5 y6 y7 y8 y9 y10 l0 l1 hb2 hj hb3
    obtain ⟨x0,x1,x2,x3,x4,x5,x6,x7,x8,x9,x10,l0⟩:=qau H0.out
    obtain ⟨y0,y1,y2,y3,y4,y5,y6,y7,y8,y9,y10,l1⟩:=qau H1.out
    go_wp2_with fail
    refine (HE2.out _ V.out).mono ?_
    rintro e w7 ⟨rfl,hb2⟩
    have hj:=Below.refl w6.heap.size w6
    have hb3:=qkm (hj.trans (hb2.mono hj.size))
    have H0:=qkm ((hb3.out.block w.heap.size l0).trans H0.out)
    have H1:=qkm ((hb3.out.block (w.heap.size+1) l1).trans H1.out)
    have V:=qkm (V.out.grow hb3.out)
    have BB:=qkm (BB.out.trans (hb3.out.mono BB.out.size))
    clear x0 x1 x2 x3 x4 x5 x6 x7 x8 x9 x10 y0 y1 y2 y3 y4 y5 y6 y7 y8 y9 y10 l0 l1 hb2 hj hb3
    obtain ⟨x0,x1,x2,x3,x4,x5,x6,x7,x8,x9,x10,l0⟩:=qau H0.out
    obtain ⟨y0,y1,y2,y3,y4,y5,y6,y7,y8,y9,y10,l1⟩:=qau H1.out
    clear HE1 HE2 HOF
    cases s1
    ·rw [Bool.not_false,Bool.true_or,Bool.true_or] at HX
     go_wp2_with fail
     go_ret
     exact ⟨qah HX.out.symm,BB.out⟩
    ·cases s2
     ·rw [Bool.not_false,Bool.or_true,Bool.true_or] at HX
      go_wp2_with fail
      go_ret
      exact ⟨qah HX.out.symm,BB.out⟩
     ·rw [Bool.not_true,Bool.false_or,Bool.false_or] at HX
      unfold qqe at HX
      go_wp2_with fail
      go_quiet (fail)
      generalize hW9:World.drewN w7 _=W9
      have hb2:Below w7.heap.size w7 W9:=by rw [←hW9];exact qm9 (Below.refl _ _) _
      have hj:=Below.refl w7.heap.size w7
      clear hW9
      have hb3:=qkm (hj.trans (hb2.mono hj.size))
      have H0:=qkm ((hb3.out.block w.heap.size l0).trans H0.out)
      have H1:=qkm ((hb3.out.block (w.heap.size+1) l1).trans H1.out)
      have V:=qkm (V.out.grow hb3.out)
      have BB:=qkm (BB.out.trans (hb3.out.mono BB.out.size))
      clear x0 x1 x2 x3 x4 x5 x6 x7 x8 x9 x10 y0 y1 y2 y3 y4 y5 y6 y7 y8 y9 y10 l0 l1 hb2 hj hb3
      obtain ⟨x0,x1,x2,x3,x4,x5,x6,x7,x8,x9,x10,l0⟩:=qau H0.out
      obtain ⟨y0,y1,y2,y3,y4,y5,y6,y7,y8,y9,y10,l1⟩:=qau H1.out
      cases q1:decide (f1+off<f2+off'+size')
      ·rw [q1,Bool.false_and] at HX
       go_wp2_with fail
       go_ret
       exact ⟨qah HX.out.symm,BB.out⟩
      ·rw [q1,Bool.true_and] at HX
       cases q2:decide (f2+off'<f1+off+size)
       ·rw [q2] at HX
        go_wp2_with fail
        go_ret
        exact ⟨qah HX.out.symm,BB.out⟩
       ·rw [q2] at HX
        go_wp2_with fail
        go_ret
        exact ⟨qah HX.out.symm,BB.out⟩
end Go.Proofs.Ytmcddolkpcgddaa
