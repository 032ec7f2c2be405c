/-
The document's answer for alias: instructions that add nothing; any instruction.
-/
import Derived.Test.YtmcddolkpcgddaaZHazardFinds39
set_option maxHeartbeats 4000000
set_option maxRecDepth 100000
set_option linter.all false
namespace Go.Proofs.Ytmcddolkpcgddaa
open Go.ChangeShapes Go.WideShapes Go.ChangeAt Go.RowKit
section
theorem qhr {w w':World} {a b c d:Nat} (hb:Below w.heap.size w w') (ha:a<w.heap.size) (hb':b<w.heap.size) (hc:c<w.heap.size) (hd:d<w.heap.size):qcl (fun x=>x=a∨x=b∨x=c∨x=d) w w':=fun z o hs=>hb.cell (p:=⟨z,o,none⟩) (by rcases hs with rfl|rfl|rfl|rfl <;> assumption)
def qmc (args:List Int):List Con:=args.map fun r=>.sub (some r.toNat) none
theorem qlu (x:AR) (args:List Int) (j r:Nat) (hj:j<args.length) (hr:args.getD j 0=(r:Int)):x.pass (qmc (args.take (j+1)))=⟨(x.pass (qmc (args.take j))).regs,orL (x.pass (qmc (args.take j))).out ((x.pass (qmc (args.take j))).regs.getD r [])⟩:=by
 have e:args[j]?=some (r:Int):=by
  have:=List.getElem?_eq_getElem hj
  rw [this]
  simp only [List.getD,this,Option.getD_some] at hr
  rw [hr]
 unfold qmc AR.pass
 rw [List.take_succ,e,List.map_append,List.foldl_append]
 rfl
theorem qt3 (w0 w:World) (k:AlK) (x:AR) (o:Int) (V:Value) (a b fn obj off size num:Int) (args:List Int) (lg:Bool) (h:AlM w0 w k x) (hv:InV w0 V ⟨9, -1,a,b,fn,obj,off,size,num,args,lg⟩) (hargs:∀ j,j<args.length→∃ r:Nat,args.getD j 0=(r:Int)∧r<k.n) (hal:args.length≤1000) (hT:k.T≤1000) (hT0:0<k.T) :
  Calls Try.prog 79 #[.pointer (some ⟨k.bx,0,none⟩),.int .i64 o,V] w (qo3 w0 k (x.pass (qmc args))):=by
 obtain ⟨va,rfl,aa,ac,rfl,ha1,ha2,ha3⟩:=hv
 dsimp only at ha1 ha2 ha3 ⊢
 have HAR:=qkm hargs
 have HAA:=qkm ha3
 have hwx:=h.lt
 unfold maxLen at ha2
 have H:=qkm h
 clear hargs ha3 h
 go_enter Try.func79,Try.ntmps79
 go_wp2_with fail
 obtain ⟨W1,hW1⟩:∃ W1:World,W1=w.alloc (.cells #[.int .i64 9,.int .i64 (-1),.int .i64 a,.int .i64 b,.int .i64 fn,.int .i64 obj,.int .i64 off,.int .i64 size,.int .u32 num,.slice aa args.length ac,.bool lg] 58):=⟨_,rfl⟩
 rw [←hW1]
 have HBSt:Hid (W1.heap[w.heap.size]?=some (.cells #[.int .i64 9,.int .i64 (-1),.int .i64 a,.int .i64 b,.int .i64 fn,.int .i64 obj,.int .i64 off,.int .i64 size,.int .u32 num,.slice aa args.length ac,.bool lg] 58)):=by rw [hW1];exact heap_alloc_new w _
 have BD1:Below w.heap.size w W1:=by rw [hW1];exact qaa w _
 have HSt:Hid (AlM w0 W1 k (x.pass (qmc (args.take 0)))):=H.out.grow BD1
 clear hW1 BD1 H
 go_loopw [6] (fun i wr=>∃ j:Nat,j≤args.length∧i=.int .i64 (j:Int)∧Hid (∃ k',AlM w0 wr k' (x.pass (qmc (args.take j)))∧k'.bx=k.bx∧k'.vr=k.vr∧k'.T=k.T∧k'.n=k.n)∧Hid (wr.heap[w.heap.size]?=some (.cells #[.int .i64 9,.int .i64 (-1),.int .i64 a,.int .i64 b,.int .i64 fn,.int .i64 obj,.int .i64 off,.int .i64 size,.int .u32 num,.slice aa args.length ac,.bool lg] 58))) (fun i _=>args.length-(intOf i).toNat)
 case atStart=>exact ⟨0,Nat.zero_le _,rfl,⟨_,HSt.out,rfl,rfl,rfl,rfl⟩,HBSt⟩
 case round=>
  obtain ⟨j,hj,rfl,HX,HB⟩:=hrel
  obtain ⟨k',H,q1,q2,q3,q4⟩:=HX.out
  have HS1:=qkm (fun r=>qlu x args j r)
  obtain ⟨bx',vr',rs',ro',T',n'⟩:=k'
  dsimp only at q1 q2 q3 q4
  subst q1 q2 q3 q4
  clear HX HSt HBSt
  by_cases hlt:j<args.length
  ·obtain ⟨r,hr1,hr2⟩:=HAR.out j hlt
   have HS2:=qkm (HS1.out r hlt hr1)
   generalize x.pass (qmc (args.take j))=X at *
   obtain ⟨br,cp,hvr,e1,e2,e3, -,e4,e5⟩:=H.at hr2
   have y:=e4 r hr2
   obtain ⟨ba,bo,rfl,z⟩:=HAA.out j hlt
   rw [hr1] at z
   simp only [Nat.mul_one,Nat.add_zero] at z
   have lba:=World.block_lt_of_cell? _ _ z
   have z:wr.cell? ⟨ba,bo+j,none⟩=some (.int .i64 (r:Int)):=(H.below.cell (p:=⟨ba,bo+j,none⟩) lba).trans z
   have lba:ba<wr.heap.size:=World.block_lt_of_cell? _ _ z
   have gj:decide ((j:Int)<(args.length:Int))=true:=qkn (by omega)
   have gj2:decide (j<args.length)=true:=qkn hlt
   have gr:decide ((r:Int)<(k.n:Int))=true:=qkn (by have:r<k.n:=hr2;omega)
   have gr2:decide (r<k.n)=true:=qkn hr2
   have HRr:=qkm (H.row r hr2)
   have HLr:Hid ((X.regs.getD r []).length=k.T):=H.ok.get (some r) fun q e=>by cases e;exact hr2
   have HRo:=qkm H.out
   have HLo:=qkm H.ok.out
   have hlx:k.bx<wr.heap.size:=H.lt
   have c0:wr.cell? ⟨k.bx,0,none⟩=some (.slice (some ⟨br,0,none⟩) k.n cp):=by rw [qab H.hv 0,←hvr];rfl
   have c1:wr.cell? ⟨k.bx,1,none⟩=some (.slice (some ⟨ro'.1,0,none⟩) k.T ro'.2):=by rw [qab H.hv 1];rfl
   have yf:wr.frozen? ⟨k.bx,1,none⟩=false:=qac H.hv 1
   have H:=qkm H
   clear e4 e5 hvr
   unfold maxLen at e2
   unfold qbf at y
   dsimp only at y HRr HRo
   generalize rs'.getD r (0,0)=Rr at *
   obtain ⟨gr',kr'⟩:=Rr
   obtain ⟨og,oc⟩:=ro'
   dsimp only at y HRr HRo c1
   obtain ⟨b0,b1,b2,b3,b4,b5,b6,b7,b8,b9,b10,lb⟩:=qau HB.out
   go_wp2_with fail
   refine qae (fun z=>z=k.bx∨z=br∨z=w.heap.size∨z=ba) (by kernel_rfl) ?_
   obtain ⟨W2,hW2⟩:∃ W2:World,W2=wr.drew:=⟨_,rfl⟩
   first|rw [←hW2]|rw [show (⟨wr.heap,wr.tape,wr.drawn+1,wr.os,wr.output⟩:World)=W2 from hW2.symm]
   have BD:Below wr.heap.size wr W2:=by rw [hW2];exact (Below.refl _ _).drew
   clear hW2
   have H:=qkm (H.out.grow BD)
   have HRr:=qkm (HRr.out.below BD)
   have HRo:=qkm (HRo.out.below BD)
   have HB:=qkm ((BD.block _ lb).trans HB.out)
   have c0:W2.cell? ⟨k.bx,0,none⟩=_:=(BD.cell (p:=⟨k.bx,0,none⟩) hlx).trans c0
   have c1:W2.cell? ⟨k.bx,1,none⟩=_:=(BD.cell (p:=⟨k.bx,1,none⟩) hlx).trans c1
   have y:W2.cell? ⟨br,r,none⟩=_:=(BD.cell (p:=⟨br,r,none⟩) e3).trans y
   have z:W2.cell? ⟨ba,bo+j,none⟩=_:=(BD.cell (p:=⟨ba,bo+j,none⟩) lba).trans z
   have yf:W2.frozen? ⟨k.bx,1,none⟩=false:=(BD.frozen (p:=⟨k.bx,1,none⟩) hlx).trans yf
   have hlx:k.bx<W2.heap.size:=Nat.lt_of_lt_of_le hlx BD.size
   have e3:br<W2.heap.size:=Nat.lt_of_lt_of_le e3 BD.size
   have lba:ba<W2.heap.size:=Nat.lt_of_lt_of_le lba BD.size
   clear b0 b1 b2 b3 b4 b5 b6 b7 b8 b9 b10
   obtain ⟨b0,b1,b2,b3,b4,b5,b6,b7,b8,b9,b10,lb⟩:=qau HB.out
   refine qaf [0,1,2,3,4,5,6,7,8,9,10,11,12,13,14,15] _ _ _ _ (by kernel_rfl) ?_
   simp only [qka,qkb,qkc,qkd,qke,qkf,qkg,qkh,qki,Nat.reduceAdd,Nat.reduceSub]
   repeat (go_big_quiet_step (fail))
   refine wpQuiet_nil ?_
   have HC:=qkm (qbx og k.T oc gr' k.T kr' _ _ W2 HRo.out HRr.out (by rw [HLo.out,HLr.out];exact Nat.le_refl _) (by rw [HLr.out];exact hT))
   refine qag 16 _ rfl (by kernel_rfl) ?_
   simp only [qkj,qkk,qkl]
   go_wp2_with fail
   refine HC.out.mono ?_
   rintro e w3 ⟨v,rfl,ho,hb⟩
   obtain ⟨q1,j1,rfl,hg,hgl,hgs⟩:=qb2 ho (by rw [qas,HLo.out];exact hT0)
   rw [qas,HLo.out] at hg ⊢
   have H:=qkm (H.out.grow hb)
   have HB:=qkm ((hb.block _ lb).trans HB.out)
   have hkeep:=qkm (qhr hb hlx e3 lb lba)
   have yf:w3.frozen? ⟨k.bx,1,none⟩=false:=(hb.frozen (p:=⟨k.bx,1,none⟩) hlx).trans yf
   have c1:w3.cell? ⟨k.bx,1,none⟩=_:=(hb.cell (p:=⟨k.bx,1,none⟩) hlx).trans c1
   have hlx:k.bx<w3.heap.size:=Nat.lt_of_lt_of_le hlx hb.size
   have hG:=qkm hg
   clear ho hg HC
   unfold qbf
   go_wp2_with fail
   refine ⟨hkeep.out,?_⟩
   clear hkeep
   try simp only [Act.put,List.setIfInBounds_toArray,List.set_cons_succ,List.set_cons_zero]
   refine qaf [17,18] _ _ _ _ (by kernel_rfl) ?_
   simp only [qka,qkb,qkc,qkd,qke,qkf,qkg,qkh,qki,Nat.reduceAdd,Nat.reduceSub]
   repeat (go_big_quiet_step (fail))
   refine wpQuiet_nil ?_
   refine qbq 19 _ rfl (by kernel_rfl) ?_
   simp only [qkj,qkk,qkl]
   go_wp2_with fail
   refine qao (by kernel_rfl) ?_ _
   have H4:=qkm (H.out.setO hG.out (by rw [qas,HLo.out]))
   have HB4:Hid ((w3.setCell ⟨k.bx,1,none⟩ (qbf q1 k.T j1)).heap[w.heap.size]?=_):=(Below.heap_setCell w3 ⟨k.bx,1,none⟩ _ w.heap.size (by have:=hwx;show w.heap.size≠k.bx;omega)).trans HB.out
   unfold qbf at H4 HB4
   dsimp only at H4
   go_wp2_with fail
   go_roundw
   case rel=>exact ⟨j+1,by omega,by go_num,⟨AlK.setO ⟨k.bx,k.vr,rs',(og,oc),k.T,k.n⟩ q1 j1,by rw [HS2.out];exact H4.out,rfl,rfl,rfl,rfl⟩,HB4⟩
   case measure=>simp [intOf];omega
  ·obtain rfl:j=args.length:=by omega
   obtain ⟨b0,b1,b2,b3,b4,b5,b6,b7,b8,b9,b10,lb⟩:=qau HB.out
   go_wp2_with fail
   go_end0
   rw [List.take_length] at H
   exact ⟨rfl,⟨k.bx,k.vr,rs',ro',k.T,k.n⟩,H,rfl,rfl,rfl,rfl⟩
theorem qwa (w0 w:World) (k:AlK) (x:AR) (o:Int) (V:Value) (d:Nat) (a b fn obj off size num:Int) (args:List Int) (lg:Bool) (h:AlM w0 w k x) (hv:InV w0 V ⟨9,d,a,b,fn,obj,off,size,num,args,lg⟩) (hd:d<k.n)  (X1:AR) (hX1:X1=⟨x.regs.set d (orL (x.regs.getD d []) x.out),x.out⟩) (hargs:∀ j,j<args.length→∃ r:Nat,args.getD j 0=(r:Int)∧r<k.n) (hal:args.length≤1000) (hT:k.T≤1000) (hT0:0<k.T) :
  Calls Try.prog 79 #[.pointer (some ⟨k.bx,0,none⟩),.int .i64 o,V] w (qo3 w0 k (X1.pass (qmc args))):=by
 obtain ⟨va,rfl,aa,ac,rfl,ha1,ha2,ha3⟩:=hv
 dsimp only at ha1 ha2 ha3 ⊢
 have HAR:=qkm hargs
 have HAA:=qkm ha3
 have hwx:=h.lt
 have HX1:=qkm hX1
 have gneg:((d:Int) != -1)=true:=by rw [bne_iff_ne];omega
 unfold maxLen at ha2
 clear hargs ha3 hX1
 obtain ⟨br,cp,hvr,e1,e2,e3, -,e4,e5⟩:=h.at hd
 have yd:=e4 d hd
 have gd1:decide (d<k.n)=true:=qkn hd
 have gd2:decide ((d:Int)<(k.n:Int))=true:=qkn (by omega)
 have HRd:=qkm (h.row d hd)
 have HLd:Hid ((x.regs.getD d []).length=k.T):=h.ok.get (some d) fun q e=>by cases e;exact hd
 have HRo:=qkm h.out
 have HLo:=qkm h.ok.out
 have yf:=e5 d
 clear e4 e5
 unfold maxLen at e2
 have H:=qkm h
 have hlx:=h.lt
 have c0:w.cell? ⟨k.bx,0,none⟩=some (.slice (some ⟨br,0,none⟩) k.n cp):=by rw [qab h.hv 0,←hvr];rfl
 have c1:w.cell? ⟨k.bx,1,none⟩=some (.slice (some ⟨k.ro.1,0,none⟩) k.T k.ro.2):=by rw [qab h.hv 1];rfl
 have Hvr:=qkm hvr
 clear h hvr
 unfold qbf at yd
 generalize hro:k.ro=RO at *
 clear hro
 obtain ⟨og,oc⟩:=RO
 dsimp only at c1 HRo
 generalize k.rs.getD d (0,0)=Rd at *
 obtain ⟨gd,kd⟩:=Rd
 dsimp only at yd HRd
 go_enter Try.func79,Try.ntmps79
 go_wp2_with fail
 obtain ⟨W1,hW1⟩:∃ W1:World,W1=w.alloc (.cells #[.int .i64 9,.int .i64 d,.int .i64 a,.int .i64 b,.int .i64 fn,.int .i64 obj,.int .i64 off,.int .i64 size,.int .u32 num,.slice aa args.length ac,.bool lg] 58):=⟨_,rfl⟩
 rw [←hW1]
 have hb1:W1.heap[w.heap.size]?=some (.cells #[.int .i64 9,.int .i64 d,.int .i64 a,.int .i64 b,.int .i64 fn,.int .i64 obj,.int .i64 off,.int .i64 size,.int .u32 num,.slice aa args.length ac,.bool lg] 58):=by rw [hW1];exact heap_alloc_new w _
 have BD1:Below w.heap.size w W1:=by rw [hW1];exact qaa w _
 clear hW1
 refine qae (fun z=>z=k.bx∨z=br∨z=w.heap.size) (by kernel_rfl) ?_
 obtain ⟨W2,hW2⟩:∃ W2:World,W2=W1.drew:=⟨_,rfl⟩
 first|rw [←hW2]|rw [show (⟨W1.heap,W1.tape,W1.drawn+1,W1.os,W1.output⟩:World)=W2 from hW2.symm]
 have HB2:Hid (W2.heap[w.heap.size]?=some (.cells #[.int .i64 9,.int .i64 d,.int .i64 a,.int .i64 b,.int .i64 fn,.int .i64 obj,.int .i64 off,.int .i64 size,.int .u32 num,.slice aa args.length ac,.bool lg] 58)):=by rw [hW2];exact hb1
 have BD:Below w.heap.size w W2:=by rw [hW2];exact BD1.drew
 clear hW2 hb1 BD1
 have H:=qkm (H.out.grow BD)
 have HRd:=qkm (HRd.out.below BD)
 have HRo:=qkm (HRo.out.below BD)
 have c0:W2.cell? ⟨k.bx,0,none⟩=_:=(BD.cell (p:=⟨k.bx,0,none⟩) hlx).trans c0
 have c1:W2.cell? ⟨k.bx,1,none⟩=_:=(BD.cell (p:=⟨k.bx,1,none⟩) hlx).trans c1
 have yd:W2.cell? ⟨br,d,none⟩=_:=(BD.cell (p:=⟨br,d,none⟩) e3).trans yd
 have yf:W2.frozen? ⟨br,d,none⟩=false:=(BD.frozen (p:=⟨br,d,none⟩) e3).trans yf
 have hlx:k.bx<W2.heap.size:=H.out.lt
 have e3:br<W2.heap.size:=Nat.lt_of_lt_of_le e3 BD.size
 obtain ⟨b0,b1,b2,b3,b4,b5,b6,b7,b8,b9,b10,lb⟩:=qau HB2.out
 refine qaf [0,1,2,3,4,5,6,7,8,9,10,11,12,13,14,15,16,17] _ _ _ _ (by kernel_rfl) ?_
 simp only [qka,qkb,qkc,qkd,qke,qkf,qkg,qkh,qki,Nat.reduceAdd,Nat.reduceSub]
 repeat (go_big_quiet_step (fail))
 refine wpQuiet_nil ?_
 have HC:=qkm (qbx gd k.T kd og k.T oc _ _ W2 HRd.out HRo.out (by rw [HLd.out,HLo.out];exact Nat.le_refl _) (by rw [HLo.out];exact hT))
 refine qag 18 _ rfl (by kernel_rfl) ?_
 simp only [qkj,qkk,qkl]
 go_wp2_with fail
 refine HC.out.mono ?_
 rintro e w3 ⟨v,rfl,ho,hb⟩
 obtain ⟨q1,j1,rfl,hg,hgl,hgs⟩:=qb2 ho (by rw [qas,HLd.out];exact hT0)
 rw [qas,HLd.out] at hg ⊢
 have H:=qkm (H.out.grow hb)
 have HB2:=qkm ((hb.block _ lb).trans HB2.out)
 have hkeep:=qkm (qcs hb hlx e3 lb)
 clear b0 b1 b2 b3 b4 b5 b6 b7 b8 b9 b10
 have HRd:=qkm (HRd.out.below hb)
 have HRo:=qkm (HRo.out.below hb)
 have c0:w3.cell? ⟨k.bx,0,none⟩=_:=(hb.cell (p:=⟨k.bx,0,none⟩) hlx).trans c0
 have c1:w3.cell? ⟨k.bx,1,none⟩=_:=(hb.cell (p:=⟨k.bx,1,none⟩) hlx).trans c1
 have yd:w3.cell? ⟨br,d,none⟩=_:=(hb.cell (p:=⟨br,d,none⟩) e3).trans yd
 have yf:w3.frozen? ⟨br,d,none⟩=false:=(hb.frozen (p:=⟨br,d,none⟩) e3).trans yf
 have hlx:k.bx<w3.heap.size:=H.out.lt
 have e3:br<w3.heap.size:=Nat.lt_of_lt_of_le e3 hb.size
 obtain ⟨b0,b1,b2,b3,b4,b5,b6,b7,b8,b9,b10,lb⟩:=qau HB2.out
 have hG1:=qkm hg
 clear ho hg HC
 unfold qbf
 go_wp2_with fail
 refine ⟨hkeep.out,?_⟩
 clear hkeep
 try simp only [Act.put,List.setIfInBounds_toArray,List.set_cons_succ,List.set_cons_zero]
 refine qaf [19] _ _ _ _ (by kernel_rfl) ?_
 simp only [qka,qkb,qkc,qkd,qke,qkf,qkg,qkh,qki,Nat.reduceAdd,Nat.reduceSub]
 repeat (go_big_quiet_step (fail))
 refine wpQuiet_nil ?_
 refine qbq 20 _ rfl (by kernel_rfl) ?_
 simp only [qkj,qkk,qkl]
 go_wp2_with fail
 refine qao (by kernel_rfl) ?_ _
 have H4:=qkm (H.out.setR Hvr.out hd hG1.out (by rw [qas,HLd.out]))
 have HB4:Hid ((w3.setCell ⟨br,d,none⟩ (qbf q1 k.T j1)).heap[w.heap.size]?=_):=(Below.heap_setCell w3 ⟨br,d,none⟩ _ w.heap.size (by show w.heap.size≠br;omega)).trans HB2.out
 unfold qbf at H4 HB4
 generalize hW4:w3.setCell ⟨br,d,none⟩ (.slice (some ⟨q1,0,none⟩) k.T j1)=W4 at *
 have HSt:Hid (AlM w0 W4 (k.setR d q1 j1) (X1.pass (qmc (args.take 0)))):=by
  rw [HX1.out];exact H4.out
 have HBSt:=qkm HB4.out
 clear H H4 HX1 hW4 b0 b1 b2 b3 b4 b5 b6 b7 b8 b9 b10 c0 c1 yf yd HRd HRo HB2 HB4 Hvr
 obtain ⟨b0,b1,b2,b3,b4,b5,b6,b7,b8,b9,b10,lb4⟩:=qau HBSt.out
 go_wp2_with fail
 clear b0 b1 b2 b3 b4 b5 b6 b7 b8 b9 b10 lb4
 go_loopw [6] (fun i wr=>∃ j:Nat,j≤args.length∧i=.int .i64 (j:Int)∧Hid (∃ k',AlM w0 wr k' (X1.pass (qmc (args.take j)))∧k'.bx=k.bx∧k'.vr=k.vr∧k'.T=k.T∧k'.n=k.n)∧Hid (wr.heap[w.heap.size]?=some (.cells #[.int .i64 9,.int .i64 d,.int .i64 a,.int .i64 b,.int .i64 fn,.int .i64 obj,.int .i64 off,.int .i64 size,.int .u32 num,.slice aa args.length ac,.bool lg] 58))) (fun i _=>args.length-(intOf i).toNat)
 case atStart=>exact ⟨0,Nat.zero_le _,rfl,⟨_,HSt.out,rfl,rfl,rfl,rfl⟩,HBSt⟩
 case round=>
  obtain ⟨j,hj,rfl,HX,HB⟩:=hrel
  obtain ⟨k',H,q1,q2,q3,q4⟩:=HX.out
  have HS1:=qkm (fun r=>qlu X1 args j r)
  obtain ⟨bx',vr',rs',ro',T',n'⟩:=k'
  dsimp only at q1 q2 q3 q4
  subst q1 q2 q3 q4
  clear HX HSt HBSt
  by_cases hlt:j<args.length
  ·obtain ⟨r,hr1,hr2⟩:=HAR.out j hlt
   have HS2:=qkm (HS1.out r hlt hr1)
   generalize X1.pass (qmc (args.take j))=X at *
   obtain ⟨br,cp,hvr,e1,e2,e3, -,e4,e5⟩:=H.at hr2
   have y:=e4 r hr2
   obtain ⟨ba,bo,rfl,z⟩:=HAA.out j hlt
   rw [hr1] at z
   simp only [Nat.mul_one,Nat.add_zero] at z
   have lba:=World.block_lt_of_cell? _ _ z
   have z:wr.cell? ⟨ba,bo+j,none⟩=some (.int .i64 (r:Int)):=(H.below.cell (p:=⟨ba,bo+j,none⟩) lba).trans z
   have lba:ba<wr.heap.size:=World.block_lt_of_cell? _ _ z
   have gj:decide ((j:Int)<(args.length:Int))=true:=qkn (by omega)
   have gj2:decide (j<args.length)=true:=qkn hlt
   have gr:decide ((r:Int)<(k.n:Int))=true:=qkn (by have:r<k.n:=hr2;omega)
   have gr2:decide (r<k.n)=true:=qkn hr2
   have HRr:=qkm (H.row r hr2)
   have HLr:Hid ((X.regs.getD r []).length=k.T):=H.ok.get (some r) fun q e=>by cases e;exact hr2
   have HRo:=qkm H.out
   have HLo:=qkm H.ok.out
   have hlx:k.bx<wr.heap.size:=H.lt
   have c0:wr.cell? ⟨k.bx,0,none⟩=some (.slice (some ⟨br,0,none⟩) k.n cp):=by rw [qab H.hv 0,←hvr];rfl
   have c1:wr.cell? ⟨k.bx,1,none⟩=some (.slice (some ⟨ro'.1,0,none⟩) k.T ro'.2):=by rw [qab H.hv 1];rfl
   have yf:wr.frozen? ⟨k.bx,1,none⟩=false:=qac H.hv 1
   have H:=qkm H
   clear e4 e5 hvr
   unfold maxLen at e2
   unfold qbf at y
   dsimp only at y HRr HRo
   generalize rs'.getD r (0,0)=Rr at *
   obtain ⟨gr',kr'⟩:=Rr
   obtain ⟨og,oc⟩:=ro'
   dsimp only at y HRr HRo c1
   obtain ⟨b0,b1,b2,b3,b4,b5,b6,b7,b8,b9,b10,lb⟩:=qau HB.out
   go_wp2_with fail
   refine qae (fun z=>z=k.bx∨z=br∨z=w.heap.size∨z=ba) (by kernel_rfl) ?_
   obtain ⟨W2,hW2⟩:∃ W2:World,W2=wr.drew:=⟨_,rfl⟩
   first|rw [←hW2]|rw [show (⟨wr.heap,wr.tape,wr.drawn+1,wr.os,wr.output⟩:World)=W2 from hW2.symm]
   have BD:Below wr.heap.size wr W2:=by rw [hW2];exact (Below.refl _ _).drew
   clear hW2
   have H:=qkm (H.out.grow BD)
   have HRr:=qkm (HRr.out.below BD)
   have HRo:=qkm (HRo.out.below BD)
   have HB:=qkm ((BD.block _ lb).trans HB.out)
   have c0:W2.cell? ⟨k.bx,0,none⟩=_:=(BD.cell (p:=⟨k.bx,0,none⟩) hlx).trans c0
   have c1:W2.cell? ⟨k.bx,1,none⟩=_:=(BD.cell (p:=⟨k.bx,1,none⟩) hlx).trans c1
   have y:W2.cell? ⟨br,r,none⟩=_:=(BD.cell (p:=⟨br,r,none⟩) e3).trans y
   have z:W2.cell? ⟨ba,bo+j,none⟩=_:=(BD.cell (p:=⟨ba,bo+j,none⟩) lba).trans z
   have yf:W2.frozen? ⟨k.bx,1,none⟩=false:=(BD.frozen (p:=⟨k.bx,1,none⟩) hlx).trans yf
   have hlx:k.bx<W2.heap.size:=Nat.lt_of_lt_of_le hlx BD.size
   have e3:br<W2.heap.size:=Nat.lt_of_lt_of_le e3 BD.size
   have lba:ba<W2.heap.size:=Nat.lt_of_lt_of_le lba BD.size
   clear b0 b1 b2 b3 b4 b5 b6 b7 b8 b9 b10
   obtain ⟨b0,b1,b2,b3,b4,b5,b6,b7,b8,b9,b10,lb⟩:=qau HB.out
   refine qaf [0,1,2,3,4,5,6,7,8,9,10,11,12,13,14,15] _ _ _ _ (by kernel_rfl) ?_
   simp only [qka,qkb,qkc,qkd,qke,qkf,qkg,qkh,qki,Nat.reduceAdd,Nat.reduceSub]
   repeat (go_big_quiet_step (fail))
   refine wpQuiet_nil ?_
   have HC:=qkm (qbx og k.T oc gr' k.T kr' _ _ W2 HRo.out HRr.out (by rw [HLo.out,HLr.out];exact Nat.le_refl _) (by rw [HLr.out];exact hT))
   refine qag 16 _ rfl (by kernel_rfl) ?_
   simp only [qkj,qkk,qkl]
   go_wp2_with fail
   refine HC.out.mono ?_
   rintro e w3 ⟨v,rfl,ho,hb⟩
   obtain ⟨q1,j1,rfl,hg,hgl,hgs⟩:=qb2 ho (by rw [qas,HLo.out];exact hT0)
   rw [qas,HLo.out] at hg ⊢
   have H:=qkm (H.out.grow hb)
   have HB:=qkm ((hb.block _ lb).trans HB.out)
   have hkeep:=qkm (qhr hb hlx e3 lb lba)
   have yf:w3.frozen? ⟨k.bx,1,none⟩=false:=(hb.frozen (p:=⟨k.bx,1,none⟩) hlx).trans yf
   have c1:w3.cell? ⟨k.bx,1,none⟩=_:=(hb.cell (p:=⟨k.bx,1,none⟩) hlx).trans c1
   have hlx:k.bx<w3.heap.size:=Nat.lt_of_lt_of_le hlx hb.size
   have hG:=qkm hg
   clear ho hg HC
   unfold qbf
   go_wp2_with fail
   refine ⟨hkeep.out,?_⟩
   clear hkeep
   try simp only [Act.put,List.setIfInBounds_toArray,List.set_cons_succ,List.set_cons_zero]
   refine qaf [17,18] _ _ _ _ (by kernel_rfl) ?_
   simp only [qka,qkb,qkc,qkd,qke,qkf,qkg,qkh,qki,Nat.reduceAdd,Nat.reduceSub]
   repeat (go_big_quiet_step (fail))
   refine wpQuiet_nil ?_
   refine qbq 19 _ rfl (by kernel_rfl) ?_
   simp only [qkj,qkk,qkl]
   go_wp2_with fail
   refine qao (by kernel_rfl) ?_ _
   have H4:=qkm (H.out.setO hG.out (by rw [qas,HLo.out]))
   have HB4:Hid ((w3.setCell ⟨k.bx,1,none⟩ (qbf q1 k.T j1)).heap[w.heap.size]?=_):=(Below.heap_setCell w3 ⟨k.bx,1,none⟩ _ w.heap.size (by have:=hwx;show w.heap.size≠k.bx;omega)).trans HB.out
   unfold qbf at H4 HB4
   dsimp only at H4
   go_wp2_with fail
   go_roundw
   case rel=>exact ⟨j+1,by omega,by go_num,⟨AlK.setO ⟨k.bx,k.vr,rs',(og,oc),k.T,k.n⟩ q1 j1,by rw [HS2.out];exact H4.out,rfl,rfl,rfl,rfl⟩,HB4⟩
   case measure=>simp [intOf];omega
  ·obtain rfl:j=args.length:=by omega
   obtain ⟨b0,b1,b2,b3,b4,b5,b6,b7,b8,b9,b10,lb⟩:=qau HB.out
   go_wp2_with fail
   go_end0
   rw [List.take_length] at H
   exact ⟨rfl,⟨k.bx,k.vr,rs',ro',k.T,k.n⟩,H,rfl,rfl,rfl,rfl⟩
end
section
theorem qvy (w0 w:World) (k:AlK) (x:AR) (o:Int) (V:Value) (op d a b fn obj off size num:Int) (args:List Int) (lg:Bool) (h:AlM w0 w k x) (hv:InV w V ⟨op,d,a,b,fn,obj,off,size,num,args,lg⟩) (g7:(op ==7)=false) (g8:(op ==8)=false) (g2:(op ==2)=false) (g3:(op ==3)=false) (g5:(op ==5)=false) (g6:(op ==6)=false) (g9:(op ==9)=false) :
  Calls Try.prog 79 #[.pointer (some ⟨k.bx,0,none⟩),.int .i64 o,V] w (qo3 w0 k x):=by
 obtain ⟨va,rfl, -⟩:=hv
 dsimp only
 have H:=qkm h
 clear h
 go_enter Try.func79,Try.ntmps79
 go_wp2_with fail
 go_end0
 exact ⟨rfl,k,H.out.grow (qaa w _),rfl,rfl,rfl,rfl⟩
theorem qun (w0 w:World) (k:AlK) (x:AR) (o:Int) (V:Value) (d a b fn obj off size num:Int) (args:List Int) (lg:Bool) (h:AlM w0 w k x) (hv:InV w V ⟨3,d,a,b,fn,obj,off,size,num,args,lg⟩) (g1:(fn ==1)=false) (g2:(fn ==2)=false) :
  Calls Try.prog 79 #[.pointer (some ⟨k.bx,0,none⟩),.int .i64 o,V] w (qo3 w0 k x):=by
 obtain ⟨va,rfl, -⟩:=hv
 dsimp only
 have H:=qkm h
 clear h
 go_enter Try.func79,Try.ntmps79
 go_wp2_with fail
 go_end0
 exact ⟨rfl,k,H.out.grow (qaa w _),rfl,rfl,rfl,rfl⟩
theorem qwg (w0 w:World) (k:AlK) (x:AR) (o:Int) (V:Value) (d a b fn obj off size num:Int) (args:List Int) (lg:Bool) (h:AlM w0 w k x) (hv:InV w V ⟨5,d,a,b,fn,obj,off,size,num,args,lg⟩) (g1:(size ==4)=false) :
  Calls Try.prog 79 #[.pointer (some ⟨k.bx,0,none⟩),.int .i64 o,V] w (qo3 w0 k x):=by
 obtain ⟨va,rfl, -⟩:=hv
 dsimp only
 have H:=qkm h
 clear h
 go_enter Try.func79,Try.ntmps79
 go_wp2_with fail
 go_end0
 exact ⟨rfl,k,H.out.grow (qaa w _),rfl,rfl,rfl,rfl⟩
theorem quw (w0 w:World) (k:AlK) (x:AR) (o:Int) (V:Value) (d a b fn obj off size num:Int) (args:List Int) (lg:Bool) (h:AlM w0 w k x) (hv:InV w V ⟨6,d,a,b,fn,obj,off,size,num,args,lg⟩) (g1:(size ==4)=false) :
  Calls Try.prog 79 #[.pointer (some ⟨k.bx,0,none⟩),.int .i64 o,V] w (qo3 w0 k x):=by
 obtain ⟨va,rfl, -⟩:=hv
 dsimp only
 have H:=qkm h
 clear h
 go_enter Try.func79,Try.ntmps79
 go_wp2_with fail
 go_end0
 exact ⟨rfl,k,H.out.grow (qaa w _),rfl,rfl,rfl,rfl⟩
theorem qu8 (a b:List Bool):orL (orL a b) (orL a b)=orL (orL a b) a:=by
 unfold orL
 refine List.map_congr_left fun i hi=>?_
 have hi:i<a.length:=by simpa using hi
 simp [List.getD,hi]
 exact fun q=>.inl q
theorem qxa (w0 w:World) (k:AlK) (x:AR) (m:Md) (p:Pr) (i:In) (V:Value) (h:AlM w0 w k x) (hv:InV w0 V i) (hi:okI m p i=true) (hn:k.n=p.regs.toNat) (ho:p.objs.length≤1000) (hm:m.globs.length≤1000) (hal:i.args.length≤1000) (hT:k.T≤1000) (hT0:0<k.T) :
  Calls Try.prog 79 #[.pointer (some ⟨k.bx,0,none⟩),.int .i64 (p.objs.length:Int),V] w (qo3 w0 k (x.pass (qep p.objs.length i))):=by
 obtain ⟨-,h9,hq⟩:=qda hi
 have hv2:InV w V i:=hv.ext (Ext.below h.below)
 have nat:∀ r:Int,0≤r∧r<p.regs→∃ q:Nat,r=(q:Int)∧q<k.n:=fun r hr=>⟨r.toNat,by omega,by rw [hn];omega⟩
 obtain ⟨op,d,a,b,fn,obj,off,size,num,args,lg⟩:=i
 dsimp only at h9 hq hal
 by_cases e7:op=7
 ·subst e7
  obtain ⟨hd, -, -,hmo⟩:=hq (by decide)
  obtain ⟨d,rfl,ld⟩:=nat _ (qbv hd rfl)
  have hmo:(0≤obj∧obj<p.objs.length)∧qg9 off=true:=by simpa [qeb] using hmo
  have e:x.pass (qep p.objs.length ⟨7,d,a,b,fn,obj,off,size,num,args,lg⟩)=⟨x.regs.set d (qhy (x.regs.getD d []) obj),x.out⟩:=by
   have:((obj.toNat:Nat):Int)=obj:=by omega
   simp [qep,qeo,AR.pass,AR.con,AR.put,AR.get,this]
  rw [e]
  exact qyo w0 w k x _ V d a b fn obj off size num args lg h hv2 ld hT hT0
 by_cases e8:op=8
 ·subst e8
  obtain ⟨hd, -, -,hmo⟩:=hq (by decide)
  obtain ⟨d,rfl,ld⟩:=nat _ (qbv hd rfl)
  have hmo:(0≤obj∧obj<m.globs.length)∧qg9 off=true:=by simpa [qeb] using hmo
  obtain ⟨ob,rfl⟩:=Int.eq_ofNat_of_zero_le hmo.1.1
  have e:x.pass (qep p.objs.length ⟨8,d,a,b,fn,ob,off,size,num,args,lg⟩)=⟨x.regs.set d (qhy (x.regs.getD d []) ((p.objs.length:Int)+(ob:Int))),x.out⟩:=by
   simp [qep,qeo,AR.pass,AR.con,AR.put,AR.get]
  rw [e]
  exact qzf w0 w k x p.objs.length V d ob a b fn off size num args lg h hv2 ld ho (by omega) hT hT0
 by_cases e2:op=2
 ·subst e2
  obtain ⟨hd,ha, -, -⟩:=hq (by decide)
  obtain ⟨d,rfl,ld⟩:=nat _ (qbv hd rfl)
  obtain ⟨a,rfl,la⟩:=nat _ (qbv ha rfl)
  have e:x.pass (qep p.objs.length ⟨2,d,a,b,fn,obj,off,size,num,args,lg⟩)=⟨x.regs.set d (orL (x.regs.getD d []) (x.regs.getD a [])),x.out⟩:=by
   simp [qep,qeo,AR.pass,AR.con,AR.put,AR.get]
  rw [e]
  exact qxq w0 w k x _ V d a b fn obj off size num args lg h hv2 ld la hT hT0
 by_cases e3:op=3
 ·subst e3
  obtain ⟨hd,ha,hb, -⟩:=hq (by decide)
  by_cases ef:fn=1∨fn=2
  ·obtain ⟨d,rfl,ld⟩:=nat _ (qbv hd rfl)
   obtain ⟨a,rfl,la⟩:=nat _ (qbv ha rfl)
   obtain ⟨b,rfl,lb⟩:=nat _ (qbv hb rfl)
   have hdl:d<x.regs.length:=by rw [h.ok.rows];exact ld
   have e:x.pass (qep p.objs.length ⟨3,d,a,b,fn,obj,off,size,num,args,lg⟩)=⟨x.regs.set d (orL (orL (x.regs.getD d []) (x.regs.getD a [])) (x.regs.getD b [])),x.out⟩:=by
    have e0:qep p.objs.length ⟨3,d,a,b,fn,obj,off,size,num,args,lg⟩=[.sub (some a) (some d),.sub (some b) (some d)]:=by
     simp [qep,qeo,ef]
    rw [e0]
    simp only [AR.pass,List.foldl_cons,List.foldl_nil,AR.con,AR.put,AR.get]
    rw [List.set_set]
    have g1:(x.regs.set d (orL (x.regs.getD d []) (x.regs.getD a []))).getD d []=orL (x.regs.getD d []) (x.regs.getD a []):=by simp [List.getD,hdl]
    rw [g1]
    by_cases eb:b=d
    ·subst eb
     rw [g1,qu8]
    ·have g2:(x.regs.set d (orL (x.regs.getD d []) (x.regs.getD a []))).getD b []=x.regs.getD b []:=by simp [List.getD,List.getElem?_set,Ne.symm eb]
     rw [g2]
   rw [e]
   rcases ef with rfl|rfl
   ·exact qsm w0 w k x _ V d a b obj off size num args lg h hv2 ld la lb hT hT0
   ·exact qsk w0 w k x _ V d a b obj off size num args lg h hv2 ld la lb hT hT0
  ·have e:x.pass (qep p.objs.length ⟨3,d,a,b,fn,obj,off,size,num,args,lg⟩)=x:=by
    simp [qep,qeo,AR.pass,ef]
   rw [e]
   exact qun w0 w k x _ V d a b fn obj off size num args lg h hv2 (by simp;omega) (by simp;omega)
 by_cases e5:op=5
 ·subst e5
  obtain ⟨hd, -, -, -⟩:=hq (by decide)
  by_cases es:size=4
  ·subst es
   obtain ⟨d,rfl,ld⟩:=nat _ (qbv hd rfl)
   have e:x.pass (qep p.objs.length ⟨5,d,a,b,fn,obj,off,4,num,args,lg⟩)=⟨x.regs.set d (orL (x.regs.getD d []) x.out),x.out⟩:=by
    simp [qep,qeo,AR.pass,AR.con,AR.put,AR.get]
   rw [e]
   exact qxx w0 w k x _ V d a b fn obj off num args lg h hv2 ld hT hT0
  ·have e:x.pass (qep p.objs.length ⟨5,d,a,b,fn,obj,off,size,num,args,lg⟩)=x:=by
    simp [qep,qeo,AR.pass,es]
   rw [e]
   exact qwg w0 w k x _ V d a b fn obj off size num args lg h hv2 (by simp;omega)
 by_cases e6:op=6
 ·subst e6
  obtain ⟨-, -,hb, -⟩:=hq (by decide)
  by_cases es:size=4
  ·subst es
   obtain ⟨b,rfl,lb⟩:=nat _ (qbv hb rfl)
   have e:x.pass (qep p.objs.length ⟨6,d,a,b,fn,obj,off,4,num,args,lg⟩)=⟨x.regs,orL x.out (x.regs.getD b [])⟩:=by
    simp [qep,qeo,AR.pass,AR.con,AR.put,AR.get]
   rw [e]
   exact qy5 w0 w k x _ V b d a fn obj off num args lg h hv2 lb hT hT0
  ·have e:x.pass (qep p.objs.length ⟨6,d,a,b,fn,obj,off,size,num,args,lg⟩)=x:=by
    simp [qep,qeo,AR.pass,es]
   rw [e]
   exact quw w0 w k x _ V d a b fn obj off size num args lg h hv2 (by simp;omega)
 by_cases e9:op=9
 ·subst e9
  have h9:=h9 rfl
  unfold qd0 at h9
  simp only [Bool.and_eq_true,decide_eq_true_eq,List.all_eq_true] at h9
  obtain ⟨-, -, -,hd,ha⟩:=h9
  have hargs:∀ j,j<args.length→∃ r:Nat,args.getD j 0=(r:Int)∧r<k.n:=fun j hj=>nat _ (qbv (ha _ (by simp only [List.getD,List.getElem?_eq_getElem hj,Option.getD_some];exact List.getElem_mem _)) rfl)
  by_cases ed:d= -1
  ·subst ed
   have e:x.pass (qep p.objs.length ⟨9, -1,a,b,fn,obj,off,size,num,args,lg⟩)=x.pass (qmc args):=by
    simp [qep,qmc]
   rw [e]
   exact qt3 w0 w k x _ V a b fn obj off size num args lg h hv hargs hal hT hT0
  ·rcases qjc hd with e0|e0
   ·exact absurd e0 ed
   ·obtain ⟨d,rfl,ld⟩:=nat _ e0
    have e:x.pass (qep p.objs.length ⟨9,d,a,b,fn,obj,off,size,num,args,lg⟩)=AR.pass ⟨x.regs.set d (orL (x.regs.getD d []) x.out),x.out⟩ (qmc args):=by
     unfold qep
     rw [if_pos rfl,if_neg ed]
     rfl
    rw [e]
    exact qwa w0 w k x _ V d a b fn obj off size num args lg h hv ld _ rfl hargs hal hT hT0
 have e:x.pass (qep p.objs.length ⟨op,d,a,b,fn,obj,off,size,num,args,lg⟩)=x:=by
  simp [qep,qeo,AR.pass,e7,e8,e2,e3,e5,e6,e9]
 rw [e]
 exact qvy w0 w k x _ V op d a b fn obj off size num args lg h hv2 (by simp;omega) (by simp;omega) (by simp;omega) (by simp;omega) (by simp;omega) (by simp;omega) (by simp;omega)
end
end Go.Proofs.Ytmcddolkpcgddaa
