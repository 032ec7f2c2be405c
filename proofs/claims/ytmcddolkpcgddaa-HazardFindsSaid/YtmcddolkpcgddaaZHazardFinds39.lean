/-
 The document's answer for alias: what an instruction adds.
-/
import Derived.Test.YtmcddolkpcgddaaZHazardFinds38
set_option maxHeartbeats 4000000
set_option maxRecDepth 100000
set_option linter.all false
namespace Go.Proofs.Ytmcddolkpcgddaa
open Go.ChangeShapes Go.WideShapes Go.ChangeAt Go.RowKit
def qo3 (w0:World) (k:AlK) (x:AR) (e:Ending) (w':World):Prop:=e=.returned (.tuple #[])∧∃ k',AlM w0 w' k' x∧k'.bx=k.bx∧k'.vr=k.vr∧k'.T=k.T∧k'.n=k.n
theorem qb2 {w w':World} {v:Value} {l:List Bool} (h:qfh w' w.heap.size v l) (hl:0<l.length):∃ g c,v=qbf g l.length c∧qcn w' g l.length c l∧w.heap.size≤g∧g<w'.heap.size:=by
 obtain ⟨h1,⟨rfl,h2⟩|⟨g,cap,cur,rfl,hb,hg,r⟩⟩:=h
 ·omega
 ·exact ⟨g,cap,rfl,⟨h1,.inr ⟨g,cap,cur,rfl,Nat.zero_le _,hg,r⟩⟩,hb,(qkp hg).1⟩
theorem qcs {w w':World} {a b c:Nat} (hb:Below w.heap.size w w') (ha:a<w.heap.size) (hb':b<w.heap.size) (hc:c<w.heap.size):qcl (fun x=>x=a∨x=b∨x=c) w w':=fun z o hs=>hb.cell (p:=⟨z,o,none⟩) (by rcases hs with rfl|rfl|rfl <;> assumption)
theorem qyo (w0 w:World) (k:AlK) (x:AR) (o:Int) (V:Value) (d:Nat) (a b fn obj off size num:Int) (args:List Int) (lg:Bool) (h:AlM w0 w k x) (hv:InV w V ⟨7,d,a,b,fn,obj,off,size,num,args,lg⟩) (hd:d<k.n)  (hT:k.T≤1000) (hT0:0<k.T) :
  Calls Try.prog 79 #[.pointer (some ⟨k.bx,0,none⟩),.int .i64 o,V] w (qo3 w0 k ⟨x.regs.set d (qhy (x.regs.getD d []) obj),x.out⟩):=by
 obtain ⟨va,rfl, -⟩:=hv
 dsimp only
 obtain ⟨br,cp,hvr,e1,e2,e3, -,e4,e5⟩:=h.at hd
 have yd:=e4 d hd
 have gd1:decide (d<k.n)=true:=qkn hd
 have gd2:decide ((d:Int)<(k.n:Int))=true:=qkn (by omega)
 have HRd:=qkm (h.row d hd)
 have HLd:Hid ((x.regs.getD d []).length=k.T):=h.ok.get (some d) fun q e=>by cases e;exact hd
 have HRo:=qkm h.out
 have HLo:=qkm h.ok.out
 have yf:=e5 d
 clear e4 e5
 unfold maxLen at e2
 have H:=qkm h
 have hlx:=h.lt
 have c0:w.cell? ⟨k.bx,0,none⟩=some (.slice (some ⟨br,0,none⟩) k.n cp):=by rw [qab h.hv 0,←hvr];rfl
 have c1:w.cell? ⟨k.bx,1,none⟩=some (.slice (some ⟨k.ro.1,0,none⟩) k.T k.ro.2):=by rw [qab h.hv 1];rfl
 have Hvr:=qkm hvr
 clear h hvr
 unfold qbf at yd
 generalize hro:k.ro=RO at *
 clear hro
 obtain ⟨og,oc⟩:=RO
 dsimp only at c1 HRo
 generalize k.rs.getD d (0,0)=Rd at *
 obtain ⟨gd,kd⟩:=Rd
 dsimp only at yd HRd
 go_enter Try.func79,Try.ntmps79
 go_wp2_with fail
 obtain ⟨W1,hW1⟩:∃ W1:World,W1=w.alloc (.cells #[.int .i64 7,.int .i64 d,.int .i64 a,.int .i64 b,.int .i64 fn,.int .i64 obj,.int .i64 off,.int .i64 size,.int .u32 num,va,.bool lg] 58):=⟨_,rfl⟩
 rw [←hW1]
 have hb1:W1.heap[w.heap.size]?=some (.cells #[.int .i64 7,.int .i64 d,.int .i64 a,.int .i64 b,.int .i64 fn,.int .i64 obj,.int .i64 off,.int .i64 size,.int .u32 num,va,.bool lg] 58):=by rw [hW1];exact heap_alloc_new w _
 have BD1:Below w.heap.size w W1:=by rw [hW1];exact qaa w _
 clear hW1
 refine qae (fun z=>z=k.bx∨z=br∨z=w.heap.size) (by kernel_rfl) ?_
 obtain ⟨W2,hW2⟩:∃ W2:World,W2=W1.drew:=⟨_,rfl⟩
 first|rw [←hW2]|rw [show (⟨W1.heap,W1.tape,W1.drawn+1,W1.os,W1.output⟩:World)=W2 from hW2.symm]
 have HB2:Hid (W2.heap[w.heap.size]?=some (.cells #[.int .i64 7,.int .i64 d,.int .i64 a,.int .i64 b,.int .i64 fn,.int .i64 obj,.int .i64 off,.int .i64 size,.int .u32 num,va,.bool lg] 58)):=by rw [hW2];exact hb1
 have BD:Below w.heap.size w W2:=by rw [hW2];exact BD1.drew
 clear hW2 hb1 BD1
 have H:=qkm (H.out.grow BD)
 have HRd:=qkm (HRd.out.below BD)
 have HRo:=qkm (HRo.out.below BD)
 have c0:W2.cell? ⟨k.bx,0,none⟩=_:=(BD.cell (p:=⟨k.bx,0,none⟩) hlx).trans c0
 have c1:W2.cell? ⟨k.bx,1,none⟩=_:=(BD.cell (p:=⟨k.bx,1,none⟩) hlx).trans c1
 have yd:W2.cell? ⟨br,d,none⟩=_:=(BD.cell (p:=⟨br,d,none⟩) e3).trans yd
 have yf:W2.frozen? ⟨br,d,none⟩=false:=(BD.frozen (p:=⟨br,d,none⟩) e3).trans yf
 have hlx:k.bx<W2.heap.size:=H.out.lt
 have e3:br<W2.heap.size:=Nat.lt_of_lt_of_le e3 BD.size
 obtain ⟨b0,b1,b2,b3,b4,b5,b6,b7,b8,b9,b10,lb⟩:=qau HB2.out
 refine qaf [0,1,2,3,4,5,6,7,8,9,10,11,12,13,14,15] _ _ _ _ (by kernel_rfl) ?_
 simp only [qka,qkb,qkc,qkd,qke,qkf,qkg,qkh,qki,Nat.reduceAdd,Nat.reduceSub]
 repeat (go_big_quiet_step (fail))
 refine wpQuiet_nil ?_
 have HC:=qkm (qjy gd k.T kd _ obj W2 HRd.out (by rw [HLd.out];exact hT))
 refine qag 16 _ rfl (by kernel_rfl) ?_
 simp only [qkj,qkk,qkl]
 go_wp2_with fail
 refine HC.out.mono ?_
 rintro e w3 ⟨v,rfl,ho,hb⟩
 obtain ⟨q1,j1,rfl,hg,hgl,hgs⟩:=qb2 ho (by rw [qdh,HLd.out];exact hT0)
 rw [qdh,HLd.out] at hg ⊢
 have H:=qkm (H.out.grow hb)
 have HB2:=qkm ((hb.block _ lb).trans HB2.out)
 have hkeep:=qkm (qcs hb hlx e3 lb)
 clear b0 b1 b2 b3 b4 b5 b6 b7 b8 b9 b10
 have HRd:=qkm (HRd.out.below hb)
 have HRo:=qkm (HRo.out.below hb)
 have c0:w3.cell? ⟨k.bx,0,none⟩=_:=(hb.cell (p:=⟨k.bx,0,none⟩) hlx).trans c0
 have c1:w3.cell? ⟨k.bx,1,none⟩=_:=(hb.cell (p:=⟨k.bx,1,none⟩) hlx).trans c1
 have yd:w3.cell? ⟨br,d,none⟩=_:=(hb.cell (p:=⟨br,d,none⟩) e3).trans yd
 have yf:w3.frozen? ⟨br,d,none⟩=false:=(hb.frozen (p:=⟨br,d,none⟩) e3).trans yf
 have hlx:k.bx<w3.heap.size:=H.out.lt
 have e3:br<w3.heap.size:=Nat.lt_of_lt_of_le e3 hb.size
 obtain ⟨b0,b1,b2,b3,b4,b5,b6,b7,b8,b9,b10,lb⟩:=qau HB2.out
 have hG1:=qkm hg
 clear ho hg HC
 unfold qbf
 go_wp2_with fail
 refine ⟨hkeep.out,?_⟩
 clear hkeep
 try simp only [Act.put,List.setIfInBounds_toArray,List.set_cons_succ,List.set_cons_zero]
 refine qaf [17] _ _ _ _ (by kernel_rfl) ?_
 simp only [qka,qkb,qkc,qkd,qke,qkf,qkg,qkh,qki,Nat.reduceAdd,Nat.reduceSub]
 repeat (go_big_quiet_step (fail))
 refine wpQuiet_nil ?_
 refine qbq 18 _ rfl (by kernel_rfl) ?_
 simp only [qkj,qkk,qkl]
 go_wp2_with fail
 refine qao (by kernel_rfl) ?_ _
 have H4:=qkm (H.out.setR Hvr.out hd hG1.out (by rw [qdh,HLd.out]))
 have HB4:Hid ((w3.setCell ⟨br,d,none⟩ (qbf q1 k.T j1)).heap[w.heap.size]?=_):=(Below.heap_setCell w3 ⟨br,d,none⟩ _ w.heap.size (by show w.heap.size≠br;omega)).trans HB2.out
 unfold qbf at H4 HB4
 generalize hW4:w3.setCell ⟨br,d,none⟩ (.slice (some ⟨q1,0,none⟩) k.T j1)=W4 at *
 clear hW4 b0 b1 b2 b3 b4 b5 b6 b7 b8 b9 b10 c0 c1 yf yd
 obtain ⟨b0,b1,b2,b3,b4,b5,b6,b7,b8,b9,b10,lb4⟩:=qau HB4.out
 go_wp2_with fail
 go_end0
 exact ⟨rfl,_,H4.out,rfl,rfl,rfl,rfl⟩
theorem qzf (w0 w:World) (k:AlK) (x:AR) (o:Nat) (V:Value) (d obj:Nat) (a b fn off size num:Int) (args:List Int) (lg:Bool) (h:AlM w0 w k x) (hv:InV w V ⟨8,d,a,b,fn,obj,off,size,num,args,lg⟩) (hd:d<k.n) (ho1:o≤1000) (ho2:obj≤1000) (hT:k.T≤1000) (hT0:0<k.T) :
  Calls Try.prog 79 #[.pointer (some ⟨k.bx,0,none⟩),.int .i64 o,V] w (qo3 w0 k ⟨x.regs.set d (qhy (x.regs.getD d []) ((o:Int)+(obj:Int))),x.out⟩):=by
 obtain ⟨va,rfl, -⟩:=hv
 dsimp only
 obtain ⟨br,cp,hvr,e1,e2,e3, -,e4,e5⟩:=h.at hd
 have yd:=e4 d hd
 have gd1:decide (d<k.n)=true:=qkn hd
 have gd2:decide ((d:Int)<(k.n:Int))=true:=qkn (by omega)
 have HRd:=qkm (h.row d hd)
 have HLd:Hid ((x.regs.getD d []).length=k.T):=h.ok.get (some d) fun q e=>by cases e;exact hd
 have HRo:=qkm h.out
 have HLo:=qkm h.ok.out
 have yf:=e5 d
 clear e4 e5
 unfold maxLen at e2
 have H:=qkm h
 have hlx:=h.lt
 have c0:w.cell? ⟨k.bx,0,none⟩=some (.slice (some ⟨br,0,none⟩) k.n cp):=by rw [qab h.hv 0,←hvr];rfl
 have c1:w.cell? ⟨k.bx,1,none⟩=some (.slice (some ⟨k.ro.1,0,none⟩) k.T k.ro.2):=by rw [qab h.hv 1];rfl
 have Hvr:=qkm hvr
 clear h hvr
 unfold qbf at yd
 generalize hro:k.ro=RO at *
 clear hro
 obtain ⟨og,oc⟩:=RO
 dsimp only at c1 HRo
 generalize k.rs.getD d (0,0)=Rd at *
 obtain ⟨gd,kd⟩:=Rd
 dsimp only at yd HRd
 go_enter Try.func79,Try.ntmps79
 go_wp2_with fail
 obtain ⟨W1,hW1⟩:∃ W1:World,W1=w.alloc (.cells #[.int .i64 8,.int .i64 d,.int .i64 a,.int .i64 b,.int .i64 fn,.int .i64 obj,.int .i64 off,.int .i64 size,.int .u32 num,va,.bool lg] 58):=⟨_,rfl⟩
 rw [←hW1]
 have hb1:W1.heap[w.heap.size]?=some (.cells #[.int .i64 8,.int .i64 d,.int .i64 a,.int .i64 b,.int .i64 fn,.int .i64 obj,.int .i64 off,.int .i64 size,.int .u32 num,va,.bool lg] 58):=by rw [hW1];exact heap_alloc_new w _
 have BD1:Below w.heap.size w W1:=by rw [hW1];exact qaa w _
 clear hW1
 refine qae (fun z=>z=k.bx∨z=br∨z=w.heap.size) (by kernel_rfl) ?_
 obtain ⟨W2,hW2⟩:∃ W2:World,W2=W1.drew:=⟨_,rfl⟩
 first|rw [←hW2]|rw [show (⟨W1.heap,W1.tape,W1.drawn+1,W1.os,W1.output⟩:World)=W2 from hW2.symm]
 have HB2:Hid (W2.heap[w.heap.size]?=some (.cells #[.int .i64 8,.int .i64 d,.int .i64 a,.int .i64 b,.int .i64 fn,.int .i64 obj,.int .i64 off,.int .i64 size,.int .u32 num,va,.bool lg] 58)):=by rw [hW2];exact hb1
 have BD:Below w.heap.size w W2:=by rw [hW2];exact BD1.drew
 clear hW2 hb1 BD1
 have H:=qkm (H.out.grow BD)
 have HRd:=qkm (HRd.out.below BD)
 have HRo:=qkm (HRo.out.below BD)
 have c0:W2.cell? ⟨k.bx,0,none⟩=_:=(BD.cell (p:=⟨k.bx,0,none⟩) hlx).trans c0
 have c1:W2.cell? ⟨k.bx,1,none⟩=_:=(BD.cell (p:=⟨k.bx,1,none⟩) hlx).trans c1
 have yd:W2.cell? ⟨br,d,none⟩=_:=(BD.cell (p:=⟨br,d,none⟩) e3).trans yd
 have yf:W2.frozen? ⟨br,d,none⟩=false:=(BD.frozen (p:=⟨br,d,none⟩) e3).trans yf
 have hlx:k.bx<W2.heap.size:=H.out.lt
 have e3:br<W2.heap.size:=Nat.lt_of_lt_of_le e3 BD.size
 obtain ⟨b0,b1,b2,b3,b4,b5,b6,b7,b8,b9,b10,lb⟩:=qau HB2.out
 refine qaf [0,1,2,3,4,5,6,7,8,9,10,11,12,13,14,15,16,17] _ _ _ _ (by kernel_rfl) ?_
 simp only [qka,qkb,qkc,qkd,qke,qkf,qkg,qkh,qki,Nat.reduceAdd,Nat.reduceSub]
 repeat (go_big_quiet_step (fail))
 refine wpQuiet_nil ?_
 have HC:=qkm (qjy gd k.T kd _ ((o:Int)+(obj:Int)) W2 HRd.out (by rw [HLd.out];exact hT))
 refine qag 18 _ rfl (by kernel_rfl) ?_
 simp only [qkj,qkk,qkl]
 go_wp2_with fail
 refine HC.out.mono ?_
 rintro e w3 ⟨v,rfl,ho,hb⟩
 obtain ⟨q1,j1,rfl,hg,hgl,hgs⟩:=qb2 ho (by rw [qdh,HLd.out];exact hT0)
 rw [qdh,HLd.out] at hg ⊢
 have H:=qkm (H.out.grow hb)
 have HB2:=qkm ((hb.block _ lb).trans HB2.out)
 have hkeep:=qkm (qcs hb hlx e3 lb)
 clear b0 b1 b2 b3 b4 b5 b6 b7 b8 b9 b10
 have HRd:=qkm (HRd.out.below hb)
 have HRo:=qkm (HRo.out.below hb)
 have c0:w3.cell? ⟨k.bx,0,none⟩=_:=(hb.cell (p:=⟨k.bx,0,none⟩) hlx).trans c0
 have c1:w3.cell? ⟨k.bx,1,none⟩=_:=(hb.cell (p:=⟨k.bx,1,none⟩) hlx).trans c1
 have yd:w3.cell? ⟨br,d,none⟩=_:=(hb.cell (p:=⟨br,d,none⟩) e3).trans yd
 have yf:w3.frozen? ⟨br,d,none⟩=false:=(hb.frozen (p:=⟨br,d,none⟩) e3).trans yf
 have hlx:k.bx<w3.heap.size:=H.out.lt
 have e3:br<w3.heap.size:=Nat.lt_of_lt_of_le e3 hb.size
 obtain ⟨b0,b1,b2,b3,b4,b5,b6,b7,b8,b9,b10,lb⟩:=qau HB2.out
 have hG1:=qkm hg
 clear ho hg HC
 unfold qbf
 go_wp2_with fail
 refine ⟨hkeep.out,?_⟩
 clear hkeep
 try simp only [Act.put,List.setIfInBounds_toArray,List.set_cons_succ,List.set_cons_zero]
 refine qaf [19] _ _ _ _ (by kernel_rfl) ?_
 simp only [qka,qkb,qkc,qkd,qke,qkf,qkg,qkh,qki,Nat.reduceAdd,Nat.reduceSub]
 repeat (go_big_quiet_step (fail))
 refine wpQuiet_nil ?_
 refine qbq 20 _ rfl (by kernel_rfl) ?_
 simp only [qkj,qkk,qkl]
 go_wp2_with fail
 refine qao (by kernel_rfl) ?_ _
 have H4:=qkm (H.out.setR Hvr.out hd hG1.out (by rw [qdh,HLd.out]))
 have HB4:Hid ((w3.setCell ⟨br,d,none⟩ (qbf q1 k.T j1)).heap[w.heap.size]?=_):=(Below.heap_setCell w3 ⟨br,d,none⟩ _ w.heap.size (by show w.heap.size≠br;omega)).trans HB2.out
 unfold qbf at H4 HB4
 generalize hW4:w3.setCell ⟨br,d,none⟩ (.slice (some ⟨q1,0,none⟩) k.T j1)=W4 at *
 clear hW4 b0 b1 b2 b3 b4 b5 b6 b7 b8 b9 b10 c0 c1 yf yd
 obtain ⟨b0,b1,b2,b3,b4,b5,b6,b7,b8,b9,b10,lb4⟩:=qau HB4.out
 go_wp2_with fail
 go_end0
 exact ⟨rfl,_,H4.out,rfl,rfl,rfl,rfl⟩
theorem qxq (w0 w:World) (k:AlK) (x:AR) (o:Int) (V:Value) (d a:Nat) (b fn obj off size num:Int) (args:List Int) (lg:Bool) (h:AlM w0 w k x) (hv:InV w V ⟨2,d,a,b,fn,obj,off,size,num,args,lg⟩) (hd:d<k.n) (ha:a<k.n)  (hT:k.T≤1000) (hT0:0<k.T) :
  Calls Try.prog 79 #[.pointer (some ⟨k.bx,0,none⟩),.int .i64 o,V] w (qo3 w0 k ⟨x.regs.set d (orL (x.regs.getD d []) (x.regs.getD a [])),x.out⟩):=by
 obtain ⟨va,rfl, -⟩:=hv
 dsimp only
 obtain ⟨br,cp,hvr,e1,e2,e3, -,e4,e5⟩:=h.at hd
 have yd:=e4 d hd
 have gd1:decide (d<k.n)=true:=qkn hd
 have gd2:decide ((d:Int)<(k.n:Int))=true:=qkn (by omega)
 have HRd:=qkm (h.row d hd)
 have HLd:Hid ((x.regs.getD d []).length=k.T):=h.ok.get (some d) fun q e=>by cases e;exact hd
 have ya:=e4 a ha
 have ga1:decide (a<k.n)=true:=qkn ha
 have ga2:decide ((a:Int)<(k.n:Int))=true:=qkn (by omega)
 have HRa:=qkm (h.row a ha)
 have HLa:Hid ((x.regs.getD a []).length=k.T):=h.ok.get (some a) fun q e=>by cases e;exact ha
 have HRo:=qkm h.out
 have HLo:=qkm h.ok.out
 have yf:=e5 d
 clear e4 e5
 unfold maxLen at e2
 have H:=qkm h
 have hlx:=h.lt
 have c0:w.cell? ⟨k.bx,0,none⟩=some (.slice (some ⟨br,0,none⟩) k.n cp):=by rw [qab h.hv 0,←hvr];rfl
 have c1:w.cell? ⟨k.bx,1,none⟩=some (.slice (some ⟨k.ro.1,0,none⟩) k.T k.ro.2):=by rw [qab h.hv 1];rfl
 have Hvr:=qkm hvr
 clear h hvr
 unfold qbf at yd
 unfold qbf at ya
 generalize hro:k.ro=RO at *
 clear hro
 obtain ⟨og,oc⟩:=RO
 dsimp only at c1 HRo
 generalize k.rs.getD d (0,0)=Rd at *
 obtain ⟨gd,kd⟩:=Rd
 dsimp only at yd HRd
 generalize k.rs.getD a (0,0)=Ra at *
 obtain ⟨ga,ka⟩:=Ra
 dsimp only at ya HRa
 go_enter Try.func79,Try.ntmps79
 go_wp2_with fail
 obtain ⟨W1,hW1⟩:∃ W1:World,W1=w.alloc (.cells #[.int .i64 2,.int .i64 d,.int .i64 a,.int .i64 b,.int .i64 fn,.int .i64 obj,.int .i64 off,.int .i64 size,.int .u32 num,va,.bool lg] 58):=⟨_,rfl⟩
 rw [←hW1]
 have hb1:W1.heap[w.heap.size]?=some (.cells #[.int .i64 2,.int .i64 d,.int .i64 a,.int .i64 b,.int .i64 fn,.int .i64 obj,.int .i64 off,.int .i64 size,.int .u32 num,va,.bool lg] 58):=by rw [hW1];exact heap_alloc_new w _
 have BD1:Below w.heap.size w W1:=by rw [hW1];exact qaa w _
 clear hW1
 refine qae (fun z=>z=k.bx∨z=br∨z=w.heap.size) (by kernel_rfl) ?_
 obtain ⟨W2,hW2⟩:∃ W2:World,W2=W1.drew:=⟨_,rfl⟩
 first|rw [←hW2]|rw [show (⟨W1.heap,W1.tape,W1.drawn+1,W1.os,W1.output⟩:World)=W2 from hW2.symm]
 have HB2:Hid (W2.heap[w.heap.size]?=some (.cells #[.int .i64 2,.int .i64 d,.int .i64 a,.int .i64 b,.int .i64 fn,.int .i64 obj,.int .i64 off,.int .i64 size,.int .u32 num,va,.bool lg] 58)):=by rw [hW2];exact hb1
 have BD:Below w.heap.size w W2:=by rw [hW2];exact BD1.drew
 clear hW2 hb1 BD1
 have H:=qkm (H.out.grow BD)
 have HRd:=qkm (HRd.out.below BD)
 have HRa:=qkm (HRa.out.below BD)
 have HRo:=qkm (HRo.out.below BD)
 have c0:W2.cell? ⟨k.bx,0,none⟩=_:=(BD.cell (p:=⟨k.bx,0,none⟩) hlx).trans c0
 have c1:W2.cell? ⟨k.bx,1,none⟩=_:=(BD.cell (p:=⟨k.bx,1,none⟩) hlx).trans c1
 have yd:W2.cell? ⟨br,d,none⟩=_:=(BD.cell (p:=⟨br,d,none⟩) e3).trans yd
 have ya:W2.cell? ⟨br,a,none⟩=_:=(BD.cell (p:=⟨br,a,none⟩) e3).trans ya
 have yf:W2.frozen? ⟨br,d,none⟩=false:=(BD.frozen (p:=⟨br,d,none⟩) e3).trans yf
 have hlx:k.bx<W2.heap.size:=H.out.lt
 have e3:br<W2.heap.size:=Nat.lt_of_lt_of_le e3 BD.size
 obtain ⟨b0,b1,b2,b3,b4,b5,b6,b7,b8,b9,b10,lb⟩:=qau HB2.out
 refine qaf [0,1,2,3,4,5,6,7,8,9,10,11,12,13,14,15,16,17,18,19,20,21] _ _ _ _ (by kernel_rfl) ?_
 simp only [qka,qkb,qkc,qkd,qke,qkf,qkg,qkh,qki,Nat.reduceAdd,Nat.reduceSub]
 repeat (go_big_quiet_step (fail))
 refine wpQuiet_nil ?_
 have HC:=qkm (qbx gd k.T kd ga k.T ka _ _ W2 HRd.out HRa.out (by rw [HLd.out,HLa.out];exact Nat.le_refl _) (by rw [HLa.out];exact hT))
 refine qag 22 _ rfl (by kernel_rfl) ?_
 simp only [qkj,qkk,qkl]
 go_wp2_with fail
 refine HC.out.mono ?_
 rintro e w3 ⟨v,rfl,ho,hb⟩
 obtain ⟨q1,j1,rfl,hg,hgl,hgs⟩:=qb2 ho (by rw [qas,HLd.out];exact hT0)
 rw [qas,HLd.out] at hg ⊢
 have H:=qkm (H.out.grow hb)
 have HB2:=qkm ((hb.block _ lb).trans HB2.out)
 have hkeep:=qkm (qcs hb hlx e3 lb)
 clear b0 b1 b2 b3 b4 b5 b6 b7 b8 b9 b10
 have HRd:=qkm (HRd.out.below hb)
 have HRa:=qkm (HRa.out.below hb)
 have HRo:=qkm (HRo.out.below hb)
 have c0:w3.cell? ⟨k.bx,0,none⟩=_:=(hb.cell (p:=⟨k.bx,0,none⟩) hlx).trans c0
 have c1:w3.cell? ⟨k.bx,1,none⟩=_:=(hb.cell (p:=⟨k.bx,1,none⟩) hlx).trans c1
 have yd:w3.cell? ⟨br,d,none⟩=_:=(hb.cell (p:=⟨br,d,none⟩) e3).trans yd
 have ya:w3.cell? ⟨br,a,none⟩=_:=(hb.cell (p:=⟨br,a,none⟩) e3).trans ya
 have yf:w3.frozen? ⟨br,d,none⟩=false:=(hb.frozen (p:=⟨br,d,none⟩) e3).trans yf
 have hlx:k.bx<w3.heap.size:=H.out.lt
 have e3:br<w3.heap.size:=Nat.lt_of_lt_of_le e3 hb.size
 obtain ⟨b0,b1,b2,b3,b4,b5,b6,b7,b8,b9,b10,lb⟩:=qau HB2.out
 have hG1:=qkm hg
 clear ho hg HC
 unfold qbf
 go_wp2_with fail
 refine ⟨hkeep.out,?_⟩
 clear hkeep
 try simp only [Act.put,List.setIfInBounds_toArray,List.set_cons_succ,List.set_cons_zero]
 refine qaf [23] _ _ _ _ (by kernel_rfl) ?_
 simp only [qka,qkb,qkc,qkd,qke,qkf,qkg,qkh,qki,Nat.reduceAdd,Nat.reduceSub]
 repeat (go_big_quiet_step (fail))
 refine wpQuiet_nil ?_
 refine qbq 24 _ rfl (by kernel_rfl) ?_
 simp only [qkj,qkk,qkl]
 go_wp2_with fail
 refine qao (by kernel_rfl) ?_ _
 have H4:=qkm (H.out.setR Hvr.out hd hG1.out (by rw [qas,HLd.out]))
 have HB4:Hid ((w3.setCell ⟨br,d,none⟩ (qbf q1 k.T j1)).heap[w.heap.size]?=_):=(Below.heap_setCell w3 ⟨br,d,none⟩ _ w.heap.size (by show w.heap.size≠br;omega)).trans HB2.out
 unfold qbf at H4 HB4
 generalize hW4:w3.setCell ⟨br,d,none⟩ (.slice (some ⟨q1,0,none⟩) k.T j1)=W4 at *
 clear hW4 b0 b1 b2 b3 b4 b5 b6 b7 b8 b9 b10 c0 c1 yf yd ya
 obtain ⟨b0,b1,b2,b3,b4,b5,b6,b7,b8,b9,b10,lb4⟩:=qau HB4.out
 go_wp2_with fail
 go_end0
 exact ⟨rfl,_,H4.out,rfl,rfl,rfl,rfl⟩
theorem qsm (w0 w:World) (k:AlK) (x:AR) (o:Int) (V:Value) (d a b:Nat) (obj off size num:Int) (args:List Int) (lg:Bool) (h:AlM w0 w k x) (hv:InV w V ⟨3,d,a,b,1,obj,off,size,num,args,lg⟩) (hd:d<k.n) (ha:a<k.n) (hb:b<k.n)  (hT:k.T≤1000) (hT0:0<k.T) :
  Calls Try.prog 79 #[.pointer (some ⟨k.bx,0,none⟩),.int .i64 o,V] w (qo3 w0 k ⟨x.regs.set d (orL (orL (x.regs.getD d []) (x.regs.getD a [])) (x.regs.getD b [])),x.out⟩):=by
 obtain ⟨va,rfl, -⟩:=hv
 dsimp only
 obtain ⟨br,cp,hvr,e1,e2,e3, -,e4,e5⟩:=h.at hd
 have yd:=e4 d hd
 have gd1:decide (d<k.n)=true:=qkn hd
 have gd2:decide ((d:Int)<(k.n:Int))=true:=qkn (by omega)
 have HRd:=qkm (h.row d hd)
 have HLd:Hid ((x.regs.getD d []).length=k.T):=h.ok.get (some d) fun q e=>by cases e;exact hd
 have ya:=e4 a ha
 have ga1:decide (a<k.n)=true:=qkn ha
 have ga2:decide ((a:Int)<(k.n:Int))=true:=qkn (by omega)
 have HRa:=qkm (h.row a ha)
 have HLa:Hid ((x.regs.getD a []).length=k.T):=h.ok.get (some a) fun q e=>by cases e;exact ha
 have yb:=e4 b hb
 have gb1:decide (b<k.n)=true:=qkn hb
 have gb2:decide ((b:Int)<(k.n:Int))=true:=qkn (by omega)
 have HRb:=qkm (h.row b hb)
 have HLb:Hid ((x.regs.getD b []).length=k.T):=h.ok.get (some b) fun q e=>by cases e;exact hb
 have HRo:=qkm h.out
 have HLo:=qkm h.ok.out
 have yf:=e5 d
 clear e4 e5
 unfold maxLen at e2
 have H:=qkm h
 have hlx:=h.lt
 have c0:w.cell? ⟨k.bx,0,none⟩=some (.slice (some ⟨br,0,none⟩) k.n cp):=by rw [qab h.hv 0,←hvr];rfl
 have c1:w.cell? ⟨k.bx,1,none⟩=some (.slice (some ⟨k.ro.1,0,none⟩) k.T k.ro.2):=by rw [qab h.hv 1];rfl
 have Hvr:=qkm hvr
 clear h hvr
 unfold qbf at yd
 unfold qbf at ya
 unfold qbf at yb
 generalize hro:k.ro=RO at *
 clear hro
 obtain ⟨og,oc⟩:=RO
 dsimp only at c1 HRo
 generalize k.rs.getD d (0,0)=Rd at *
 obtain ⟨gd,kd⟩:=Rd
 dsimp only at yd HRd
 generalize k.rs.getD a (0,0)=Ra at *
 obtain ⟨ga,ka⟩:=Ra
 dsimp only at ya HRa
 generalize k.rs.getD b (0,0)=Rb at *
 obtain ⟨gb,kb⟩:=Rb
 dsimp only at yb HRb
 go_enter Try.func79,Try.ntmps79
 go_wp2_with fail
 obtain ⟨W1,hW1⟩:∃ W1:World,W1=w.alloc (.cells #[.int .i64 3,.int .i64 d,.int .i64 a,.int .i64 b,.int .i64 1,.int .i64 obj,.int .i64 off,.int .i64 size,.int .u32 num,va,.bool lg] 58):=⟨_,rfl⟩
 rw [←hW1]
 have hb1:W1.heap[w.heap.size]?=some (.cells #[.int .i64 3,.int .i64 d,.int .i64 a,.int .i64 b,.int .i64 1,.int .i64 obj,.int .i64 off,.int .i64 size,.int .u32 num,va,.bool lg] 58):=by rw [hW1];exact heap_alloc_new w _
 have BD1:Below w.heap.size w W1:=by rw [hW1];exact qaa w _
 clear hW1
 refine qae (fun z=>z=k.bx∨z=br∨z=w.heap.size) (by kernel_rfl) ?_
 obtain ⟨W2,hW2⟩:∃ W2:World,W2=W1.drew:=⟨_,rfl⟩
 first|rw [←hW2]|rw [show (⟨W1.heap,W1.tape,W1.drawn+1,W1.os,W1.output⟩:World)=W2 from hW2.symm]
 have HB2:Hid (W2.heap[w.heap.size]?=some (.cells #[.int .i64 3,.int .i64 d,.int .i64 a,.int .i64 b,.int .i64 1,.int .i64 obj,.int .i64 off,.int .i64 size,.int .u32 num,va,.bool lg] 58)):=by rw [hW2];exact hb1
 have BD:Below w.heap.size w W2:=by rw [hW2];exact BD1.drew
 clear hW2 hb1 BD1
 have H:=qkm (H.out.grow BD)
 have HRd:=qkm (HRd.out.below BD)
 have HRa:=qkm (HRa.out.below BD)
 have HRb:=qkm (HRb.out.below BD)
 have HRo:=qkm (HRo.out.below BD)
 have c0:W2.cell? ⟨k.bx,0,none⟩=_:=(BD.cell (p:=⟨k.bx,0,none⟩) hlx).trans c0
 have c1:W2.cell? ⟨k.bx,1,none⟩=_:=(BD.cell (p:=⟨k.bx,1,none⟩) hlx).trans c1
 have yd:W2.cell? ⟨br,d,none⟩=_:=(BD.cell (p:=⟨br,d,none⟩) e3).trans yd
 have ya:W2.cell? ⟨br,a,none⟩=_:=(BD.cell (p:=⟨br,a,none⟩) e3).trans ya
 have yb:W2.cell? ⟨br,b,none⟩=_:=(BD.cell (p:=⟨br,b,none⟩) e3).trans yb
 have yf:W2.frozen? ⟨br,d,none⟩=false:=(BD.frozen (p:=⟨br,d,none⟩) e3).trans yf
 have hlx:k.bx<W2.heap.size:=H.out.lt
 have e3:br<W2.heap.size:=Nat.lt_of_lt_of_le e3 BD.size
 obtain ⟨b0,b1,b2,b3,b4,b5,b6,b7,b8,b9,b10,lb⟩:=qau HB2.out
 refine qaf [0,1,2,3,4,5,6,7,8,9,10,11,12,13,14,15,16,17,18,19,20,21,23,24,25,26,27,28,29,30] _ _ _ _ (by kernel_rfl) ?_
 simp only [qka,qkb,qkc,qkd,qke,qkf,qkg,qkh,qki,Nat.reduceAdd,Nat.reduceSub]
 repeat (go_big_quiet_step (fail))
 refine wpQuiet_nil ?_
 have HC:=qkm (qbx gd k.T kd ga k.T ka _ _ W2 HRd.out HRa.out (by rw [HLd.out,HLa.out];exact Nat.le_refl _) (by rw [HLa.out];exact hT))
 refine qag 22 _ rfl (by kernel_rfl) ?_
 simp only [qkj,qkk,qkl]
 go_wp2_with fail
 refine HC.out.mono ?_
 rintro e w3 ⟨v,rfl,ho,hb⟩
 obtain ⟨q1,j1,rfl,hg,hgl,hgs⟩:=qb2 ho (by rw [qas,HLd.out];exact hT0)
 rw [qas,HLd.out] at hg ⊢
 have H:=qkm (H.out.grow hb)
 have HB2:=qkm ((hb.block _ lb).trans HB2.out)
 have hkeep:=qkm (qcs hb hlx e3 lb)
 clear b0 b1 b2 b3 b4 b5 b6 b7 b8 b9 b10
 have HRd:=qkm (HRd.out.below hb)
 have HRa:=qkm (HRa.out.below hb)
 have HRb:=qkm (HRb.out.below hb)
 have HRo:=qkm (HRo.out.below hb)
 have c0:w3.cell? ⟨k.bx,0,none⟩=_:=(hb.cell (p:=⟨k.bx,0,none⟩) hlx).trans c0
 have c1:w3.cell? ⟨k.bx,1,none⟩=_:=(hb.cell (p:=⟨k.bx,1,none⟩) hlx).trans c1
 have yd:w3.cell? ⟨br,d,none⟩=_:=(hb.cell (p:=⟨br,d,none⟩) e3).trans yd
 have ya:w3.cell? ⟨br,a,none⟩=_:=(hb.cell (p:=⟨br,a,none⟩) e3).trans ya
 have yb:w3.cell? ⟨br,b,none⟩=_:=(hb.cell (p:=⟨br,b,none⟩) e3).trans yb
 have yf:w3.frozen? ⟨br,d,none⟩=false:=(hb.frozen (p:=⟨br,d,none⟩) e3).trans yf
 have hlx:k.bx<w3.heap.size:=H.out.lt
 have e3:br<w3.heap.size:=Nat.lt_of_lt_of_le e3 hb.size
 obtain ⟨b0,b1,b2,b3,b4,b5,b6,b7,b8,b9,b10,lb⟩:=qau HB2.out
 have hG1:=qkm hg
 clear ho hg HC
 unfold qbf
 go_wp2_with fail
 refine ⟨hkeep.out,?_⟩
 clear hkeep
 try simp only [Act.put,List.setIfInBounds_toArray,List.set_cons_succ,List.set_cons_zero]
 have HC:=qkm (qbx q1 k.T j1 gb k.T kb _ _ w3 (hG1.out) HRb.out (by rw [qas,HLd.out,HLb.out];exact Nat.le_refl _) (by rw [HLb.out];exact hT))
 refine qag 31 _ rfl (by kernel_rfl) ?_
 simp only [qkj,qkk,qkl]
 go_wp2_with fail
 refine HC.out.mono ?_
 rintro e w4 ⟨v,rfl,ho,hb⟩
 obtain ⟨q2,j2,rfl,hg,hgl,hgs⟩:=qb2 ho (by rw [qas,qas,HLd.out];exact hT0)
 rw [qas,qas,HLd.out] at hg ⊢
 have H:=qkm (H.out.grow hb)
 have HB2:=qkm ((hb.block _ lb).trans HB2.out)
 have hkeep:=qkm (qcs hb hlx e3 lb)
 clear b0 b1 b2 b3 b4 b5 b6 b7 b8 b9 b10
 have HRd:=qkm (HRd.out.below hb)
 have HRa:=qkm (HRa.out.below hb)
 have HRb:=qkm (HRb.out.below hb)
 have HRo:=qkm (HRo.out.below hb)
 have c0:w4.cell? ⟨k.bx,0,none⟩=_:=(hb.cell (p:=⟨k.bx,0,none⟩) hlx).trans c0
 have c1:w4.cell? ⟨k.bx,1,none⟩=_:=(hb.cell (p:=⟨k.bx,1,none⟩) hlx).trans c1
 have yd:w4.cell? ⟨br,d,none⟩=_:=(hb.cell (p:=⟨br,d,none⟩) e3).trans yd
 have ya:w4.cell? ⟨br,a,none⟩=_:=(hb.cell (p:=⟨br,a,none⟩) e3).trans ya
 have yb:w4.cell? ⟨br,b,none⟩=_:=(hb.cell (p:=⟨br,b,none⟩) e3).trans yb
 have yf:w4.frozen? ⟨br,d,none⟩=false:=(hb.frozen (p:=⟨br,d,none⟩) e3).trans yf
 have hlx:k.bx<w4.heap.size:=H.out.lt
 have e3:br<w4.heap.size:=Nat.lt_of_lt_of_le e3 hb.size
 obtain ⟨b0,b1,b2,b3,b4,b5,b6,b7,b8,b9,b10,lb⟩:=qau HB2.out
 have hG2:=qkm hg
 clear ho hg HC
 unfold qbf
 go_wp2_with fail
 refine ⟨hkeep.out,?_⟩
 clear hkeep
 try simp only [Act.put,List.setIfInBounds_toArray,List.set_cons_succ,List.set_cons_zero]
 refine qaf [32] _ _ _ _ (by kernel_rfl) ?_
 simp only [qka,qkb,qkc,qkd,qke,qkf,qkg,qkh,qki,Nat.reduceAdd,Nat.reduceSub]
 repeat (go_big_quiet_step (fail))
 refine wpQuiet_nil ?_
 refine qbq 33 _ rfl (by kernel_rfl) ?_
 simp only [qkj,qkk,qkl]
 go_wp2_with fail
 refine qao (by kernel_rfl) ?_ _
 have H4:=qkm (H.out.setR Hvr.out hd hG2.out (by rw [qas,qas,HLd.out]))
 have HB4:Hid ((w4.setCell ⟨br,d,none⟩ (qbf q2 k.T j2)).heap[w.heap.size]?=_):=(Below.heap_setCell w4 ⟨br,d,none⟩ _ w.heap.size (by show w.heap.size≠br;omega)).trans HB2.out
 unfold qbf at H4 HB4
 generalize hW4:w4.setCell ⟨br,d,none⟩ (.slice (some ⟨q2,0,none⟩) k.T j2)=W4 at *
 clear hW4 b0 b1 b2 b3 b4 b5 b6 b7 b8 b9 b10 c0 c1 yf yd ya yb
 obtain ⟨b0,b1,b2,b3,b4,b5,b6,b7,b8,b9,b10,lb4⟩:=qau HB4.out
 go_wp2_with fail
 go_end0
 exact ⟨rfl,_,H4.out,rfl,rfl,rfl,rfl⟩
theorem qsk (w0 w:World) (k:AlK) (x:AR) (o:Int) (V:Value) (d a b:Nat) (obj off size num:Int) (args:List Int) (lg:Bool) (h:AlM w0 w k x) (hv:InV w V ⟨3,d,a,b,2,obj,off,size,num,args,lg⟩) (hd:d<k.n) (ha:a<k.n) (hb:b<k.n)  (hT:k.T≤1000) (hT0:0<k.T) :
  Calls Try.prog 79 #[.pointer (some ⟨k.bx,0,none⟩),.int .i64 o,V] w (qo3 w0 k ⟨x.regs.set d (orL (orL (x.regs.getD d []) (x.regs.getD a [])) (x.regs.getD b [])),x.out⟩):=by
 obtain ⟨va,rfl, -⟩:=hv
 dsimp only
 obtain ⟨br,cp,hvr,e1,e2,e3, -,e4,e5⟩:=h.at hd
 have yd:=e4 d hd
 have gd1:decide (d<k.n)=true:=qkn hd
 have gd2:decide ((d:Int)<(k.n:Int))=true:=qkn (by omega)
 have HRd:=qkm (h.row d hd)
 have HLd:Hid ((x.regs.getD d []).length=k.T):=h.ok.get (some d) fun q e=>by cases e;exact hd
 have ya:=e4 a ha
 have ga1:decide (a<k.n)=true:=qkn ha
 have ga2:decide ((a:Int)<(k.n:Int))=true:=qkn (by omega)
 have HRa:=qkm (h.row a ha)
 have HLa:Hid ((x.regs.getD a []).length=k.T):=h.ok.get (some a) fun q e=>by cases e;exact ha
 have yb:=e4 b hb
 have gb1:decide (b<k.n)=true:=qkn hb
 have gb2:decide ((b:Int)<(k.n:Int))=true:=qkn (by omega)
 have HRb:=qkm (h.row b hb)
 have HLb:Hid ((x.regs.getD b []).length=k.T):=h.ok.get (some b) fun q e=>by cases e;exact hb
 have HRo:=qkm h.out
 have HLo:=qkm h.ok.out
 have yf:=e5 d
 clear e4 e5
 unfold maxLen at e2
 have H:=qkm h
 have hlx:=h.lt
 have c0:w.cell? ⟨k.bx,0,none⟩=some (.slice (some ⟨br,0,none⟩) k.n cp):=by rw [qab h.hv 0,←hvr];rfl
 have c1:w.cell? ⟨k.bx,1,none⟩=some (.slice (some ⟨k.ro.1,0,none⟩) k.T k.ro.2):=by rw [qab h.hv 1];rfl
 have Hvr:=qkm hvr
 clear h hvr
 unfold qbf at yd
 unfold qbf at ya
 unfold qbf at yb
 generalize hro:k.ro=RO at *
 clear hro
 obtain ⟨og,oc⟩:=RO
 dsimp only at c1 HRo
 generalize k.rs.getD d (0,0)=Rd at *
 obtain ⟨gd,kd⟩:=Rd
 dsimp only at yd HRd
 generalize k.rs.getD a (0,0)=Ra at *
 obtain ⟨ga,ka⟩:=Ra
 dsimp only at ya HRa
 generalize k.rs.getD b (0,0)=Rb at *
 obtain ⟨gb,kb⟩:=Rb
 dsimp only at yb HRb
 go_enter Try.func79,Try.ntmps79
 go_wp2_with fail
 obtain ⟨W1,hW1⟩:∃ W1:World,W1=w.alloc (.cells #[.int .i64 3,.int .i64 d,.int .i64 a,.int .i64 b,.int .i64 2,.int .i64 obj,.int .i64 off,.int .i64 size,.int .u32 num,va,.bool lg] 58):=⟨_,rfl⟩
 rw [←hW1]
 have hb1:W1.heap[w.heap.size]?=some (.cells #[.int .i64 3,.int .i64 d,.int .i64 a,.int .i64 b,.int .i64 2,.int .i64 obj,.int .i64 off,.int .i64 size,.int .u32 num,va,.bool lg] 58):=by rw [hW1];exact heap_alloc_new w _
 have BD1:Below w.heap.size w W1:=by rw [hW1];exact qaa w _
 clear hW1
 refine qae (fun z=>z=k.bx∨z=br∨z=w.heap.size) (by kernel_rfl) ?_
 obtain ⟨W2,hW2⟩:∃ W2:World,W2=W1.drew:=⟨_,rfl⟩
 first|rw [←hW2]|rw [show (⟨W1.heap,W1.tape,W1.drawn+1,W1.os,W1.output⟩:World)=W2 from hW2.symm]
 have HB2:Hid (W2.heap[w.heap.size]?=some (.cells #[.int .i64 3,.int .i64 d,.int .i64 a,.int .i64 b,.int .i64 2,.int .i64 obj,.int .i64 off,.int .i64 size,.int .u32 num,va,.bool lg] 58)):=by rw [hW2];exact hb1
 have BD:Below w.heap.size w W2:=by rw [hW2];exact BD1.drew
 clear hW2 hb1 BD1
 have H:=qkm (H.out.grow BD)
 have HRd:=qkm (HRd.out.below BD)
 have HRa:=qkm (HRa.out.below BD)
 have HRb:=qkm (HRb.out.below BD)
 have HRo:=qkm (HRo.out.below BD)
 have c0:W2.cell? ⟨k.bx,0,none⟩=_:=(BD.cell (p:=⟨k.bx,0,none⟩) hlx).trans c0
 have c1:W2.cell? ⟨k.bx,1,none⟩=_:=(BD.cell (p:=⟨k.bx,1,none⟩) hlx).trans c1
 have yd:W2.cell? ⟨br,d,none⟩=_:=(BD.cell (p:=⟨br,d,none⟩) e3).trans yd
 have ya:W2.cell? ⟨br,a,none⟩=_:=(BD.cell (p:=⟨br,a,none⟩) e3).trans ya
 have yb:W2.cell? ⟨br,b,none⟩=_:=(BD.cell (p:=⟨br,b,none⟩) e3).trans yb
 have yf:W2.frozen? ⟨br,d,none⟩=false:=(BD.frozen (p:=⟨br,d,none⟩) e3).trans yf
 have hlx:k.bx<W2.heap.size:=H.out.lt
 have e3:br<W2.heap.size:=Nat.lt_of_lt_of_le e3 BD.size
 obtain ⟨b0,b1,b2,b3,b4,b5,b6,b7,b8,b9,b10,lb⟩:=qau HB2.out
 refine qaf [0,1,2,3,4,5,6,7,8,9,10,11,12,13,14,15,16,17,18,19,20,21,23,24,25,26,27,28,29,30] _ _ _ _ (by kernel_rfl) ?_
 simp only [qka,qkb,qkc,qkd,qke,qkf,qkg,qkh,qki,Nat.reduceAdd,Nat.reduceSub]
 repeat (go_big_quiet_step (fail))
 refine wpQuiet_nil ?_
 have HC:=qkm (qbx gd k.T kd ga k.T ka _ _ W2 HRd.out HRa.out (by rw [HLd.out,HLa.out];exact Nat.le_refl _) (by rw [HLa.out];exact hT))
 refine qag 22 _ rfl (by kernel_rfl) ?_
 simp only [qkj,qkk,qkl]
 go_wp2_with fail
 refine HC.out.mono ?_
 rintro e w3 ⟨v,rfl,ho,hb⟩
 obtain ⟨q1,j1,rfl,hg,hgl,hgs⟩:=qb2 ho (by rw [qas,HLd.out];exact hT0)
 rw [qas,HLd.out] at hg ⊢
 have H:=qkm (H.out.grow hb)
 have HB2:=qkm ((hb.block _ lb).trans HB2.out)
 have hkeep:=qkm (qcs hb hlx e3 lb)
 clear b0 b1 b2 b3 b4 b5 b6 b7 b8 b9 b10
 have HRd:=qkm (HRd.out.below hb)
 have HRa:=qkm (HRa.out.below hb)
 have HRb:=qkm (HRb.out.below hb)
 have HRo:=qkm (HRo.out.below hb)
 have c0:w3.cell? ⟨k.bx,0,none⟩=_:=(hb.cell (p:=⟨k.bx,0,none⟩) hlx).trans c0
 have c1:w3.cell? ⟨k.bx,1,none⟩=_:=(hb.cell (p:=⟨k.bx,1,none⟩) hlx).trans c1
 have yd:w3.cell? ⟨br,d,none⟩=_:=(hb.cell (p:=⟨br,d,none⟩) e3).trans yd
 have ya:w3.cell? ⟨br,a,none⟩=_:=(hb.cell (p:=⟨br,a,none⟩) e3).trans ya
 have yb:w3.cell? ⟨br,b,none⟩=_:=(hb.cell (p:=⟨br,b,none⟩) e3).trans yb
 have yf:w3.frozen? ⟨br,d,none⟩=false:=(hb.frozen (p:=⟨br,d,none⟩) e3).trans yf
 have hlx:k.bx<w3.heap.size:=H.out.lt
 have e3:br<w3.heap.size:=Nat.lt_of_lt_of_le e3 hb.size
 obtain ⟨b0,b1,b2,b3,b4,b5,b6,b7,b8,b9,b10,lb⟩:=qau HB2.out
 have hG1:=qkm hg
 clear ho hg HC
 unfold qbf
 go_wp2_with fail
 refine ⟨hkeep.out,?_⟩
 clear hkeep
 try simp only [Act.put,List.setIfInBounds_toArray,List.set_cons_succ,List.set_cons_zero]
 have HC:=qkm (qbx q1 k.T j1 gb k.T kb _ _ w3 (hG1.out) HRb.out (by rw [qas,HLd.out,HLb.out];exact Nat.le_refl _) (by rw [HLb.out];exact hT))
 refine qag 31 _ rfl (by kernel_rfl) ?_
 simp only [qkj,qkk,qkl]
 go_wp2_with fail
 refine HC.out.mono ?_
 rintro e w4 ⟨v,rfl,ho,hb⟩
 obtain ⟨q2,j2,rfl,hg,hgl,hgs⟩:=qb2 ho (by rw [qas,qas,HLd.out];exact hT0)
 rw [qas,qas,HLd.out] at hg ⊢
 have H:=qkm (H.out.grow hb)
 have HB2:=qkm ((hb.block _ lb).trans HB2.out)
 have hkeep:=qkm (qcs hb hlx e3 lb)
 clear b0 b1 b2 b3 b4 b5 b6 b7 b8 b9 b10
 have HRd:=qkm (HRd.out.below hb)
 have HRa:=qkm (HRa.out.below hb)
 have HRb:=qkm (HRb.out.below hb)
 have HRo:=qkm (HRo.out.below hb)
 have c0:w4.cell? ⟨k.bx,0,none⟩=_:=(hb.cell (p:=⟨k.bx,0,none⟩) hlx).trans c0
 have c1:w4.cell? ⟨k.bx,1,none⟩=_:=(hb.cell (p:=⟨k.bx,1,none⟩) hlx).trans c1
 have yd:w4.cell? ⟨br,d,none⟩=_:=(hb.cell (p:=⟨br,d,none⟩) e3).trans yd
 have ya:w4.cell? ⟨br,a,none⟩=_:=(hb.cell (p:=⟨br,a,none⟩) e3).trans ya
 have yb:w4.cell? ⟨br,b,none⟩=_:=(hb.cell (p:=⟨br,b,none⟩) e3).trans yb
 have yf:w4.frozen? ⟨br,d,none⟩=false:=(hb.frozen (p:=⟨br,d,none⟩) e3).trans yf
 have hlx:k.bx<w4.heap.size:=H.out.lt
 have e3:br<w4.heap.size:=Nat.lt_of_lt_of_le e3 hb.size
 obtain ⟨b0,b1,b2,b3,b4,b5,b6,b7,b8,b9,b10,lb⟩:=qau HB2.out
 have hG2:=qkm hg
 clear ho hg HC
 unfold qbf
 go_wp2_with fail
 refine ⟨hkeep.out,?_⟩
 clear hkeep
 try simp only [Act.put,List.setIfInBounds_toArray,List.set_cons_succ,List.set_cons_zero]
 refine qaf [32] _ _ _ _ (by kernel_rfl) ?_
 simp only [qka,qkb,qkc,qkd,qke,qkf,qkg,qkh,qki,Nat.reduceAdd,Nat.reduceSub]
 repeat (go_big_quiet_step (fail))
 refine wpQuiet_nil ?_
 refine qbq 33 _ rfl (by kernel_rfl) ?_
 simp only [qkj,qkk,qkl]
 go_wp2_with fail
 refine qao (by kernel_rfl) ?_ _
 have H4:=qkm (H.out.setR Hvr.out hd hG2.out (by rw [qas,qas,HLd.out]))
 have HB4:Hid ((w4.setCell ⟨br,d,none⟩ (qbf q2 k.T j2)).heap[w.heap.size]?=_):=(Below.heap_setCell w4 ⟨br,d,none⟩ _ w.heap.size (by show w.heap.size≠br;omega)).trans HB2.out
 unfold qbf at H4 HB4
 generalize hW4:w4.setCell ⟨br,d,none⟩ (.slice (some ⟨q2,0,none⟩) k.T j2)=W4 at *
 clear hW4 b0 b1 b2 b3 b4 b5 b6 b7 b8 b9 b10 c0 c1 yf yd ya yb
 obtain ⟨b0,b1,b2,b3,b4,b5,b6,b7,b8,b9,b10,lb4⟩:=qau HB4.out
 go_wp2_with fail
 go_end0
 exact ⟨rfl,_,H4.out,rfl,rfl,rfl,rfl⟩
theorem qxx (w0 w:World) (k:AlK) (x:AR) (o:Int) (V:Value) (d:Nat) (a b fn obj off num:Int) (args:List Int) (lg:Bool) (h:AlM w0 w k x) (hv:InV w V ⟨5,d,a,b,fn,obj,off,4,num,args,lg⟩) (hd:d<k.n)  (hT:k.T≤1000) (hT0:0<k.T) :
  Calls Try.prog 79 #[.pointer (some ⟨k.bx,0,none⟩),.int .i64 o,V] w (qo3 w0 k ⟨x.regs.set d (orL (x.regs.getD d []) x.out),x.out⟩):=by
 obtain ⟨va,rfl, -⟩:=hv
 dsimp only
 obtain ⟨br,cp,hvr,e1,e2,e3, -,e4,e5⟩:=h.at hd
 have yd:=e4 d hd
 have gd1:decide (d<k.n)=true:=qkn hd
 have gd2:decide ((d:Int)<(k.n:Int))=true:=qkn (by omega)
 have HRd:=qkm (h.row d hd)
 have HLd:Hid ((x.regs.getD d []).length=k.T):=h.ok.get (some d) fun q e=>by cases e;exact hd
 have HRo:=qkm h.out
 have HLo:=qkm h.ok.out
 have yf:=e5 d
 clear e4 e5
 unfold maxLen at e2
 have H:=qkm h
 have hlx:=h.lt
 have c0:w.cell? ⟨k.bx,0,none⟩=some (.slice (some ⟨br,0,none⟩) k.n cp):=by rw [qab h.hv 0,←hvr];rfl
 have c1:w.cell? ⟨k.bx,1,none⟩=some (.slice (some ⟨k.ro.1,0,none⟩) k.T k.ro.2):=by rw [qab h.hv 1];rfl
 have Hvr:=qkm hvr
 clear h hvr
 unfold qbf at yd
 generalize hro:k.ro=RO at *
 clear hro
 obtain ⟨og,oc⟩:=RO
 dsimp only at c1 HRo
 generalize k.rs.getD d (0,0)=Rd at *
 obtain ⟨gd,kd⟩:=Rd
 dsimp only at yd HRd
 go_enter Try.func79,Try.ntmps79
 go_wp2_with fail
 obtain ⟨W1,hW1⟩:∃ W1:World,W1=w.alloc (.cells #[.int .i64 5,.int .i64 d,.int .i64 a,.int .i64 b,.int .i64 fn,.int .i64 obj,.int .i64 off,.int .i64 4,.int .u32 num,va,.bool lg] 58):=⟨_,rfl⟩
 rw [←hW1]
 have hb1:W1.heap[w.heap.size]?=some (.cells #[.int .i64 5,.int .i64 d,.int .i64 a,.int .i64 b,.int .i64 fn,.int .i64 obj,.int .i64 off,.int .i64 4,.int .u32 num,va,.bool lg] 58):=by rw [hW1];exact heap_alloc_new w _
 have BD1:Below w.heap.size w W1:=by rw [hW1];exact qaa w _
 clear hW1
 refine qae (fun z=>z=k.bx∨z=br∨z=w.heap.size) (by kernel_rfl) ?_
 obtain ⟨W2,hW2⟩:∃ W2:World,W2=W1.drew:=⟨_,rfl⟩
 first|rw [←hW2]|rw [show (⟨W1.heap,W1.tape,W1.drawn+1,W1.os,W1.output⟩:World)=W2 from hW2.symm]
 have HB2:Hid (W2.heap[w.heap.size]?=some (.cells #[.int .i64 5,.int .i64 d,.int .i64 a,.int .i64 b,.int .i64 fn,.int .i64 obj,.int .i64 off,.int .i64 4,.int .u32 num,va,.bool lg] 58)):=by rw [hW2];exact hb1
 have BD:Below w.heap.size w W2:=by rw [hW2];exact BD1.drew
 clear hW2 hb1 BD1
 have H:=qkm (H.out.grow BD)
 have HRd:=qkm (HRd.out.below BD)
 have HRo:=qkm (HRo.out.below BD)
 have c0:W2.cell? ⟨k.bx,0,none⟩=_:=(BD.cell (p:=⟨k.bx,0,none⟩) hlx).trans c0
 have c1:W2.cell? ⟨k.bx,1,none⟩=_:=(BD.cell (p:=⟨k.bx,1,none⟩) hlx).trans c1
 have yd:W2.cell? ⟨br,d,none⟩=_:=(BD.cell (p:=⟨br,d,none⟩) e3).trans yd
 have yf:W2.frozen? ⟨br,d,none⟩=false:=(BD.frozen (p:=⟨br,d,none⟩) e3).trans yf
 have hlx:k.bx<W2.heap.size:=H.out.lt
 have e3:br<W2.heap.size:=Nat.lt_of_lt_of_le e3 BD.size
 obtain ⟨b0,b1,b2,b3,b4,b5,b6,b7,b8,b9,b10,lb⟩:=qau HB2.out
 refine qaf [0,1,2,3,4,5,6,7,8,9,10,11,12,13,14,15,16,17] _ _ _ _ (by kernel_rfl) ?_
 simp only [qka,qkb,qkc,qkd,qke,qkf,qkg,qkh,qki,Nat.reduceAdd,Nat.reduceSub]
 repeat (go_big_quiet_step (fail))
 refine wpQuiet_nil ?_
 have HC:=qkm (qbx gd k.T kd og k.T oc _ _ W2 HRd.out HRo.out (by rw [HLd.out,HLo.out];exact Nat.le_refl _) (by rw [HLo.out];exact hT))
 refine qag 18 _ rfl (by kernel_rfl) ?_
 simp only [qkj,qkk,qkl]
 go_wp2_with fail
 refine HC.out.mono ?_
 rintro e w3 ⟨v,rfl,ho,hb⟩
 obtain ⟨q1,j1,rfl,hg,hgl,hgs⟩:=qb2 ho (by rw [qas,HLd.out];exact hT0)
 rw [qas,HLd.out] at hg ⊢
 have H:=qkm (H.out.grow hb)
 have HB2:=qkm ((hb.block _ lb).trans HB2.out)
 have hkeep:=qkm (qcs hb hlx e3 lb)
 clear b0 b1 b2 b3 b4 b5 b6 b7 b8 b9 b10
 have HRd:=qkm (HRd.out.below hb)
 have HRo:=qkm (HRo.out.below hb)
 have c0:w3.cell? ⟨k.bx,0,none⟩=_:=(hb.cell (p:=⟨k.bx,0,none⟩) hlx).trans c0
 have c1:w3.cell? ⟨k.bx,1,none⟩=_:=(hb.cell (p:=⟨k.bx,1,none⟩) hlx).trans c1
 have yd:w3.cell? ⟨br,d,none⟩=_:=(hb.cell (p:=⟨br,d,none⟩) e3).trans yd
 have yf:w3.frozen? ⟨br,d,none⟩=false:=(hb.frozen (p:=⟨br,d,none⟩) e3).trans yf
 have hlx:k.bx<w3.heap.size:=H.out.lt
 have e3:br<w3.heap.size:=Nat.lt_of_lt_of_le e3 hb.size
 obtain ⟨b0,b1,b2,b3,b4,b5,b6,b7,b8,b9,b10,lb⟩:=qau HB2.out
 have hG1:=qkm hg
 clear ho hg HC
 unfold qbf
 go_wp2_with fail
 refine ⟨hkeep.out,?_⟩
 clear hkeep
 try simp only [Act.put,List.setIfInBounds_toArray,List.set_cons_succ,List.set_cons_zero]
 refine qaf [19] _ _ _ _ (by kernel_rfl) ?_
 simp only [qka,qkb,qkc,qkd,qke,qkf,qkg,qkh,qki,Nat.reduceAdd,Nat.reduceSub]
 repeat (go_big_quiet_step (fail))
 refine wpQuiet_nil ?_
 refine qbq 20 _ rfl (by kernel_rfl) ?_
 simp only [qkj,qkk,qkl]
 go_wp2_with fail
 refine qao (by kernel_rfl) ?_ _
 have H4:=qkm (H.out.setR Hvr.out hd hG1.out (by rw [qas,HLd.out]))
 have HB4:Hid ((w3.setCell ⟨br,d,none⟩ (qbf q1 k.T j1)).heap[w.heap.size]?=_):=(Below.heap_setCell w3 ⟨br,d,none⟩ _ w.heap.size (by show w.heap.size≠br;omega)).trans HB2.out
 unfold qbf at H4 HB4
 generalize hW4:w3.setCell ⟨br,d,none⟩ (.slice (some ⟨q1,0,none⟩) k.T j1)=W4 at *
 clear hW4 b0 b1 b2 b3 b4 b5 b6 b7 b8 b9 b10 c0 c1 yf yd
 obtain ⟨b0,b1,b2,b3,b4,b5,b6,b7,b8,b9,b10,lb4⟩:=qau HB4.out
 go_wp2_with fail
 go_end0
 exact ⟨rfl,_,H4.out,rfl,rfl,rfl,rfl⟩
theorem qy5 (w0 w:World) (k:AlK) (x:AR) (o:Int) (V:Value) (b:Nat) (d a fn obj off num:Int) (args:List Int) (lg:Bool) (h:AlM w0 w k x) (hv:InV w V ⟨6,d,a,b,fn,obj,off,4,num,args,lg⟩) (hb:b<k.n)  (hT:k.T≤1000) (hT0:0<k.T) :
  Calls Try.prog 79 #[.pointer (some ⟨k.bx,0,none⟩),.int .i64 o,V] w (qo3 w0 k ⟨x.regs,orL x.out (x.regs.getD b [])⟩):=by
 obtain ⟨va,rfl, -⟩:=hv
 dsimp only
 obtain ⟨br,cp,hvr,e1,e2,e3, -,e4,e5⟩:=h.at hb
 have yb:=e4 b hb
 have gb1:decide (b<k.n)=true:=qkn hb
 have gb2:decide ((b:Int)<(k.n:Int))=true:=qkn (by omega)
 have HRb:=qkm (h.row b hb)
 have HLb:Hid ((x.regs.getD b []).length=k.T):=h.ok.get (some b) fun q e=>by cases e;exact hb
 have HRo:=qkm h.out
 have HLo:=qkm h.ok.out
 clear e4 e5
 unfold maxLen at e2
 have H:=qkm h
 have hlx:=h.lt
 have c0:w.cell? ⟨k.bx,0,none⟩=some (.slice (some ⟨br,0,none⟩) k.n cp):=by rw [qab h.hv 0,←hvr];rfl
 have c1:w.cell? ⟨k.bx,1,none⟩=some (.slice (some ⟨k.ro.1,0,none⟩) k.T k.ro.2):=by rw [qab h.hv 1];rfl
 have yf:w.frozen? ⟨k.bx,1,none⟩=false:=qac h.hv 1
 have Hvr:=qkm hvr
 clear h hvr
 unfold qbf at yb
 generalize hro:k.ro=RO at *
 clear hro
 obtain ⟨og,oc⟩:=RO
 dsimp only at c1 HRo
 generalize k.rs.getD b (0,0)=Rb at *
 obtain ⟨gb,kb⟩:=Rb
 dsimp only at yb HRb
 go_enter Try.func79,Try.ntmps79
 go_wp2_with fail
 obtain ⟨W1,hW1⟩:∃ W1:World,W1=w.alloc (.cells #[.int .i64 6,.int .i64 d,.int .i64 a,.int .i64 b,.int .i64 fn,.int .i64 obj,.int .i64 off,.int .i64 4,.int .u32 num,va,.bool lg] 58):=⟨_,rfl⟩
 rw [←hW1]
 have hb1:W1.heap[w.heap.size]?=some (.cells #[.int .i64 6,.int .i64 d,.int .i64 a,.int .i64 b,.int .i64 fn,.int .i64 obj,.int .i64 off,.int .i64 4,.int .u32 num,va,.bool lg] 58):=by rw [hW1];exact heap_alloc_new w _
 have BD1:Below w.heap.size w W1:=by rw [hW1];exact qaa w _
 clear hW1
 refine qae (fun z=>z=k.bx∨z=br∨z=w.heap.size) (by kernel_rfl) ?_
 obtain ⟨W2,hW2⟩:∃ W2:World,W2=W1.drew:=⟨_,rfl⟩
 first|rw [←hW2]|rw [show (⟨W1.heap,W1.tape,W1.drawn+1,W1.os,W1.output⟩:World)=W2 from hW2.symm]
 have HB2:Hid (W2.heap[w.heap.size]?=some (.cells #[.int .i64 6,.int .i64 d,.int .i64 a,.int .i64 b,.int .i64 fn,.int .i64 obj,.int .i64 off,.int .i64 4,.int .u32 num,va,.bool lg] 58)):=by rw [hW2];exact hb1
 have BD:Below w.heap.size w W2:=by rw [hW2];exact BD1.drew
 clear hW2 hb1 BD1
 have H:=qkm (H.out.grow BD)
 have HRb:=qkm (HRb.out.below BD)
 have HRo:=qkm (HRo.out.below BD)
 have c0:W2.cell? ⟨k.bx,0,none⟩=_:=(BD.cell (p:=⟨k.bx,0,none⟩) hlx).trans c0
 have c1:W2.cell? ⟨k.bx,1,none⟩=_:=(BD.cell (p:=⟨k.bx,1,none⟩) hlx).trans c1
 have yb:W2.cell? ⟨br,b,none⟩=_:=(BD.cell (p:=⟨br,b,none⟩) e3).trans yb
 have yf:W2.frozen? ⟨k.bx,1,none⟩=false:=(BD.frozen (p:=⟨k.bx,1,none⟩) hlx).trans yf
 have hlx:k.bx<W2.heap.size:=H.out.lt
 have e3:br<W2.heap.size:=Nat.lt_of_lt_of_le e3 BD.size
 obtain ⟨b0,b1,b2,b3,b4,b5,b6,b7,b8,b9,b10,lb⟩:=qau HB2.out
 refine qaf [0,1,2,3,4,5,6,7,8,9,10,11,12] _ _ _ _ (by kernel_rfl) ?_
 simp only [qka,qkb,qkc,qkd,qke,qkf,qkg,qkh,qki,Nat.reduceAdd,Nat.reduceSub]
 repeat (go_big_quiet_step (fail))
 refine wpQuiet_nil ?_
 have HC:=qkm (qbx og k.T oc gb k.T kb _ _ W2 HRo.out HRb.out (by rw [HLo.out,HLb.out];exact Nat.le_refl _) (by rw [HLb.out];exact hT))
 refine qag 13 _ rfl (by kernel_rfl) ?_
 simp only [qkj,qkk,qkl]
 go_wp2_with fail
 refine HC.out.mono ?_
 rintro e w3 ⟨v,rfl,ho,hb⟩
 obtain ⟨q1,j1,rfl,hg,hgl,hgs⟩:=qb2 ho (by rw [qas,HLo.out];exact hT0)
 rw [qas,HLo.out] at hg ⊢
 have H:=qkm (H.out.grow hb)
 have HB2:=qkm ((hb.block _ lb).trans HB2.out)
 have hkeep:=qkm (qcs hb hlx e3 lb)
 clear b0 b1 b2 b3 b4 b5 b6 b7 b8 b9 b10
 have HRb:=qkm (HRb.out.below hb)
 have HRo:=qkm (HRo.out.below hb)
 have c0:w3.cell? ⟨k.bx,0,none⟩=_:=(hb.cell (p:=⟨k.bx,0,none⟩) hlx).trans c0
 have c1:w3.cell? ⟨k.bx,1,none⟩=_:=(hb.cell (p:=⟨k.bx,1,none⟩) hlx).trans c1
 have yb:w3.cell? ⟨br,b,none⟩=_:=(hb.cell (p:=⟨br,b,none⟩) e3).trans yb
 have yf:w3.frozen? ⟨k.bx,1,none⟩=false:=(hb.frozen (p:=⟨k.bx,1,none⟩) hlx).trans yf
 have hlx:k.bx<w3.heap.size:=H.out.lt
 have e3:br<w3.heap.size:=Nat.lt_of_lt_of_le e3 hb.size
 obtain ⟨b0,b1,b2,b3,b4,b5,b6,b7,b8,b9,b10,lb⟩:=qau HB2.out
 have hG1:=qkm hg
 clear ho hg HC
 unfold qbf
 go_wp2_with fail
 refine ⟨hkeep.out,?_⟩
 clear hkeep
 try simp only [Act.put,List.setIfInBounds_toArray,List.set_cons_succ,List.set_cons_zero]
 refine qaf [14,15] _ _ _ _ (by kernel_rfl) ?_
 simp only [qka,qkb,qkc,qkd,qke,qkf,qkg,qkh,qki,Nat.reduceAdd,Nat.reduceSub]
 repeat (go_big_quiet_step (fail))
 refine wpQuiet_nil ?_
 refine qbq 16 _ rfl (by kernel_rfl) ?_
 simp only [qkj,qkk,qkl]
 go_wp2_with fail
 refine qao (by kernel_rfl) ?_ _
 have H4:=qkm (H.out.setO hG1.out (by rw [qas,HLo.out]))
 have HB4:Hid ((w3.setCell ⟨k.bx,1,none⟩ (qbf q1 k.T j1)).heap[w.heap.size]?=_):=(Below.heap_setCell w3 ⟨k.bx,1,none⟩ _ w.heap.size (by show w.heap.size≠k.bx;omega)).trans HB2.out
 unfold qbf at H4 HB4
 generalize hW4:w3.setCell ⟨k.bx,1,none⟩ (.slice (some ⟨q1,0,none⟩) k.T j1)=W4 at *
 clear hW4 b0 b1 b2 b3 b4 b5 b6 b7 b8 b9 b10 c0 c1 yf yb
 obtain ⟨b0,b1,b2,b3,b4,b5,b6,b7,b8,b9,b10,lb4⟩:=qau HB4.out
 go_wp2_with fail
 go_end0
 exact ⟨rfl,_,H4.out,rfl,rfl,rfl,rfl⟩
end Go.Proofs.Ytmcddolkpcgddaa
