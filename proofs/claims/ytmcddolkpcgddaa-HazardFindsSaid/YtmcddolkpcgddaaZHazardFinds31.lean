/-
 alias: spread, the other operations; all of them.
-/
import Derived.Test.YtmcddolkpcgddaaZHazardFinds30
set_option maxHeartbeats 4000000
set_option maxRecDepth 100000
set_option linter.all false
namespace Go.Proofs.Ytmcddolkpcgddaa
open Go.ChangeShapes Go.WideShapes Go.ChangeAt Go.RowKit
theorem VwM.notMine {w0 w:World} {k:VwK} {x:AS} {sp:List Sp} (h:VwM w0 w k x sp) {b:Nat} (hb:w.heap.size≤b):¬ k.mine b:=by
 rintro (rfl | hm | he)
 ·exact absurd h.out.1.lt (Nat.not_lt.2 hb)
 ·obtain ⟨i,hi,rfl⟩:=List.getElem_of_mem hm
  have:=(h.row i hi).1.lt
  simp only [List.getD,List.getElem?_eq_getElem hi,Option.getD_some] at this
  exact absurd this (Nat.not_lt.2 hb)
 ·exact absurd (World.ownsRow.lt h.spo b he.symm).2 (Nat.not_lt.2 hb)
theorem qqt (w0:World) (k:VwK) (x:AS) (sp:List Sp) (i:In) (va:Value) (w:World) (h:VwM w0 w k x sp) (hop:i.op=5) (d:Nat) (hd:i.d=(d:Int)) (hdl:d<k.bs.length) (h4:(i.size ==4)=false) :
  Calls Try.prog 66 #[.pointer (some ⟨k.bv,0,none⟩),qbu i va] w (qh5 w0 k x sp w []):=by
 unfold qh5
 rw [AS.pass_nil]
 dsimp only
 have l1:=h.lv
 have H:=qkm h
 obtain ⟨g,c,hvR,hc1,hc2,hgl,hgO,hgR⟩:=h.reg hdl
 have HVR:=qkm hvR
 have HGR:=qkm hgR
 have hbO:=qbk h.hv h.out.1 (by decide)
 have hbR:Hid (∀ r,r<k.bs.length→k.bv≠k.bs.getD r 0):=fun r hr=>qbk h.hv (h.row r hr).1 (by decide)
 have lO:=h.out.1.lt
 have lR:Hid (∀ r,r<k.bs.length→k.bs.getD r 0<w.heap.size):=fun r hr=>(h.row r hr).1.lt
 unfold maxLen at hc2
 clear hvR hgR h
 unfold qbu
 rw [hop,hd]
 clear hop hd
 go_enter Try.func66,Try.ntmps66
 go_upto_region 13 with (fail)
 obtain ⟨W1,hW1⟩:∃ W1,W1=w.alloc (.cells #[.int .i64 5,.int .i64 (d:Int),.int .i64 i.a,.int .i64 i.b,.int .i64 i.fn,.int .i64 i.obj,.int .i64 i.off,.int .i64 i.size,.int .u32 i.num,va,.bool i.log] 58):=⟨_,rfl⟩
 have HB1:Hid (W1.heap[w.heap.size]?=some (.cells #[.int .i64 5,.int .i64 (d:Int),.int .i64 i.a,.int .i64 i.b,.int .i64 i.fn,.int .i64 i.obj,.int .i64 i.off,.int .i64 i.size,.int .u32 i.num,va,.bool i.log] 58 (0,0))):=by rw [hW1];exact heap_alloc_new w _
 have BB:Below w.heap.size w W1:=by rw [hW1];exact qaa w _
 rw [←hW1]
 have V1:=qkm (H.out.grow BB)
 have K1:=qkm (KpW.of_below (k:=k) BB)
 have lz:=BB.size
 have lb1:w.heap.size<W1.heap.size:=(qkp HB1.out).1
 clear hW1 BB
 refine qae (fun b=>b=w.heap.size∨b=k.bv∨b=g) (by kernel_rfl) ?_
 obtain ⟨W2,hW2⟩:∃ W2,W2=W1.drew:=⟨_,rfl⟩
 have hb5:Below W1.heap.size W1 W2:=by rw [hW2];exact (Below.refl _ _).drew
 first|rw [←hW2]|rw [show (⟨W1.heap,W1.tape,W1.drawn+1,W1.os,W1.output⟩:World)=W2 from hW2.symm]
 have HB1:Hid (W2.heap[w.heap.size]?=some (.cells #[.int .i64 5,.int .i64 (d:Int),.int .i64 i.a,.int .i64 i.b,.int .i64 i.fn,.int .i64 i.obj,.int .i64 i.off,.int .i64 i.size,.int .u32 i.num,va,.bool i.log] 58 (0,0))):=(hb5.block _ lb1).trans HB1.out
 have V:=qkm (V1.out.grow hb5)
 have K:=qkm (K1.out.trans (KpW.of_below hb5))
 have lz:=Nat.le_trans lz hb5.size
 clear hW2 hb5 K1 V1 lb1
 obtain ⟨b0,b1,b2,b3,b4,b5,b6,b7,b8,b9,b10,lb⟩:=qau HB1.out
 have hlO:w.heap.size≠k.bO:=by omega
 have v8:W2.cell? ⟨k.bv,8,none⟩=some (.slice (some ⟨k.bO,0,none⟩) 1 1):=qab V.out.hv 8
 have TRD:=V.out.regAt HVR.out hdl
 have c7:=TRD.vr
 have cRD:=TRD.cr
 have gRD:decide (d<k.bs.length)=true:=qkn hdl
 have iRD:decide ((d:Int)<(k.bs.length:Int))=true:=qkn (by omega)
 have ROWRD:=qkm (V.out.row d hdl)
 have SETRD:Hid (∀ y w',y<2 ^ 64→But (k.bs.getD d 0) W2 w'→qd4 w' (k.bs.getD d 0) y→VwM w0 w' k { x with regs:=x.regs.set d y } sp∧KpW k W2 w'):=fun y w' hy hb hw=>V.out.setRow hdl hy hb hw
 have NERD:Hid (k.bv≠k.bs.getD d 0∧g≠k.bs.getD d 0∧w.heap.size≠k.bs.getD d 0):=⟨hbR.out d hdl,HGR.out d hdl,by have:=lR.out d hdl;omega⟩
 clear TRD
 generalize hgeRD:k.bs.getD d 0=bRD at *
 clear hgeRD
 generalize hgeRD:x.regs.getD d 0=yRD at *
 have EYRD:=qkm hgeRD
 clear hgeRD
 refine qaf [0,1,2,3,4,5,6,7,8,9,10,11,12,13,14,15] _ _ _ _ (by kernel_rfl) ?_
 simp only [qka,qkb,qkc,qkd,qke,qkf,qkg,qkh,qki,Nat.reduceAdd,Nat.reduceSub]
 repeat (go_big_quiet_step (fail))
 refine wpQuiet_nil ?_
 refine qag 16 _ rfl (by kernel_rfl) ?_
 simp only [qkj,qkk,qkl]
 refine ⟨qcl.refl _ _,?_⟩
 simp only [Act.put,List.setIfInBounds_toArray,List.set_cons_succ,List.set_cons_zero]
 refine qaf [17,18] _ _ _ _ (by kernel_rfl) ?_
 simp only [qka,qkb,qkc,qkd,qke,qkf,qkg,qkh,qki,Nat.reduceAdd,Nat.reduceSub]
 repeat (go_big_quiet_step (fail))
 refine wpQuiet_nil ?_
 refine qao (by kernel_rfl) ?_ _
 go_wp2_with fail
 go_ret
 exact ⟨rfl,V.out,K.out⟩
theorem qv6 (w0:World) (k:VwK) (x:AS) (sp:List Sp) (i:In) (va:Value) (w:World) (h:VwM w0 w k x sp) (hop:i.op=6) (b:Nat) (hb:i.b=(b:Int)) (hdl:b<k.bs.length) (h4:(i.size ==4)=true) :
  Calls Try.prog 66 #[.pointer (some ⟨k.bv,0,none⟩),qbu i va] w (qh5 w0 k x sp w [.sub (some b) none]):=by
 unfold qh5
 rw [AS.pass_one]
 dsimp only
 have H:=qkm h
 have l1:=h.lv
 clear h
 unfold qbu
 rw [hop,hb]
 clear hop hb
 go_enter Try.func66,Try.ntmps66
 go_wp2_with (go_at_call 94;refine (qvf w0 k x sp b _ (H.out.grow (qaa w _)) hdl).mono ?_;rintro e w3 ⟨rfl,hv3,hk3⟩;have HV3:=qkm hv3;have HK3:=qkm ((KpW.of_below (qaa w _)).trans hk3);clear hv3 hk3)
 go_ret
 exact ⟨rfl,HV3.out,HK3.out⟩
theorem qsx (w0:World) (k:VwK) (x:AS) (sp:List Sp) (i:In) (va:Value) (w:World) (h:VwM w0 w k x sp) (hop:i.op=6) (h4:(i.size ==4)=false) :
  Calls Try.prog 66 #[.pointer (some ⟨k.bv,0,none⟩),qbu i va] w (qh5 w0 k x sp w []):=by
 unfold qh5
 rw [AS.pass_nil]
 dsimp only
 have H:=qkm h
 have l1:=h.lv
 clear h
 unfold qbu
 rw [hop]
 clear hop
 go_enter Try.func66,Try.ntmps66
 go_wp2_with fail
 go_ret
 exact ⟨rfl,H.out.grow (qaa w _),KpW.of_below (qaa w _)⟩
theorem qrl (w0:World) (k:VwK) (x:AS) (sp:List Sp) (i:In) (va:Value) (w:World) (h:VwM w0 w k x sp) (hop:i.op=3) (h1:(i.fn !=1)=true) (h2:(i.fn !=2)=true) :
  Calls Try.prog 66 #[.pointer (some ⟨k.bv,0,none⟩),qbu i va] w (qh5 w0 k x sp w []):=by
 unfold qh5
 rw [AS.pass_nil]
 dsimp only
 have H:=qkm h
 have l1:=h.lv
 clear h
 unfold qbu
 rw [hop]
 clear hop
 go_enter Try.func66,Try.ntmps66
 go_wp2_with fail
 go_ret
 exact ⟨rfl,H.out.grow (qaa w _),KpW.of_below (qaa w _)⟩
theorem qv8 (w0:World) (k:VwK) (x:AS) (sp:List Sp) (i:In) (va:Value) (w:World) (h:VwM w0 w k x sp) (h7:(i.op ==7)=false) (h8:(i.op ==8)=false) (h2:(i.op ==2)=false) (h3:(i.op ==3)=false) (h5:(i.op ==5)=false) (h6:(i.op ==6)=false) (h9:(i.op ==9)=false) :
  Calls Try.prog 66 #[.pointer (some ⟨k.bv,0,none⟩),qbu i va] w (qh5 w0 k x sp w []):=by
 unfold qh5
 rw [AS.pass_nil]
 dsimp only
 have H:=qkm h
 have l1:=h.lv
 clear h
 unfold qbu
 go_enter Try.func66,Try.ntmps66
 go_wp2_with fail
 go_ret
 exact ⟨rfl,H.out.grow (qaa w _),KpW.of_below (qaa w _)⟩
theorem qvc (w0:World) (k:VwK) (x:AS) (sp:List Sp) (i:In) (va:Value) (w:World) (h:VwM w0 w k x sp) (hop:i.op=3) (hfn:(i.fn !=1)=false∨(i.fn !=1)=true∧(i.fn !=2)=false) (d a b:Nat) (hd:i.d=(d:Int)) (hdl:d<k.bs.length) (ha:i.a=(a:Int)) (hal:a<k.bs.length) (hb:i.b=(b:Int)) (hbl:b<k.bs.length) :
  Calls Try.prog 66 #[.pointer (some ⟨k.bv,0,none⟩),qbu i va] w (qh5 w0 k x sp w [.sub (some a) (some d),.sub (some b) (some d)]):=by
 unfold qh5
 rw [AS.pass_two]
 have HN:Hid (x.news (.sub (some a) (some d))=((x.regs.getD d 0 ||| x.regs.getD a 0) !=x.regs.getD d 0)∧x.con (.sub (some a) (some d))={ x with regs:=x.regs.set d (x.regs.getD d 0 ||| x.regs.getD a 0) }):=⟨rfl,rfl⟩
 have HN2:Hid (∀ y:AS,y.news (.sub (some b) (some d))=((y.regs.getD d 0 ||| y.regs.getD b 0) !=y.regs.getD d 0)∧y.con (.sub (some b) (some d))={ y with regs:=y.regs.set d (y.regs.getD d 0 ||| y.regs.getD b 0) }):=fun _=>⟨rfl,rfl⟩
 dsimp only
 rw [HN.out.1,HN.out.2]
 obtain ⟨yy,hy⟩:∃ yy,yy=({ x with regs:=x.regs.set d (x.regs.getD d 0 ||| x.regs.getD a 0) }:AS):=⟨_,rfl⟩
 rw [←hy,(HN2.out yy).1,(HN2.out yy).2]
 have HY:=qkm hy
 clear HN HN2 hy
 have l1:=h.lv
 have H:=qkm h
 obtain ⟨g,c,hvR,hc1,hc2,hgl,hgO,hgR⟩:=h.reg hdl
 have HVR:=qkm hvR
 have HGR:=qkm hgR
 have hbO:=qbk h.hv h.out.1 (by decide)
 have hbR:Hid (∀ r,r<k.bs.length→k.bv≠k.bs.getD r 0):=fun r hr=>qbk h.hv (h.row r hr).1 (by decide)
 have lO:=h.out.1.lt
 have lR:Hid (∀ r,r<k.bs.length→k.bs.getD r 0<w.heap.size):=fun r hr=>(h.row r hr).1.lt
 unfold maxLen at hc2
 clear hvR hgR h
 unfold qbu
 rw [hop,hd,ha,hb]
 clear hop hd ha hb
 have hcase:Hid ((i.fn !=1)=false∨(i.fn !=1)=true∧(i.fn !=2)=false):=hfn
 clear hfn
 go_enter Try.func66,Try.ntmps66
 rcases hcase.out with hfa|⟨hfa,hfb⟩
 all_goals clear hcase
 all_goals (go_upto_region 10 with (fail))
 all_goals
  obtain ⟨W1,hW1⟩:∃ W1,W1=w.alloc (.cells #[.int .i64 3,.int .i64 (d:Int),.int .i64 (a:Int),.int .i64 (b:Int),.int .i64 i.fn,.int .i64 i.obj,.int .i64 i.off,.int .i64 i.size,.int .u32 i.num,va,.bool i.log] 58):=⟨_,rfl⟩
  have HB1:Hid (W1.heap[w.heap.size]?=some (.cells #[.int .i64 3,.int .i64 (d:Int),.int .i64 (a:Int),.int .i64 (b:Int),.int .i64 i.fn,.int .i64 i.obj,.int .i64 i.off,.int .i64 i.size,.int .u32 i.num,va,.bool i.log] 58 (0,0))):=by rw [hW1];exact heap_alloc_new w _
  have BB:Below w.heap.size w W1:=by rw [hW1];exact qaa w _
  rw [←hW1]
  have V1:=qkm (H.out.grow BB)
  have K1:=qkm (KpW.of_below (k:=k) BB)
  have lz:=BB.size
  have lb1:w.heap.size<W1.heap.size:=(qkp HB1.out).1
  clear hW1 BB
  refine qae (fun b=>b=w.heap.size∨b=k.bv∨b=g) (by kernel_rfl) ?_
  obtain ⟨W2,hW2⟩:∃ W2,W2=W1.drew:=⟨_,rfl⟩
  have hb5:Below W1.heap.size W1 W2:=by rw [hW2];exact (Below.refl _ _).drew
  first|rw [←hW2]|rw [show (⟨W1.heap,W1.tape,W1.drawn+1,W1.os,W1.output⟩:World)=W2 from hW2.symm]
  have HB1:Hid (W2.heap[w.heap.size]?=some (.cells #[.int .i64 3,.int .i64 (d:Int),.int .i64 (a:Int),.int .i64 (b:Int),.int .i64 i.fn,.int .i64 i.obj,.int .i64 i.off,.int .i64 i.size,.int .u32 i.num,va,.bool i.log] 58 (0,0))):=(hb5.block _ lb1).trans HB1.out
  have V:=qkm (V1.out.grow hb5)
  have K:=qkm (K1.out.trans (KpW.of_below hb5))
  have lz:=Nat.le_trans lz hb5.size
  clear hW2 hb5 K1 V1 lb1
  obtain ⟨b0,b1,b2,b3,b4,b5,b6,b7,b8,b9,b10,lb⟩:=qau HB1.out
  have hlO:w.heap.size≠k.bO:=by omega
  have v8:W2.cell? ⟨k.bv,8,none⟩=some (.slice (some ⟨k.bO,0,none⟩) 1 1):=qab V.out.hv 8
  have TRD:=V.out.regAt HVR.out hdl
  have c7:=TRD.vr
  have cRD:=TRD.cr
  have gRD:decide (d<k.bs.length)=true:=qkn hdl
  have iRD:decide ((d:Int)<(k.bs.length:Int))=true:=qkn (by omega)
  have ROWRD:=qkm (V.out.row d hdl)
  have SETRD:Hid (∀ y w',y<2 ^ 64→But (k.bs.getD d 0) W2 w'→qd4 w' (k.bs.getD d 0) y→VwM w0 w' k { x with regs:=x.regs.set d y } sp∧KpW k W2 w'):=fun y w' hy hb hw=>V.out.setRow hdl hy hb hw
  have NERD:Hid (k.bv≠k.bs.getD d 0∧g≠k.bs.getD d 0∧w.heap.size≠k.bs.getD d 0):=⟨hbR.out d hdl,HGR.out d hdl,by have:=lR.out d hdl;omega⟩
  clear TRD
  generalize hgeRD:k.bs.getD d 0=bRD at *
  clear hgeRD
  generalize hgeRD:x.regs.getD d 0=yRD at *
  have EYRD:=qkm hgeRD
  clear hgeRD
  have TRA:=V.out.regAt HVR.out hal
  have c7:=TRA.vr
  have cRA:=TRA.cr
  have gRA:decide (a<k.bs.length)=true:=qkn hal
  have iRA:decide ((a:Int)<(k.bs.length:Int))=true:=qkn (by omega)
  have ROWRA:=qkm (V.out.row a hal)
  have SETRA:Hid (∀ y w',y<2 ^ 64→But (k.bs.getD a 0) W2 w'→qd4 w' (k.bs.getD a 0) y→VwM w0 w' k { x with regs:=x.regs.set a y } sp∧KpW k W2 w'):=fun y w' hy hb hw=>V.out.setRow hal hy hb hw
  have NERA:Hid (k.bv≠k.bs.getD a 0∧g≠k.bs.getD a 0∧w.heap.size≠k.bs.getD a 0):=⟨hbR.out a hal,HGR.out a hal,by have:=lR.out a hal;omega⟩
  clear TRA
  generalize hgeRA:k.bs.getD a 0=bRA at *
  clear hgeRA
  generalize hgeRA:x.regs.getD a 0=yRA at *
  have EYRA:=qkm hgeRA
  clear hgeRA
  refine qaf [0,1,2,3,4,5,6,7,8,9,10,11,12,13,14,15] _ _ _ _ (by kernel_rfl) ?_
  simp only [qka,qkb,qkc,qkd,qke,qkf,qkg,qkh,qki,Nat.reduceAdd,Nat.reduceSub]
  repeat (go_big_quiet_step (fail))
  refine wpQuiet_nil ?_
  refine qag 16 _ rfl (by kernel_rfl) ?_
  simp only [qkj,qkk,qkl]
  go_wp2_with fail
  refine (qx9 bRD bRA yRD yRA W2 ROWRD.out.1 ROWRA.out.1 ROWRD.out.2 ROWRA.out.2).mono ?_
  rintro e w3 ⟨rfl,hw3,hb3⟩
  go_wp2_with fail
  refine ⟨fun b o hb=>by rcases hb with rfl|rfl|rfl;exact hb3.cell (by omega) NERD.out.2.2;exact hb3.cell (by omega) NERD.out.1;exact hb3.cell (by omega) NERD.out.2.1,?_⟩
  refine qaf [17] _ _ _ _ (by kernel_rfl) ?_
  simp only [qka,qkb,qkc,qkd,qke,qkf,qkg,qkh,qki,Nat.reduceAdd,Nat.reduceSub]
  repeat (go_big_quiet_step (fail))
  refine wpQuiet_nil ?_
  refine qao (by kernel_rfl) ?_ _
  go_wp2_with fail
  obtain ⟨q1,q2⟩:=SETRD.out _ w3 (Nat.or_lt_two_pow ROWRD.out.2 ROWRA.out.2) hb3 hw3
  rw [←HY.out] at q1
  have V1:=qkm q1
  have K1:=qkm (K.out.trans q2)
  have HB1:Hid (w3.heap[w.heap.size]?=_):=(hb3.block _ lb NERD.out.2.2).trans HB1.out
  have lz:=Nat.le_trans lz hb3.size
  have lb1:w.heap.size<w3.heap.size:=(qkp HB1.out).1
  have hNN:Hid (((x.regs.getD d 0 ||| x.regs.getD a 0) !=x.regs.getD d 0)=((yRD ||| yRA) !=yRD)):=by show _=_;rw [EYRD.out,EYRA.out]
  clear q1 q2 hb3 hw3 SETRD SETRA ROWRD ROWRA NERD NERA c7 cRD cRA v8 b0 b1 b2 b3 b4 b5 b6 b7 b8 b9 b10 lb V K EYRD EYRA HY
  generalize ((yRD ||| yRA) !=yRD)=n1 at *
  generalize w3=W1 at *
  refine qae (fun b=>b=w.heap.size∨b=k.bv∨b=g) (by kernel_rfl) ?_
  obtain ⟨W2,hW2⟩:∃ W2,W2=W1.drew:=⟨_,rfl⟩
  have hb5:Below W1.heap.size W1 W2:=by rw [hW2];exact (Below.refl _ _).drew
  first|rw [←hW2]|rw [show (⟨W1.heap,W1.tape,W1.drawn+1,W1.os,W1.output⟩:World)=W2 from hW2.symm]
  have HB1:Hid (W2.heap[w.heap.size]?=some (.cells #[.int .i64 3,.int .i64 (d:Int),.int .i64 (a:Int),.int .i64 (b:Int),.int .i64 i.fn,.int .i64 i.obj,.int .i64 i.off,.int .i64 i.size,.int .u32 i.num,va,.bool i.log] 58 (0,0))):=(hb5.block _ lb1).trans HB1.out
  have V:=qkm (V1.out.grow hb5)
  have K:=qkm (K1.out.trans (KpW.of_below hb5))
  have lz:=Nat.le_trans lz hb5.size
  clear hW2 hb5 K1 V1 lb1
  obtain ⟨b0,b1,b2,b3,b4,b5,b6,b7,b8,b9,b10,lb⟩:=qau HB1.out
  have hlO:w.heap.size≠k.bO:=by omega
  have v8:W2.cell? ⟨k.bv,8,none⟩=some (.slice (some ⟨k.bO,0,none⟩) 1 1):=qab V.out.hv 8
  have TRD:=V.out.regAt HVR.out hdl
  have c7:=TRD.vr
  have cRD:=TRD.cr
  have gRD:decide (d<k.bs.length)=true:=qkn hdl
  have iRD:decide ((d:Int)<(k.bs.length:Int))=true:=qkn (by omega)
  have ROWRD:=qkm (V.out.row d hdl)
  have SETRD:Hid (∀ y w',y<2 ^ 64→But (k.bs.getD d 0) W2 w'→qd4 w' (k.bs.getD d 0) y→VwM w0 w' k { yy with regs:=yy.regs.set d y } sp∧KpW k W2 w'):=fun y w' hy hb hw=>V.out.setRow hdl hy hb hw
  have NERD:Hid (k.bv≠k.bs.getD d 0∧g≠k.bs.getD d 0∧w.heap.size≠k.bs.getD d 0):=⟨hbR.out d hdl,HGR.out d hdl,by have:=lR.out d hdl;omega⟩
  clear TRD
  generalize hgeRD:k.bs.getD d 0=bRD at *
  clear hgeRD
  generalize hgeRD:yy.regs.getD d 0=yRD at *
  have EYRD:=qkm hgeRD
  clear hgeRD
  have TRB:=V.out.regAt HVR.out hbl
  have c7:=TRB.vr
  have cRB:=TRB.cr
  have gRB:decide (b<k.bs.length)=true:=qkn hbl
  have iRB:decide ((b:Int)<(k.bs.length:Int))=true:=qkn (by omega)
  have ROWRB:=qkm (V.out.row b hbl)
  have SETRB:Hid (∀ y w',y<2 ^ 64→But (k.bs.getD b 0) W2 w'→qd4 w' (k.bs.getD b 0) y→VwM w0 w' k { yy with regs:=yy.regs.set b y } sp∧KpW k W2 w'):=fun y w' hy hb hw=>V.out.setRow hbl hy hb hw
  have NERB:Hid (k.bv≠k.bs.getD b 0∧g≠k.bs.getD b 0∧w.heap.size≠k.bs.getD b 0):=⟨hbR.out b hbl,HGR.out b hbl,by have:=lR.out b hbl;omega⟩
  clear TRB
  generalize hgeRB:k.bs.getD b 0=bRB at *
  clear hgeRB
  generalize hgeRB:yy.regs.getD b 0=yRB at *
  have EYRB:=qkm hgeRB
  clear hgeRB
  refine qaf [0,1,2,3,4,5,6,7,8,9,10,11,12,13,14,15] _ _ _ _ (by kernel_rfl) ?_
  simp only [qka,qkb,qkc,qkd,qke,qkf,qkg,qkh,qki,Nat.reduceAdd,Nat.reduceSub]
  repeat (go_big_quiet_step (fail))
  refine wpQuiet_nil ?_
  refine qag 16 _ rfl (by kernel_rfl) ?_
  simp only [qkj,qkk,qkl]
  go_wp2_with fail
  refine (qx9 bRD bRB yRD yRB W2 ROWRD.out.1 ROWRB.out.1 ROWRD.out.2 ROWRB.out.2).mono ?_
  rintro e w3 ⟨rfl,hw3,hb3⟩
  go_wp2_with fail
  refine ⟨fun b o hb=>by rcases hb with rfl|rfl|rfl;exact hb3.cell (by omega) NERD.out.2.2;exact hb3.cell (by omega) NERD.out.1;exact hb3.cell (by omega) NERD.out.2.1,?_⟩
  obtain ⟨q1,q2⟩:=SETRD.out _ w3 (Nat.or_lt_two_pow ROWRD.out.2 ROWRB.out.2) hb3 hw3
  have Q1:=qkm q1
  have Q2:=qkm (K.out.trans q2)
  clear q1 q2
  cases hz:((yRD ||| yRB) !=yRD)
 all_goals
  refine qaf [17,18,19,20] _ _ _ _ (by kernel_rfl) ?_
  simp only [qka,qkb,qkc,qkd,qke,qkf,qkg,qkh,qki,Nat.reduceAdd,Nat.reduceSub]
  repeat (go_big_quiet_step (fail))
  refine wpQuiet_nil ?_
  refine qao (by kernel_rfl) ?_ _
  go_wp2_with fail
  go_ret
  rw [EYRD.out,EYRB.out,hNN.out,hz]
  exact ⟨rfl,Q1.out,Q2.out⟩
def lcC (r:Int):Con:=.sub (some r.toNat) none
def lcL (l:List Int) (k:Nat):List Con:=(l.take k).map lcC
theorem qui (l:List Int) (k:Nat) (h:k<l.length):lcL l (k+1)=lcL l k++[lcC (l.getD k 0)]:=by
 unfold lcL
 rw [List.take_succ_eq_append_getElem h,List.map_append]
 simp [List.getD,h]
theorem AS.pass_snoc (x:AS) (l:List Con) (c:Con):x.pass (l++[c])=((x.pass l).1.con c,(x.pass l).1.news c || (x.pass l).2):=by rw [AS.pass_append,AS.pass_one]
theorem quh (w0:World) (k:VwK) (x:AS) (sp:List Sp) (i:In) (va:Value) (w:World) (h:VwM w0 w k x sp) (hop:i.op=9) (hva:RdI w0 va i.args) (hal:i.args.length≤1000) (har:∀ j,j<i.args.length→0≤i.args.getD j 0∧(i.args.getD j 0).toNat<k.bs.length) (cD:List Con) (hd:i.d= -1∧cD=[]∨∃ d:Nat,i.d=(d:Int)∧d<k.bs.length∧cD=[.sub none (some d)]) :
  Calls Try.prog 66 #[.pointer (some ⟨k.bv,0,none⟩),qbu i va] w (qh5 w0 k x sp w ((i.args.map fun r=>.sub (some r.toNat) none)++cD)):=by
 have HALL:Hid ((i.args.map fun r=>Con.sub (some r.toNat) none)=lcL i.args i.args.length):=by show _=_;unfold lcL;rw [List.take_length];rfl
 rw [HALL.out]
 clear HALL
 have H:=qkm h
 have l1:=h.lv
 obtain ⟨aa,ca,rfl,ha1,ha2,hac⟩:=hva
 have HAC:=qkm hac
 have HAR:=qkm har
 have HD:=qkm hd
 unfold maxLen at ha2
 clear h hac har hd
 unfold qbu
 rw [hop]
 clear hop
 go_enter Try.func66,Try.ntmps66
 go_wp2_with fail
 obtain ⟨W1,hW1⟩:∃ W1,W1=w.alloc (.cells #[.int .i64 9,.int .i64 i.d,.int .i64 i.a,.int .i64 i.b,.int .i64 i.fn,.int .i64 i.obj,.int .i64 i.off,.int .i64 i.size,.int .u32 i.num,.slice aa i.args.length ca,.bool i.log] 58):=⟨_,rfl⟩
 have HB1:Hid (W1.heap[w.heap.size]?=some (.cells #[.int .i64 9,.int .i64 i.d,.int .i64 i.a,.int .i64 i.b,.int .i64 i.fn,.int .i64 i.obj,.int .i64 i.off,.int .i64 i.size,.int .u32 i.num,.slice aa i.args.length ca,.bool i.log] 58 (0,0))):=by rw [hW1];exact heap_alloc_new w _
 have BB:Below w.heap.size w W1:=by rw [hW1];exact qaa w _
 have V1:=qkm (H.out.grow BB)
 have K1:=qkm (KpW.of_below (k:=k) BB)
 try rw [←hW1]
 clear hW1 BB
 go_loopw [6,128] (fun b j wr=>∃ kk:Nat,kk≤i.args.length∧b=.bool (x.pass (lcL i.args kk)).2∧j=.int .i64 (kk:Int)∧Hid (VwM w0 wr k (x.pass (lcL i.args kk)).1 sp)∧Hid (KpW k w wr)∧Hid (wr.heap[w.heap.size]?=some (.cells #[.int .i64 9,.int .i64 i.d,.int .i64 i.a,.int .i64 i.b,.int .i64 i.fn,.int .i64 i.obj,.int .i64 i.off,.int .i64 i.size,.int .u32 i.num,.slice aa i.args.length ca,.bool i.log] 58 (0,0)))) (fun _ j _=>i.args.length-(intOf j).toNat)
 case atStart=>exact ⟨0,Nat.zero_le _,rfl,rfl,V1,K1,HB1⟩
 case round=>
  clear V1 K1 HB1
  obtain ⟨kk,hkk,rfl,rfl,V,K,HB⟩:=hrel
  have lb:=(qkp HB.out).1
  by_cases hlt:kk<i.args.length
  ·obtain ⟨b,o,rfl,hc⟩:=HAC.out kk hlt
   obtain ⟨q0,q1⟩:=HAR.out kk hlt
   have hc:=V.out.ext _ _ hc
   simp only [Nat.mul_one,Nat.add_zero] at hc
   have HS:=qkm (qui i.args kk hlt)
   obtain ⟨r,hr⟩:∃ r:Nat,i.args.getD kk 0=(r:Int):=⟨(i.args.getD kk 0).toNat,by omega⟩
   have HP:Hid (x.pass (lcL i.args (kk+1))=(((x.pass (lcL i.args kk)).1.con (.sub (some r) none)),(x.pass (lcL i.args kk)).1.news (.sub (some r) none) || (x.pass (lcL i.args kk)).2)):=by
    show _=_
    rw [HS.out,AS.pass_snoc,hr];rfl
   rw [hr] at hc q1
   have q1:r<k.bs.length:=q1
   clear hr q0 HS
   generalize x.pass (lcL i.args kk)=P at *
   obtain ⟨X,n⟩:=P
   dsimp only at *
   obtain ⟨z,hz⟩:∃ z,X.news (.sub (some r) none)=z:=⟨_,rfl⟩
   rw [hz] at HP
   have HZ:=qkm hz
   clear hz
   go_wp2_with fail
   refine (qvf w0 k X sp r wr V.out q1).mono ?_
   rw [HZ.out]
   rintro e w3 ⟨rfl,hv3,hk3⟩
   have V3:=qkm hv3
   have K3:=qkm (K.out.trans hk3)
   have HB3:=qkm ((hk3.keep _ lb (H.out.notMine (Nat.le_refl _))).trans HB.out)
   clear hv3 hk3 V K HB lb hc HZ
   cases z
   all_goals
    go_wp2_with fail
    go_roundw
    case rel=>exact ⟨kk+1,hlt,by rw [HP.out];rfl,by go_num,by rw [HP.out];exact V3,K3,HB3⟩
    case measure=>simp [intOf];omega
  ·obtain rfl:kk=i.args.length:=by omega
   obtain ⟨b0,b1,b2,b3,b4,b5,b6,b7,b8,b9,b10, -⟩:=qau HB.out
   rcases HD.out with ⟨hd,hcd⟩|⟨d,hd,hdl,hcd⟩
   ·have hd1:(i.d != -1)=false:=by rw [hd];rfl
    have HCD:=qkm hcd
    clear hd hcd HD
    go_wp2_with fail
    go_ret
    rw [HCD.out,List.append_nil]
    exact ⟨rfl,V.out,K.out⟩
   ·have HCD:=qkm hcd
    have hd2:(i.d != -1)=true:=by rw [hd];simp
    have h:=H.out
    obtain ⟨g,c,hvR,hc1,hc2,hgl,hgO,hgR⟩:=h.reg hdl
    have HVR:=qkm hvR
    have HGR:=qkm hgR
    have hbO:=qbk h.hv h.out.1 (by decide)
    have hbR:Hid (∀ r,r<k.bs.length→k.bv≠k.bs.getD r 0):=fun r hr=>qbk h.hv (h.row r hr).1 (by decide)
    have lO:=h.out.1.lt
    have lR:Hid (∀ r,r<k.bs.length→k.bs.getD r 0<w.heap.size):=fun r hr=>(h.row r hr).1.lt
    unfold maxLen at hc2
    clear hvR hgR h hcd HD HAC HAR
    generalize hP:x.pass (lcL i.args i.args.length)=P at *
    obtain ⟨X,n⟩:=P
    have HP:=qkm hP
    clear hP
    dsimp only at *
    have HN:Hid (X.news (.sub none (some d))=((X.regs.getD d 0 ||| X.out) !=X.regs.getD d 0)∧X.con (.sub none (some d))={ X with regs:=X.regs.set d (X.regs.getD d 0 ||| X.out) }):=⟨rfl,rfl⟩
    have V1:=V
    have K1:=K
    have HB1:=HB
    have lz:=K.out.size
    have lb1:=(qkp HB.out).1
    clear V K HB
    generalize i.d=D at *
    subst hd
    go_upto_region 24 with (fail)
    clear b0 b1 b2 b3 b4 b5 b6 b7 b8 b9 b10
    refine qae (fun b=>b=w.heap.size∨b=k.bv∨b=g) (by kernel_rfl) ?_
    obtain ⟨W2,hW2⟩:∃ W2,W2=wr.drew:=⟨_,rfl⟩
    have hb5:Below wr.heap.size wr W2:=by rw [hW2];exact (Below.refl _ _).drew
    first|rw [←hW2]|rw [show (⟨wr.heap,wr.tape,wr.drawn+1,wr.os,wr.output⟩:World)=W2 from hW2.symm]
    have HB1:Hid (W2.heap[w.heap.size]?=some (.cells #[.int .i64 9,.int .i64 (d:Int),.int .i64 i.a,.int .i64 i.b,.int .i64 i.fn,.int .i64 i.obj,.int .i64 i.off,.int .i64 i.size,.int .u32 i.num,.slice aa i.args.length ca,.bool i.log] 58 (0,0))):=(hb5.block _ lb1).trans HB1.out
    have V:=qkm (V1.out.grow hb5)
    have K:=qkm (K1.out.trans (KpW.of_below hb5))
    have lz:=Nat.le_trans lz hb5.size
    clear hW2 hb5 K1 V1 lb1
    obtain ⟨b0,b1,b2,b3,b4,b5,b6,b7,b8,b9,b10,lb⟩:=qau HB1.out
    have hlO:w.heap.size≠k.bO:=by omega
    have v8:W2.cell? ⟨k.bv,8,none⟩=some (.slice (some ⟨k.bO,0,none⟩) 1 1):=qab V.out.hv 8
    have TRD:=V.out.regAt HVR.out hdl
    have c7:=TRD.vr
    have cRD:=TRD.cr
    have gRD:decide (d<k.bs.length)=true:=qkn hdl
    have iRD:decide ((d:Int)<(k.bs.length:Int))=true:=qkn (by omega)
    have ROWRD:=qkm (V.out.row d hdl)
    have SETRD:Hid (∀ y w',y<2 ^ 64→But (k.bs.getD d 0) W2 w'→qd4 w' (k.bs.getD d 0) y→VwM w0 w' k { X with regs:=X.regs.set d y } sp∧KpW k W2 w'):=fun y w' hy hb hw=>V.out.setRow hdl hy hb hw
    have NERD:Hid (k.bv≠k.bs.getD d 0∧g≠k.bs.getD d 0∧w.heap.size≠k.bs.getD d 0):=⟨hbR.out d hdl,HGR.out d hdl,by have:=lR.out d hdl;omega⟩
    clear TRD
    generalize hgeRD:k.bs.getD d 0=bRD at *
    clear hgeRD
    generalize hgeRD:X.regs.getD d 0=yRD at *
    have EYRD:=qkm hgeRD
    clear hgeRD
    have ROWO:=qkm V.out.out
    refine qaf [0,1,2,3,4,5,6,7,8,9,10,11] _ _ _ _ (by kernel_rfl) ?_
    simp only [qka,qkb,qkc,qkd,qke,qkf,qkg,qkh,qki,Nat.reduceAdd,Nat.reduceSub]
    repeat (go_big_quiet_step (fail))
    refine wpQuiet_nil ?_
    refine qag 12 _ rfl (by kernel_rfl) ?_
    simp only [qkj,qkk,qkl]
    go_wp2_with fail
    refine (qx9 bRD k.bO yRD X.out W2 ROWRD.out.1 ROWO.out.1 ROWRD.out.2 ROWO.out.2).mono ?_
    rintro e w3 ⟨rfl,hw3,hb3⟩
    go_wp2_with fail
    refine ⟨fun b o hb=>by rcases hb with rfl|rfl|rfl;exact hb3.cell (by omega) NERD.out.2.2;exact hb3.cell (by omega) NERD.out.1;exact hb3.cell (by omega) NERD.out.2.1,?_⟩
    obtain ⟨q1,q2⟩:=SETRD.out _ w3 (Nat.or_lt_two_pow ROWRD.out.2 ROWO.out.2) hb3 hw3
    have Q1:=qkm q1
    have Q2:=qkm (K.out.trans q2)
    clear q1 q2
    cases hz:((yRD ||| X.out) !=yRD)
    all_goals
     refine qaf [13,14,15,16] _ _ _ _ (by kernel_rfl) ?_
     simp only [qka,qkb,qkc,qkd,qke,qkf,qkg,qkh,qki,Nat.reduceAdd,Nat.reduceSub]
     repeat (go_big_quiet_step (fail))
     refine wpQuiet_nil ?_
     refine qao (by kernel_rfl) ?_ _
     go_wp2_with fail
     go_ret
     rw [HCD.out]
     unfold qh5
     rw [AS.pass_snoc,HP.out]
     dsimp only
     rw [HN.out.1,HN.out.2,hz]
     exact ⟨rfl,Q1.out,Q2.out⟩
end Go.Proofs.Ytmcddolkpcgddaa
