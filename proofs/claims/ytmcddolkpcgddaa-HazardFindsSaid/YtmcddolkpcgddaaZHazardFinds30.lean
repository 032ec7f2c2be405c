/-
 alias: spread.
-/
import Derived.Test.YtmcddolkpcgddaaZHazardFinds26
set_option maxHeartbeats 4000000
set_option maxRecDepth 100000
set_option linter.all false
namespace Go.Proofs.Ytmcddolkpcgddaa
open Go.ChangeShapes Go.WideShapes Go.ChangeAt Go.RowKit
def qh5 (w0:World) (k:VwK) (x:AS) (sp:List Sp) (w:World) (l:List Con) (e:Ending) (w':World):Prop :=
 e=.returned (.bool (x.pass l).2)∧VwM w0 w' k (x.pass l).1 sp∧KpW k w w'
theorem AS.pass_one (x:AS) (c:Con):x.pass [c]=(x.con c,x.news c):=by simp [AS.pass]
theorem AS.pass_two (x:AS) (c c':Con):x.pass [c,c']=((x.con c).con c',(x.con c).news c' || x.news c):=by simp [AS.pass]
theorem AS.pass_nil (x:AS):x.pass []=(x,false):=rfl
structure q2p (w:World) (k:VwK) (g c r:Nat):Prop where
 vr:w.cell? ⟨k.bv,7,none⟩=some (.slice (some ⟨g,0,none⟩) k.bs.length c)
 cr:w.cell? ⟨g,r,none⟩=some (.slice (some ⟨k.bs.getD r 0,0,none⟩) 1 1)
theorem VwM.regAt {w0 w:World} {k:VwK} {x:AS} {sp:List Sp} (h:VwM w0 w k x sp) {g c r:Nat} (hv:k.vR=.slice (some ⟨g,0,none⟩) k.bs.length c) (hr:r<k.bs.length):q2p w k g c r:=by
 obtain ⟨g',c',k1, -, -, -,k5⟩:=h.at hr
 rw [hv] at k1
 simp only [Value.slice.injEq,Option.some.injEq,Addr.mk.injEq,and_true,true_and] at k1
 obtain ⟨rfl,rfl⟩:=k1
 exact ⟨by rw [qab h.hv 7,←hv];rfl,k5⟩
theorem VwM.reg {w0 w:World} {k:VwK} {x:AS} {sp:List Sp} (h:VwM w0 w k x sp) {r:Nat} (hr:r<k.bs.length):∃ g c,k.vR=.slice (some ⟨g,0,none⟩) k.bs.length c∧k.bs.length≤c∧c≤maxLen∧g<w.heap.size∧g≠k.bO∧(∀ r,r<k.bs.length→g≠k.bs.getD r 0):=by
 obtain ⟨g,c,h1,h2,h3,h4,h5⟩:=h.at hr
 exact ⟨g,c,h1,h2,h3,h4,fun e=>ne_row h.own h.out.1 (by decide) (by rw [h1,e];rfl),fun r' hr' e=>ne_row h.own (h.row r' hr').1 (by decide) (by rw [h1,e];rfl)⟩
theorem qut (w0:World) (k:VwK) (x:AS) (sp:List Sp) (i:In) (va:Value) (w:World) (h:VwM w0 w k x sp) (hop:i.op=2) (d a:Nat) (hd:i.d=(d:Int)) (hdl:d<k.bs.length) (ha:i.a=(a:Int)) (hal:a<k.bs.length) :
  Calls Try.prog 66 #[.pointer (some ⟨k.bv,0,none⟩),qbu i va] w (qh5 w0 k x sp w [.sub (some a) (some d)]):=by
 unfold qh5
 rw [AS.pass_one]
 have HN:Hid (x.news (.sub (some a) (some d))=((x.regs.getD d 0 ||| x.regs.getD a 0) !=x.regs.getD d 0)∧x.con (.sub (some a) (some d))={ x with regs:=x.regs.set d (x.regs.getD d 0 ||| x.regs.getD a 0) }):=⟨rfl,rfl⟩
 dsimp only
 rw [HN.out.1,HN.out.2]
 clear HN
 have l1:=h.lv
 have H:=qkm h
 obtain ⟨g,c,hvR,hc1,hc2,hgl,hgO,hgR⟩:=h.reg hdl
 have HVR:=qkm hvR
 have HGR:=qkm hgR
 have hbO:=qbk h.hv h.out.1 (by decide)
 have hbR:Hid (∀ r,r<k.bs.length→k.bv≠k.bs.getD r 0):=fun r hr=>qbk h.hv (h.row r hr).1 (by decide)
 have lO:=h.out.1.lt
 have lR:Hid (∀ r,r<k.bs.length→k.bs.getD r 0<w.heap.size):=fun r hr=>(h.row r hr).1.lt
 unfold maxLen at hc2
 clear hvR hgR h
 unfold qbu
 rw [hop,hd,ha]
 clear hop hd ha
 go_enter Try.func66,Try.ntmps66
 go_upto_region 6 with (fail)
 obtain ⟨W1,hW1⟩:∃ W1,W1=w.alloc (.cells #[.int .i64 2,.int .i64 (d:Int),.int .i64 (a:Int),.int .i64 i.b,.int .i64 i.fn,.int .i64 i.obj,.int .i64 i.off,.int .i64 i.size,.int .u32 i.num,va,.bool i.log] 58):=⟨_,rfl⟩
 have HB1:Hid (W1.heap[w.heap.size]?=some (.cells #[.int .i64 2,.int .i64 (d:Int),.int .i64 (a:Int),.int .i64 i.b,.int .i64 i.fn,.int .i64 i.obj,.int .i64 i.off,.int .i64 i.size,.int .u32 i.num,va,.bool i.log] 58 (0,0))):=by rw [hW1];exact heap_alloc_new w _
 have BB:Below w.heap.size w W1:=by rw [hW1];exact qaa w _
 rw [←hW1]
 have V1:=qkm (H.out.grow BB)
 have K1:=qkm (KpW.of_below (k:=k) BB)
 have lz:=BB.size
 have lb1:w.heap.size<W1.heap.size:=(qkp HB1.out).1
 clear hW1 BB
 refine qae (fun b=>b=w.heap.size∨b=k.bv∨b=g) (by kernel_rfl) ?_
 obtain ⟨W2,hW2⟩:∃ W2,W2=W1.drew:=⟨_,rfl⟩
 have hb5:Below W1.heap.size W1 W2:=by rw [hW2];exact (Below.refl _ _).drew
 first|rw [←hW2]|rw [show (⟨W1.heap,W1.tape,W1.drawn+1,W1.os,W1.output⟩:World)=W2 from hW2.symm]
 have HB1:Hid (W2.heap[w.heap.size]?=some (.cells #[.int .i64 2,.int .i64 (d:Int),.int .i64 (a:Int),.int .i64 i.b,.int .i64 i.fn,.int .i64 i.obj,.int .i64 i.off,.int .i64 i.size,.int .u32 i.num,va,.bool i.log] 58 (0,0))):=(hb5.block _ lb1).trans HB1.out
 have V:=qkm (V1.out.grow hb5)
 have K:=qkm (K1.out.trans (KpW.of_below hb5))
 have lz:=Nat.le_trans lz hb5.size
 clear hW2 hb5 K1 V1 lb1
 obtain ⟨b0,b1,b2,b3,b4,b5,b6,b7,b8,b9,b10,lb⟩:=qau HB1.out
 have hlO:w.heap.size≠k.bO:=by omega
 have v8:W2.cell? ⟨k.bv,8,none⟩=some (.slice (some ⟨k.bO,0,none⟩) 1 1):=qab V.out.hv 8
 have TRD:=V.out.regAt HVR.out hdl
 have c7:=TRD.vr
 have cRD:=TRD.cr
 have gRD:decide (d<k.bs.length)=true:=qkn hdl
 have iRD:decide ((d:Int)<(k.bs.length:Int))=true:=qkn (by omega)
 have ROWRD:=qkm (V.out.row d hdl)
 have SETRD:Hid (∀ y w',y<2 ^ 64→But (k.bs.getD d 0) W2 w'→qd4 w' (k.bs.getD d 0) y→VwM w0 w' k { x with regs:=x.regs.set d y } sp∧KpW k W2 w'):=fun y w' hy hb hw=>V.out.setRow hdl hy hb hw
 have NERD:Hid (k.bv≠k.bs.getD d 0∧g≠k.bs.getD d 0∧w.heap.size≠k.bs.getD d 0):=⟨hbR.out d hdl,HGR.out d hdl,by have:=lR.out d hdl;omega⟩
 clear TRD
 generalize hgeRD:k.bs.getD d 0=bRD at *
 clear hgeRD
 generalize hgeRD:x.regs.getD d 0=yRD at *
 have EYRD:=qkm hgeRD
 clear hgeRD
 have TRA:=V.out.regAt HVR.out hal
 have c7:=TRA.vr
 have cRA:=TRA.cr
 have gRA:decide (a<k.bs.length)=true:=qkn hal
 have iRA:decide ((a:Int)<(k.bs.length:Int))=true:=qkn (by omega)
 have ROWRA:=qkm (V.out.row a hal)
 have SETRA:Hid (∀ y w',y<2 ^ 64→But (k.bs.getD a 0) W2 w'→qd4 w' (k.bs.getD a 0) y→VwM w0 w' k { x with regs:=x.regs.set a y } sp∧KpW k W2 w'):=fun y w' hy hb hw=>V.out.setRow hal hy hb hw
 have NERA:Hid (k.bv≠k.bs.getD a 0∧g≠k.bs.getD a 0∧w.heap.size≠k.bs.getD a 0):=⟨hbR.out a hal,HGR.out a hal,by have:=lR.out a hal;omega⟩
 clear TRA
 generalize hgeRA:k.bs.getD a 0=bRA at *
 clear hgeRA
 generalize hgeRA:x.regs.getD a 0=yRA at *
 have EYRA:=qkm hgeRA
 clear hgeRA
 refine qaf [0,1,2,3,4,5,6,7,8,9,10,11,12,13,14,15] _ _ _ _ (by kernel_rfl) ?_
 simp only [qka,qkb,qkc,qkd,qke,qkf,qkg,qkh,qki,Nat.reduceAdd,Nat.reduceSub]
 repeat (go_big_quiet_step (fail))
 refine wpQuiet_nil ?_
 refine qag 16 _ rfl (by kernel_rfl) ?_
 simp only [qkj,qkk,qkl]
 go_wp2_with fail
 refine (qx9 bRD bRA yRD yRA W2 ROWRD.out.1 ROWRA.out.1 ROWRD.out.2 ROWRA.out.2).mono ?_
 rintro e w3 ⟨rfl,hw3,hb3⟩
 go_wp2_with fail
 refine ⟨fun b o hb=>by rcases hb with rfl|rfl|rfl;exact hb3.cell (by omega) NERD.out.2.2;exact hb3.cell (by omega) NERD.out.1;exact hb3.cell (by omega) NERD.out.2.1,?_⟩
 refine qaf [17] _ _ _ _ (by kernel_rfl) ?_
 simp only [qka,qkb,qkc,qkd,qke,qkf,qkg,qkh,qki,Nat.reduceAdd,Nat.reduceSub]
 repeat (go_big_quiet_step (fail))
 refine wpQuiet_nil ?_
 refine qao (by kernel_rfl) ?_ _
 go_wp2_with fail
 go_ret
 obtain ⟨q1,q2⟩:=SETRD.out _ w3 (Nat.or_lt_two_pow ROWRD.out.2 ROWRA.out.2) hb3 hw3
 rw [EYRD.out,EYRA.out]
 exact ⟨rfl,q1,K.out.trans q2⟩
theorem qv2 (w0:World) (k:VwK) (x:AS) (sp:List Sp) (i:In) (va:Value) (w:World) (h:VwM w0 w k x sp) (hop:i.op=7) (d t:Nat) (hd:i.d=(d:Int)) (hdl:d<k.bs.length) (hol:k.p.objs.length≤1000) (hio:0≤i.obj∧i.obj≤100000) (htl:t<64) (HTT:(if i.op=8 then (k.p.objs.length:Int)+i.obj else i.obj)=(t:Int)) :
  Calls Try.prog 66 #[.pointer (some ⟨k.bv,0,none⟩),qbu i va] w (qh5 w0 k x sp w [.put t d]):=by
 unfold qh5
 rw [AS.pass_one]
 have HN:Hid (x.news (.put t d)=((x.regs.getD d 0 ||| 1 <<< t) !=x.regs.getD d 0)∧x.con (.put t d)={ x with regs:=x.regs.set d (x.regs.getD d 0 ||| 1 <<< t) }):=⟨rfl,rfl⟩
 dsimp only
 rw [HN.out.1,HN.out.2]
 clear HN
 have ET:Hid (∀ w',VwM w0 w' k x sp→Calls Try.prog 95 #[.pointer (some ⟨k.bv,0,none⟩),qbu i va] w' fun e w''=>e=.returned (.int .i64 (t:Int))∧Below w'.heap.size w' w''):=fun w' hv=>by
  have:=qnc w0 k x sp i va w' hv hol hio
  rw [HTT] at this
  exact this
 have HBT:=qkm (qsl htl)
 unfold qbu at ET
 have l1:=h.lv
 have H:=qkm h
 obtain ⟨g,c,hvR,hc1,hc2,hgl,hgO,hgR⟩:=h.reg hdl
 have HVR:=qkm hvR
 have HGR:=qkm hgR
 have hbO:=qbk h.hv h.out.1 (by decide)
 have hbR:Hid (∀ r,r<k.bs.length→k.bv≠k.bs.getD r 0):=fun r hr=>qbk h.hv (h.row r hr).1 (by decide)
 have lO:=h.out.1.lt
 have lR:Hid (∀ r,r<k.bs.length→k.bs.getD r 0<w.heap.size):=fun r hr=>(h.row r hr).1.lt
 unfold maxLen at hc2
 clear hvR hgR h
 unfold qbu
 rw [hop,hd] at ET ⊢
 clear hop hd HTT hol
 go_enter Try.func66,Try.ntmps66
 go_upto_region 4 with (fail)
 obtain ⟨W1,hW1⟩:∃ W1,W1=w.alloc (.cells #[.int .i64 7,.int .i64 (d:Int),.int .i64 i.a,.int .i64 i.b,.int .i64 i.fn,.int .i64 i.obj,.int .i64 i.off,.int .i64 i.size,.int .u32 i.num,va,.bool i.log] 58):=⟨_,rfl⟩
 have HB1:Hid (W1.heap[w.heap.size]?=some (.cells #[.int .i64 7,.int .i64 (d:Int),.int .i64 i.a,.int .i64 i.b,.int .i64 i.fn,.int .i64 i.obj,.int .i64 i.off,.int .i64 i.size,.int .u32 i.num,va,.bool i.log] 58 (0,0))):=by rw [hW1];exact heap_alloc_new w _
 have BB:Below w.heap.size w W1:=by rw [hW1];exact qaa w _
 rw [←hW1]
 have V1:=qkm (H.out.grow BB)
 have K1:=qkm (KpW.of_below (k:=k) BB)
 have lz:=BB.size
 have lb1:w.heap.size<W1.heap.size:=(qkp HB1.out).1
 clear hW1 BB
 refine qae (fun b=>b=w.heap.size∨b=k.bv∨b=g) (by kernel_rfl) ?_
 obtain ⟨W2,hW2⟩:∃ W2,W2=W1.drew:=⟨_,rfl⟩
 have hb5:Below W1.heap.size W1 W2:=by rw [hW2];exact (Below.refl _ _).drew
 first|rw [←hW2]|rw [show (⟨W1.heap,W1.tape,W1.drawn+1,W1.os,W1.output⟩:World)=W2 from hW2.symm]
 have HB1:Hid (W2.heap[w.heap.size]?=some (.cells #[.int .i64 7,.int .i64 (d:Int),.int .i64 i.a,.int .i64 i.b,.int .i64 i.fn,.int .i64 i.obj,.int .i64 i.off,.int .i64 i.size,.int .u32 i.num,va,.bool i.log] 58 (0,0))):=(hb5.block _ lb1).trans HB1.out
 have V:=qkm (V1.out.grow hb5)
 have K:=qkm (K1.out.trans (KpW.of_below hb5))
 have lz:=Nat.le_trans lz hb5.size
 clear hW2 hb5 K1 V1 lb1
 obtain ⟨b0,b1,b2,b3,b4,b5,b6,b7,b8,b9,b10,lb⟩:=qau HB1.out
 have hlO:w.heap.size≠k.bO:=by omega
 have v8:W2.cell? ⟨k.bv,8,none⟩=some (.slice (some ⟨k.bO,0,none⟩) 1 1):=qab V.out.hv 8
 have TRD:=V.out.regAt HVR.out hdl
 have c7:=TRD.vr
 have cRD:=TRD.cr
 have gRD:decide (d<k.bs.length)=true:=qkn hdl
 have iRD:decide ((d:Int)<(k.bs.length:Int))=true:=qkn (by omega)
 have ROWRD:=qkm (V.out.row d hdl)
 have SETRD:Hid (∀ y w',y<2 ^ 64→But (k.bs.getD d 0) W2 w'→qd4 w' (k.bs.getD d 0) y→VwM w0 w' k { x with regs:=x.regs.set d y } sp∧KpW k W2 w'):=fun y w' hy hb hw=>V.out.setRow hdl hy hb hw
 have NERD:Hid (k.bv≠k.bs.getD d 0∧g≠k.bs.getD d 0∧w.heap.size≠k.bs.getD d 0):=⟨hbR.out d hdl,HGR.out d hdl,by have:=lR.out d hdl;omega⟩
 clear TRD
 generalize hgeRD:k.bs.getD d 0=bRD at *
 clear hgeRD
 generalize hgeRD:x.regs.getD d 0=yRD at *
 have EYRD:=qkm hgeRD
 clear hgeRD
 refine qaf [0,1,2,3,4,5,6,7,8,9] _ _ _ _ (by kernel_rfl) ?_
 simp only [qka,qkb,qkc,qkd,qke,qkf,qkg,qkh,qki,Nat.reduceAdd,Nat.reduceSub]
 repeat (go_big_quiet_step (fail))
 refine wpQuiet_nil ?_
 refine qag 10 _ rfl (by kernel_rfl) ?_
 simp only [qkj,qkk,qkl]
 go_wp2_with fail
 refine (ET.out W2 V.out).mono ?_
 rintro e w4 ⟨rfl,hb4⟩
 go_wp2_with fail
 refine ⟨qdx hb4 (fun b hb=>by rcases hb with rfl|rfl|rfl <;> omega),?_⟩
 refine qag 11 _ rfl (by kernel_rfl) ?_
 simp only [qkj,qkk,qkl]
 go_wp2_with fail
 refine (qzr bRD yRD t w4 ((hb4.block _ ROWRD.out.1.lt).trans ROWRD.out.1) ROWRD.out.2 htl).mono ?_
 rintro e w3 ⟨rfl,hw3,hb3⟩
 go_wp2_with fail
 have l4:=hb4.size
 refine ⟨fun b o hb=>by rcases hb with rfl|rfl|rfl;exact hb3.cell (by omega) NERD.out.2.2;exact hb3.cell (by omega) NERD.out.1;exact hb3.cell (by omega) NERD.out.2.1,?_⟩
 refine qaf [12] _ _ _ _ (by kernel_rfl) ?_
 simp only [qka,qkb,qkc,qkd,qke,qkf,qkg,qkh,qki,Nat.reduceAdd,Nat.reduceSub]
 repeat (go_big_quiet_step (fail))
 refine wpQuiet_nil ?_
 refine qao (by kernel_rfl) ?_ _
 go_wp2_with fail
 go_ret
 obtain ⟨q1,q2⟩:=SETRD.out _ w3 (Nat.or_lt_two_pow ROWRD.out.2 HBT.out) ((But.below hb4).trans hb3) hw3
 rw [EYRD.out]
 exact ⟨rfl,q1,K.out.trans q2⟩
theorem qvn (w0:World) (k:VwK) (x:AS) (sp:List Sp) (i:In) (va:Value) (w:World) (h:VwM w0 w k x sp) (hop:i.op=8) (d t:Nat) (hd:i.d=(d:Int)) (hdl:d<k.bs.length) (hol:k.p.objs.length≤1000) (hio:0≤i.obj∧i.obj≤100000) (htl:t<64) (HTT:(if i.op=8 then (k.p.objs.length:Int)+i.obj else i.obj)=(t:Int)) :
  Calls Try.prog 66 #[.pointer (some ⟨k.bv,0,none⟩),qbu i va] w (qh5 w0 k x sp w [.put t d]):=by
 unfold qh5
 rw [AS.pass_one]
 have HN:Hid (x.news (.put t d)=((x.regs.getD d 0 ||| 1 <<< t) !=x.regs.getD d 0)∧x.con (.put t d)={ x with regs:=x.regs.set d (x.regs.getD d 0 ||| 1 <<< t) }):=⟨rfl,rfl⟩
 dsimp only
 rw [HN.out.1,HN.out.2]
 clear HN
 have ET:Hid (∀ w',VwM w0 w' k x sp→Calls Try.prog 95 #[.pointer (some ⟨k.bv,0,none⟩),qbu i va] w' fun e w''=>e=.returned (.int .i64 (t:Int))∧Below w'.heap.size w' w''):=fun w' hv=>by
  have:=qnc w0 k x sp i va w' hv hol hio
  rw [HTT] at this
  exact this
 have HBT:=qkm (qsl htl)
 unfold qbu at ET
 have l1:=h.lv
 have H:=qkm h
 obtain ⟨g,c,hvR,hc1,hc2,hgl,hgO,hgR⟩:=h.reg hdl
 have HVR:=qkm hvR
 have HGR:=qkm hgR
 have hbO:=qbk h.hv h.out.1 (by decide)
 have hbR:Hid (∀ r,r<k.bs.length→k.bv≠k.bs.getD r 0):=fun r hr=>qbk h.hv (h.row r hr).1 (by decide)
 have lO:=h.out.1.lt
 have lR:Hid (∀ r,r<k.bs.length→k.bs.getD r 0<w.heap.size):=fun r hr=>(h.row r hr).1.lt
 unfold maxLen at hc2
 clear hvR hgR h
 unfold qbu
 rw [hop,hd] at ET ⊢
 clear hop hd HTT hol
 go_enter Try.func66,Try.ntmps66
 go_upto_region 4 with (fail)
 obtain ⟨W1,hW1⟩:∃ W1,W1=w.alloc (.cells #[.int .i64 8,.int .i64 (d:Int),.int .i64 i.a,.int .i64 i.b,.int .i64 i.fn,.int .i64 i.obj,.int .i64 i.off,.int .i64 i.size,.int .u32 i.num,va,.bool i.log] 58):=⟨_,rfl⟩
 have HB1:Hid (W1.heap[w.heap.size]?=some (.cells #[.int .i64 8,.int .i64 (d:Int),.int .i64 i.a,.int .i64 i.b,.int .i64 i.fn,.int .i64 i.obj,.int .i64 i.off,.int .i64 i.size,.int .u32 i.num,va,.bool i.log] 58 (0,0))):=by rw [hW1];exact heap_alloc_new w _
 have BB:Below w.heap.size w W1:=by rw [hW1];exact qaa w _
 rw [←hW1]
 have V1:=qkm (H.out.grow BB)
 have K1:=qkm (KpW.of_below (k:=k) BB)
 have lz:=BB.size
 have lb1:w.heap.size<W1.heap.size:=(qkp HB1.out).1
 clear hW1 BB
 refine qae (fun b=>b=w.heap.size∨b=k.bv∨b=g) (by kernel_rfl) ?_
 obtain ⟨W2,hW2⟩:∃ W2,W2=W1.drew:=⟨_,rfl⟩
 have hb5:Below W1.heap.size W1 W2:=by rw [hW2];exact (Below.refl _ _).drew
 first|rw [←hW2]|rw [show (⟨W1.heap,W1.tape,W1.drawn+1,W1.os,W1.output⟩:World)=W2 from hW2.symm]
 have HB1:Hid (W2.heap[w.heap.size]?=some (.cells #[.int .i64 8,.int .i64 (d:Int),.int .i64 i.a,.int .i64 i.b,.int .i64 i.fn,.int .i64 i.obj,.int .i64 i.off,.int .i64 i.size,.int .u32 i.num,va,.bool i.log] 58 (0,0))):=(hb5.block _ lb1).trans HB1.out
 have V:=qkm (V1.out.grow hb5)
 have K:=qkm (K1.out.trans (KpW.of_below hb5))
 have lz:=Nat.le_trans lz hb5.size
 clear hW2 hb5 K1 V1 lb1
 obtain ⟨b0,b1,b2,b3,b4,b5,b6,b7,b8,b9,b10,lb⟩:=qau HB1.out
 have hlO:w.heap.size≠k.bO:=by omega
 have v8:W2.cell? ⟨k.bv,8,none⟩=some (.slice (some ⟨k.bO,0,none⟩) 1 1):=qab V.out.hv 8
 have TRD:=V.out.regAt HVR.out hdl
 have c7:=TRD.vr
 have cRD:=TRD.cr
 have gRD:decide (d<k.bs.length)=true:=qkn hdl
 have iRD:decide ((d:Int)<(k.bs.length:Int))=true:=qkn (by omega)
 have ROWRD:=qkm (V.out.row d hdl)
 have SETRD:Hid (∀ y w',y<2 ^ 64→But (k.bs.getD d 0) W2 w'→qd4 w' (k.bs.getD d 0) y→VwM w0 w' k { x with regs:=x.regs.set d y } sp∧KpW k W2 w'):=fun y w' hy hb hw=>V.out.setRow hdl hy hb hw
 have NERD:Hid (k.bv≠k.bs.getD d 0∧g≠k.bs.getD d 0∧w.heap.size≠k.bs.getD d 0):=⟨hbR.out d hdl,HGR.out d hdl,by have:=lR.out d hdl;omega⟩
 clear TRD
 generalize hgeRD:k.bs.getD d 0=bRD at *
 clear hgeRD
 generalize hgeRD:x.regs.getD d 0=yRD at *
 have EYRD:=qkm hgeRD
 clear hgeRD
 refine qaf [0,1,2,3,4,5,6,7,8,9] _ _ _ _ (by kernel_rfl) ?_
 simp only [qka,qkb,qkc,qkd,qke,qkf,qkg,qkh,qki,Nat.reduceAdd,Nat.reduceSub]
 repeat (go_big_quiet_step (fail))
 refine wpQuiet_nil ?_
 refine qag 10 _ rfl (by kernel_rfl) ?_
 simp only [qkj,qkk,qkl]
 go_wp2_with fail
 refine (ET.out W2 V.out).mono ?_
 rintro e w4 ⟨rfl,hb4⟩
 go_wp2_with fail
 refine ⟨qdx hb4 (fun b hb=>by rcases hb with rfl|rfl|rfl <;> omega),?_⟩
 refine qag 11 _ rfl (by kernel_rfl) ?_
 simp only [qkj,qkk,qkl]
 go_wp2_with fail
 refine (qzr bRD yRD t w4 ((hb4.block _ ROWRD.out.1.lt).trans ROWRD.out.1) ROWRD.out.2 htl).mono ?_
 rintro e w3 ⟨rfl,hw3,hb3⟩
 go_wp2_with fail
 have l4:=hb4.size
 refine ⟨fun b o hb=>by rcases hb with rfl|rfl|rfl;exact hb3.cell (by omega) NERD.out.2.2;exact hb3.cell (by omega) NERD.out.1;exact hb3.cell (by omega) NERD.out.2.1,?_⟩
 refine qaf [12] _ _ _ _ (by kernel_rfl) ?_
 simp only [qka,qkb,qkc,qkd,qke,qkf,qkg,qkh,qki,Nat.reduceAdd,Nat.reduceSub]
 repeat (go_big_quiet_step (fail))
 refine wpQuiet_nil ?_
 refine qao (by kernel_rfl) ?_ _
 go_wp2_with fail
 go_ret
 obtain ⟨q1,q2⟩:=SETRD.out _ w3 (Nat.or_lt_two_pow ROWRD.out.2 HBT.out) ((But.below hb4).trans hb3) hw3
 rw [EYRD.out]
 exact ⟨rfl,q1,K.out.trans q2⟩
theorem quy (w0:World) (k:VwK) (x:AS) (sp:List Sp) (i:In) (va:Value) (w:World) (h:VwM w0 w k x sp) (hop:i.op=5) (d:Nat) (hd:i.d=(d:Int)) (hdl:d<k.bs.length) (h4:(i.size ==4)=true) :
  Calls Try.prog 66 #[.pointer (some ⟨k.bv,0,none⟩),qbu i va] w (qh5 w0 k x sp w [.sub none (some d)]):=by
 unfold qh5
 rw [AS.pass_one]
 have HN:Hid (x.news (.sub none (some d))=((x.regs.getD d 0 ||| x.out) !=x.regs.getD d 0)∧x.con (.sub none (some d))={ x with regs:=x.regs.set d (x.regs.getD d 0 ||| x.out) }):=⟨rfl,rfl⟩
 dsimp only
 rw [HN.out.1,HN.out.2]
 clear HN
 have l1:=h.lv
 have H:=qkm h
 obtain ⟨g,c,hvR,hc1,hc2,hgl,hgO,hgR⟩:=h.reg hdl
 have HVR:=qkm hvR
 have HGR:=qkm hgR
 have hbO:=qbk h.hv h.out.1 (by decide)
 have hbR:Hid (∀ r,r<k.bs.length→k.bv≠k.bs.getD r 0):=fun r hr=>qbk h.hv (h.row r hr).1 (by decide)
 have lO:=h.out.1.lt
 have lR:Hid (∀ r,r<k.bs.length→k.bs.getD r 0<w.heap.size):=fun r hr=>(h.row r hr).1.lt
 unfold maxLen at hc2
 clear hvR hgR h
 unfold qbu
 rw [hop,hd]
 clear hop hd
 go_enter Try.func66,Try.ntmps66
 go_upto_region 13 with (fail)
 obtain ⟨W1,hW1⟩:∃ W1,W1=w.alloc (.cells #[.int .i64 5,.int .i64 (d:Int),.int .i64 i.a,.int .i64 i.b,.int .i64 i.fn,.int .i64 i.obj,.int .i64 i.off,.int .i64 i.size,.int .u32 i.num,va,.bool i.log] 58):=⟨_,rfl⟩
 have HB1:Hid (W1.heap[w.heap.size]?=some (.cells #[.int .i64 5,.int .i64 (d:Int),.int .i64 i.a,.int .i64 i.b,.int .i64 i.fn,.int .i64 i.obj,.int .i64 i.off,.int .i64 i.size,.int .u32 i.num,va,.bool i.log] 58 (0,0))):=by rw [hW1];exact heap_alloc_new w _
 have BB:Below w.heap.size w W1:=by rw [hW1];exact qaa w _
 rw [←hW1]
 have V1:=qkm (H.out.grow BB)
 have K1:=qkm (KpW.of_below (k:=k) BB)
 have lz:=BB.size
 have lb1:w.heap.size<W1.heap.size:=(qkp HB1.out).1
 clear hW1 BB
 refine qae (fun b=>b=w.heap.size∨b=k.bv∨b=g) (by kernel_rfl) ?_
 obtain ⟨W2,hW2⟩:∃ W2,W2=W1.drew:=⟨_,rfl⟩
 have hb5:Below W1.heap.size W1 W2:=by rw [hW2];exact (Below.refl _ _).drew
 first|rw [←hW2]|rw [show (⟨W1.heap,W1.tape,W1.drawn+1,W1.os,W1.output⟩:World)=W2 from hW2.symm]
 have HB1:Hid (W2.heap[w.heap.size]?=some (.cells #[.int .i64 5,.int .i64 (d:Int),.int .i64 i.a,.int .i64 i.b,.int .i64 i.fn,.int .i64 i.obj,.int .i64 i.off,.int .i64 i.size,.int .u32 i.num,va,.bool i.log] 58 (0,0))):=(hb5.block _ lb1).trans HB1.out
 have V:=qkm (V1.out.grow hb5)
 have K:=qkm (K1.out.trans (KpW.of_below hb5))
 have lz:=Nat.le_trans lz hb5.size
 clear hW2 hb5 K1 V1 lb1
 obtain ⟨b0,b1,b2,b3,b4,b5,b6,b7,b8,b9,b10,lb⟩:=qau HB1.out
 have hlO:w.heap.size≠k.bO:=by omega
 have v8:W2.cell? ⟨k.bv,8,none⟩=some (.slice (some ⟨k.bO,0,none⟩) 1 1):=qab V.out.hv 8
 have TRD:=V.out.regAt HVR.out hdl
 have c7:=TRD.vr
 have cRD:=TRD.cr
 have gRD:decide (d<k.bs.length)=true:=qkn hdl
 have iRD:decide ((d:Int)<(k.bs.length:Int))=true:=qkn (by omega)
 have ROWRD:=qkm (V.out.row d hdl)
 have SETRD:Hid (∀ y w',y<2 ^ 64→But (k.bs.getD d 0) W2 w'→qd4 w' (k.bs.getD d 0) y→VwM w0 w' k { x with regs:=x.regs.set d y } sp∧KpW k W2 w'):=fun y w' hy hb hw=>V.out.setRow hdl hy hb hw
 have NERD:Hid (k.bv≠k.bs.getD d 0∧g≠k.bs.getD d 0∧w.heap.size≠k.bs.getD d 0):=⟨hbR.out d hdl,HGR.out d hdl,by have:=lR.out d hdl;omega⟩
 clear TRD
 generalize hgeRD:k.bs.getD d 0=bRD at *
 clear hgeRD
 generalize hgeRD:x.regs.getD d 0=yRD at *
 have EYRD:=qkm hgeRD
 clear hgeRD
 have ROWO:=qkm V.out.out
 refine qaf [0,1,2,3,4,5,6,7,8,9,10,11,12,13,14,15] _ _ _ _ (by kernel_rfl) ?_
 simp only [qka,qkb,qkc,qkd,qke,qkf,qkg,qkh,qki,Nat.reduceAdd,Nat.reduceSub]
 repeat (go_big_quiet_step (fail))
 refine wpQuiet_nil ?_
 refine qag 16 _ rfl (by kernel_rfl) ?_
 simp only [qkj,qkk,qkl]
 go_wp2_with fail
 refine (qx9 bRD k.bO yRD x.out W2 ROWRD.out.1 ROWO.out.1 ROWRD.out.2 ROWO.out.2).mono ?_
 rintro e w3 ⟨rfl,hw3,hb3⟩
 go_wp2_with fail
 refine ⟨fun b o hb=>by rcases hb with rfl|rfl|rfl;exact hb3.cell (by omega) NERD.out.2.2;exact hb3.cell (by omega) NERD.out.1;exact hb3.cell (by omega) NERD.out.2.1,?_⟩
 refine qaf [17,18] _ _ _ _ (by kernel_rfl) ?_
 simp only [qka,qkb,qkc,qkd,qke,qkf,qkg,qkh,qki,Nat.reduceAdd,Nat.reduceSub]
 repeat (go_big_quiet_step (fail))
 refine wpQuiet_nil ?_
 refine qao (by kernel_rfl) ?_ _
 go_wp2_with fail
 go_ret
 obtain ⟨q1,q2⟩:=SETRD.out _ w3 (Nat.or_lt_two_pow ROWRD.out.2 ROWO.out.2) hb3 hw3
 rw [EYRD.out]
 exact ⟨rfl,q1,K.out.trans q2⟩
end Go.Proofs.Ytmcddolkpcgddaa
