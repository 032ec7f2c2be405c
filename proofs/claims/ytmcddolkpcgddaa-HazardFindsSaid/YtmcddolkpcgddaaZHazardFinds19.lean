/-
 Contracts of the parts of ir.Check: instructions.
-/
import Derived.Test.YtmcddolkpcgddaaZHazardFinds18
set_option maxHeartbeats 4000000
set_option maxRecDepth 20000
set_option linter.all false
namespace Go.Proofs.Ytmcddolkpcgddaa
open Go.ChangeShapes Go.WideShapes Go.ChangeAt Go.RowKit
theorem q04 (m:Md) (p:Pr) (v V:Value) (i:In) (w:World) (h:LkV w v m p) (hi:InV w V i) :
  Calls Try.prog 106 #[v,V] w fun e w'=>e=.returned (.bool (okI m p i))∧Below w.heap.size w w':=by
 have ER:Hid (∀ r s w',Ext w w'→Calls Try.prog 125 #[v,.int .i64 r,.bool s] w' fun e w''=>e=.returned (.bool (qby p r s))∧Below w'.heap.size w' w''):=fun r s w' he=>qzj m p v r s w' (h.ext he)
 have EB:Hid (∀ w',Ext w w'→Calls Try.prog 123 #[V] w' fun e w''=>e=.returned (.bool (qem i))∧Below w'.heap.size w' w''):=fun w' he=>q1g i V w' (hi.ext he)
 have EC:Hid (∀ w',Ext w w'→Calls Try.prog 124 #[v,V] w' fun e w''=>e=.returned (.bool (qd0 m p i))∧Below w'.heap.size w' w''):=fun w' he=>q0z m p v V i w' (h.ext he) (hi.ext he)
 obtain ⟨vg,vd,vp,nm,vo,vb,rfl,⟨ag,cg,rfl, -⟩,⟨ad,cd,rfl, -⟩,⟨ap,cp,rfl, -⟩,⟨ao,co,rfl, -⟩,⟨ab,cb,rfl, -⟩⟩:=h
 obtain ⟨va,rfl,⟨aa,ca,rfl, -⟩⟩:=hi
 obtain ⟨W0,hW0⟩:∃ W0,W0=(w.alloc (.cells #[.slice ag m.globs.length cg,.slice ad m.data.length cd,.slice ap m.procs.length cp,.int .i64 m.main,.string nm,.bool p.void,.int .i64 p.params,.int .i64 p.regs,.slice ao p.objs.length co,.slice ab p.blks.length cb] 146)).alloc (.cells #[.int .i64 i.op,.int .i64 i.d,.int .i64 i.a,.int .i64 i.b,.int .i64 i.fn,.int .i64 i.obj,.int .i64 i.off,.int .i64 i.size,.int .u32 i.num,.slice aa i.args.length ca,.bool i.log] 58):=⟨_,rfl⟩
 have hz0:W0.heap.size=w.heap.size+2:=by rw [hW0];simp
 have HBX:Hid (∀ w',Below W0.heap.size W0 w'→∀ j:Nat,j<10→w'.cell? ⟨w.heap.size,j,none⟩=#[Value.slice ag m.globs.length cg,.slice ad m.data.length cd,.slice ap m.procs.length cp,.int .i64 m.main,.string nm,.bool p.void,.int .i64 p.params,.int .i64 p.regs,.slice ao p.objs.length co,.slice ab p.blks.length cb][j]?):=fun w' hb j _=>by
  rw [hb.cell (p:=⟨w.heap.size,j,none⟩) (by rw [hz0];simp only;omega),hW0,(qaa (w.alloc (.cells #[.slice ag m.globs.length cg,.slice ad m.data.length cd,.slice ap m.procs.length cp,.int .i64 m.main,.string nm,.bool p.void,.int .i64 p.params,.int .i64 p.regs,.slice ao p.objs.length co,.slice ab p.blks.length cb] 146)) _).cell (p:=⟨w.heap.size,j,none⟩) (by simp)]
  exact qab (heap_alloc_new w _) j
 have HBY:Hid (∀ w',Below W0.heap.size W0 w'→∀ j:Nat,j<11→w'.cell? ⟨w.heap.size+1,j,none⟩=#[Value.int .i64 i.op,.int .i64 i.d,.int .i64 i.a,.int .i64 i.b,.int .i64 i.fn,.int .i64 i.obj,.int .i64 i.off,.int .i64 i.size,.int .u32 i.num,.slice aa i.args.length ca,.bool i.log][j]?):=fun w' hb j _=>by
  rw [hb.cell (p:=⟨w.heap.size+1,j,none⟩) (by rw [hz0];simp only;omega),hW0]
  have:=qab (heap_alloc_new (w.alloc (.cells #[.slice ag m.globs.length cg,.slice ad m.data.length cd,.slice ap m.procs.length cp,.int .i64 m.main,.string nm,.bool p.void,.int .i64 p.params,.int .i64 p.regs,.slice ao p.objs.length co,.slice ab p.blks.length cb] 146)) (.cells #[.int .i64 i.op,.int .i64 i.d,.int .i64 i.a,.int .i64 i.b,.int .i64 i.fn,.int .i64 i.obj,.int .i64 i.off,.int .i64 i.size,.int .u32 i.num,.slice aa i.args.length ca,.bool i.log] 58)) j
  simpa using this
 have HE:Hid (∀ w',Below W0.heap.size W0 w'→Ext w w'):=fun w' hb=>(show Ext w W0 by rw [hW0];exact (Ext.alloc w _).trans (Ext.alloc _ _)).trans (Ext.below hb)
 have HR:Hid (∀ w',Below W0.heap.size W0 w'→Below w.heap.size w w'):=fun w' hb=>(show Below w.heap.size w W0 by rw [hW0];exact (qaa w _).alloc (by simp) _).trans (hb.mono (by omega))
 have B0:Hid (Below W0.heap.size W0 W0):=Below.refl _ _
 have hza:W0.heap.size≤w.heap.size+2:=Nat.le_of_eq hz0
 have hzb:w.heap.size+2≤W0.heap.size:=Nat.le_of_eq hz0.symm
 have hl0:w.heap.size<W0.heap.size:=by omega
 have hl1:w.heap.size+1<W0.heap.size:=by omega
 have HW0:=qkm hW0
 clear hW0 hz0
 have HF:Hid (okI m p i=((decide (1≤i.op) && (decide (i.op≤12) && qem i)) && if i.op=9 then qd0 m p i && (qby p i.a false && qby p i.b false) else (qby p i.d (i.op !=6 && (i.op !=10 && i.op !=12)) && (qby p i.a (qdc i.op) && qby p i.b (qdp i.op))) && qeb m p i)):=rfl
 have HM:Hid (qeb m p i=if i.op=3 then decide (1≤i.fn) && decide (i.fn≤16) else if i.op=4 then decide (17≤i.fn) && decide (i.fn≤19) else if i.op=5∨i.op=6 then (i.size ==1 || i.size ==4) && qg9 i.off else if i.op=7 then (decide (0≤i.obj) && decide (i.obj<p.objs.length)) && qg9 i.off else if i.op=8 then (decide (0≤i.obj) && decide (i.obj<m.globs.length)) && qg9 i.off else true):=rfl
 go_enter Try.func106,Try.ntmps106
 go_upto_region 2 with (go_at_call 121;refine (qmi _ _).mono ?_;rintro e w' ⟨rfl,rfl⟩)
 rw [←HW0.out]
 have y0:=HBY.out W0 B0.out 0 (by decide)
 have y1:=HBY.out W0 B0.out 1 (by decide)
 have y2:=HBY.out W0 B0.out 2 (by decide)
 have y3:=HBY.out W0 B0.out 3 (by decide)
 have y4:=HBY.out W0 B0.out 4 (by decide)
 have y5:=HBY.out W0 B0.out 5 (by decide)
 have y6:=HBY.out W0 B0.out 6 (by decide)
 have y7:=HBY.out W0 B0.out 7 (by decide)
 have y8:=HBY.out W0 B0.out 8 (by decide)
 have y9:=HBY.out W0 B0.out 9 (by decide)
 have y10:=HBY.out W0 B0.out 10 (by decide)
 simp at y0 y1 y2 y3 y4 y5 y6 y7 y8 y9 y10
 go_cut [7] from 14 to 26 (fun d wx=>d=.bool (i.op !=6 && (i.op !=10 && i.op !=12))∧W0=wx)
 case first=>
  cases h6:(i.op !=6)
  ·go_wp2_with fail
   go_meet
   case rel=>exact ⟨by rw [h6];rfl,rfl⟩
  ·cases h10:(i.op !=10)
   ·go_wp2_with fail
    go_meet
    case rel=>exact ⟨by rw [h6,h10];rfl,rfl⟩
   ·go_wp2_with fail
    go_meet
    case rel=>exact ⟨by rw [h6,h10];rfl,rfl⟩
 case rest=>
  obtain ⟨rfl,rfl⟩:=hcut
  have H9:Hid (i.op=9→okI m p i=((decide (1≤i.op) && (decide (i.op≤12) && qem i)) && (qd0 m p i && (qby p i.a false && qby p i.b false)))):=fun h=>by rw [HF.out,if_pos h]
  have H8:Hid (i.op≠9→okI m p i=((decide (1≤i.op) && (decide (i.op≤12) && qem i)) && ((qby p i.d (i.op !=6 && (i.op !=10 && i.op !=12)) && (qby p i.a (qdc i.op) && qby p i.b (qdp i.op))) && qeb m p i))):=fun h=>by rw [HF.out,if_neg h]
  have ER1:=qkm (ER.out i.d (i.op !=6 && (i.op !=10 && i.op !=12)))
  generalize hdd:(i.op !=6 && (i.op !=10 && i.op !=12))=dd at H8 ER1
  clear hdd
  by_cases l1:1≤i.op
  ·have e1:decide (i.op<1)=false:=qko (by omega)
   by_cases l2:i.op≤12
   ·have e2:decide (12<i.op)=false:=qko (by omega)
    have d1:decide (1≤i.op)=true:=qkn l1
    have d2:decide (i.op≤12)=true:=qkn l2
    rw [d1,d2,Bool.true_and,Bool.true_and] at H9 H8
    clear d1 d2 HF
    go_wp2_with fail
    refine (EB.out W0 (HE.out _ B0.out)).mono ?_
    rintro e w1 ⟨rfl,hb1⟩
    have B1:Hid (Below W0.heap.size W0 w1):=B0.out.trans (hb1.mono B0.out.size)
    clear hb1
    clear y0 y1 y2 y3 y4 y5 y6 y7 y8 y9 y10
    have x0:=HBX.out w1 B1.out 0 (by decide)
    have x1:=HBX.out w1 B1.out 1 (by decide)
    have x2:=HBX.out w1 B1.out 2 (by decide)
    have x3:=HBX.out w1 B1.out 3 (by decide)
    have x4:=HBX.out w1 B1.out 4 (by decide)
    have x5:=HBX.out w1 B1.out 5 (by decide)
    have x6:=HBX.out w1 B1.out 6 (by decide)
    have x7:=HBX.out w1 B1.out 7 (by decide)
    have x8:=HBX.out w1 B1.out 8 (by decide)
    have x9:=HBX.out w1 B1.out 9 (by decide)
    simp at x0 x1 x2 x3 x4 x5 x6 x7 x8 x9
    have y0:=HBY.out w1 B1.out 0 (by decide)
    have y1:=HBY.out w1 B1.out 1 (by decide)
    have y2:=HBY.out w1 B1.out 2 (by decide)
    have y3:=HBY.out w1 B1.out 3 (by decide)
    have y4:=HBY.out w1 B1.out 4 (by decide)
    have y5:=HBY.out w1 B1.out 5 (by decide)
    have y6:=HBY.out w1 B1.out 6 (by decide)
    have y7:=HBY.out w1 B1.out 7 (by decide)
    have y8:=HBY.out w1 B1.out 8 (by decide)
    have y9:=HBY.out w1 B1.out 9 (by decide)
    have y10:=HBY.out w1 B1.out 10 (by decide)
    simp at y0 y1 y2 y3 y4 y5 y6 y7 y8 y9 y10
    cases hb:qem i
    ·have HV:Hid (okI m p i=false):=by
      show _=_
      by_cases h:i.op=9
      ·rw [H9.out h,hb];rfl
      ·rw [H8.out h,hb];rfl
     go_wp2_with fail
     go_ret
     exact ⟨qah HV.out.symm,HR.out _ B1.out⟩
    ·rw [hb,Bool.true_and] at H9 H8
     clear hb EB
     by_cases h9:i.op=9
     ·have HF9:=qkm (H9.out h9)
      have g9:(i.op ==9)=true:=beq_iff_eq.2 h9
      clear H9 H8 h9 HM ER1
      go_wp2_with fail
      refine (EC.out w1 (HE.out _ B1.out)).mono ?_
      rintro e w2 ⟨rfl,hb2⟩
      have B2:Hid (Below W0.heap.size W0 w2):=B1.out.trans (hb2.mono B1.out.size)
      clear hb2
      clear x0 x1 x2 x3 x4 x5 x6 x7 x8 x9
      clear y0 y1 y2 y3 y4 y5 y6 y7 y8 y9 y10
      have x0:=HBX.out w2 B2.out 0 (by decide)
      have x1:=HBX.out w2 B2.out 1 (by decide)
      have x2:=HBX.out w2 B2.out 2 (by decide)
      have x3:=HBX.out w2 B2.out 3 (by decide)
      have x4:=HBX.out w2 B2.out 4 (by decide)
      have x5:=HBX.out w2 B2.out 5 (by decide)
      have x6:=HBX.out w2 B2.out 6 (by decide)
      have x7:=HBX.out w2 B2.out 7 (by decide)
      have x8:=HBX.out w2 B2.out 8 (by decide)
      have x9:=HBX.out w2 B2.out 9 (by decide)
      simp at x0 x1 x2 x3 x4 x5 x6 x7 x8 x9
      have y0:=HBY.out w2 B2.out 0 (by decide)
      have y1:=HBY.out w2 B2.out 1 (by decide)
      have y2:=HBY.out w2 B2.out 2 (by decide)
      have y3:=HBY.out w2 B2.out 3 (by decide)
      have y4:=HBY.out w2 B2.out 4 (by decide)
      have y5:=HBY.out w2 B2.out 5 (by decide)
      have y6:=HBY.out w2 B2.out 6 (by decide)
      have y7:=HBY.out w2 B2.out 7 (by decide)
      have y8:=HBY.out w2 B2.out 8 (by decide)
      have y9:=HBY.out w2 B2.out 9 (by decide)
      have y10:=HBY.out w2 B2.out 10 (by decide)
      simp at y0 y1 y2 y3 y4 y5 y6 y7 y8 y9 y10
      cases hc:qd0 m p i
      ·have HV:Hid (okI m p i=false):=by show _=_;rw [HF9.out,hc];rfl
       go_wp2_with fail
       go_ret
       exact ⟨qah HV.out.symm,HR.out _ B2.out⟩
      ·go_wp2_with fail
       refine (ER.out _ _ w2 (HE.out _ B2.out)).mono ?_
       rintro e w3 ⟨rfl,hb3⟩
       have B3:Hid (Below W0.heap.size W0 w3):=B2.out.trans (hb3.mono B2.out.size)
       clear hb3
       clear x0 x1 x2 x3 x4 x5 x6 x7 x8 x9
       clear y0 y1 y2 y3 y4 y5 y6 y7 y8 y9 y10
       have x0:=HBX.out w3 B3.out 0 (by decide)
       have x1:=HBX.out w3 B3.out 1 (by decide)
       have x2:=HBX.out w3 B3.out 2 (by decide)
       have x3:=HBX.out w3 B3.out 3 (by decide)
       have x4:=HBX.out w3 B3.out 4 (by decide)
       have x5:=HBX.out w3 B3.out 5 (by decide)
       have x6:=HBX.out w3 B3.out 6 (by decide)
       have x7:=HBX.out w3 B3.out 7 (by decide)
       have x8:=HBX.out w3 B3.out 8 (by decide)
       have x9:=HBX.out w3 B3.out 9 (by decide)
       simp at x0 x1 x2 x3 x4 x5 x6 x7 x8 x9
       have y0:=HBY.out w3 B3.out 0 (by decide)
       have y1:=HBY.out w3 B3.out 1 (by decide)
       have y2:=HBY.out w3 B3.out 2 (by decide)
       have y3:=HBY.out w3 B3.out 3 (by decide)
       have y4:=HBY.out w3 B3.out 4 (by decide)
       have y5:=HBY.out w3 B3.out 5 (by decide)
       have y6:=HBY.out w3 B3.out 6 (by decide)
       have y7:=HBY.out w3 B3.out 7 (by decide)
       have y8:=HBY.out w3 B3.out 8 (by decide)
       have y9:=HBY.out w3 B3.out 9 (by decide)
       have y10:=HBY.out w3 B3.out 10 (by decide)
       simp at y0 y1 y2 y3 y4 y5 y6 y7 y8 y9 y10
       cases hr:qby p i.a false
       ·have HV:Hid (okI m p i=false):=by show _=_;rw [HF9.out,hc,hr];rfl
        go_wp2_with fail
        go_ret
        exact ⟨qah HV.out.symm,HR.out _ B3.out⟩
       ·have HV:Hid (okI m p i=qby p i.b false):=by show _=_;rw [HF9.out,hc,hr];rfl
        go_wp2_with fail
        refine (ER.out _ _ w3 (HE.out _ B3.out)).mono ?_
        rintro e w4 ⟨rfl,hb4⟩
        have B4:Hid (Below W0.heap.size W0 w4):=B3.out.trans (hb4.mono B3.out.size)
        clear hb4
        go_wp2_with fail
        go_ret
        exact ⟨qah HV.out.symm,HR.out _ B4.out⟩
     ·have HF8:=qkm (H8.out h9)
      have g9:(i.op ==9)=false:=beq_eq_false_iff_ne.2 h9
      clear H9 H8 EC
      go_wp2_with fail
      refine (ER1.out w1 (HE.out _ B1.out)).mono ?_
      rintro e w2 ⟨rfl,hb2⟩
      have B2:Hid (Below W0.heap.size W0 w2):=B1.out.trans (hb2.mono B1.out.size)
      clear hb2
      clear x0 x1 x2 x3 x4 x5 x6 x7 x8 x9
      clear y0 y1 y2 y3 y4 y5 y6 y7 y8 y9 y10
      have x0:=HBX.out w2 B2.out 0 (by decide)
      have x1:=HBX.out w2 B2.out 1 (by decide)
      have x2:=HBX.out w2 B2.out 2 (by decide)
      have x3:=HBX.out w2 B2.out 3 (by decide)
      have x4:=HBX.out w2 B2.out 4 (by decide)
      have x5:=HBX.out w2 B2.out 5 (by decide)
      have x6:=HBX.out w2 B2.out 6 (by decide)
      have x7:=HBX.out w2 B2.out 7 (by decide)
      have x8:=HBX.out w2 B2.out 8 (by decide)
      have x9:=HBX.out w2 B2.out 9 (by decide)
      simp at x0 x1 x2 x3 x4 x5 x6 x7 x8 x9
      have y0:=HBY.out w2 B2.out 0 (by decide)
      have y1:=HBY.out w2 B2.out 1 (by decide)
      have y2:=HBY.out w2 B2.out 2 (by decide)
      have y3:=HBY.out w2 B2.out 3 (by decide)
      have y4:=HBY.out w2 B2.out 4 (by decide)
      have y5:=HBY.out w2 B2.out 5 (by decide)
      have y6:=HBY.out w2 B2.out 6 (by decide)
      have y7:=HBY.out w2 B2.out 7 (by decide)
      have y8:=HBY.out w2 B2.out 8 (by decide)
      have y9:=HBY.out w2 B2.out 9 (by decide)
      have y10:=HBY.out w2 B2.out 10 (by decide)
      simp at y0 y1 y2 y3 y4 y5 y6 y7 y8 y9 y10
      cases hr:qby p i.d dd
      ·have HV:Hid (okI m p i=false):=by show _=_;rw [HF8.out,hr];rfl
       go_wp2_with fail
       go_ret
       exact ⟨qah HV.out.symm,HR.out _ B2.out⟩
      ·rw [hr,Bool.true_and] at HF8
       clear hr
       go_wp2_with fail
       refine (ER.out _ _ w2 (HE.out _ B2.out)).mono ?_
       rintro e w3 ⟨rfl,hb3⟩
       have B3:Hid (Below W0.heap.size W0 w3):=B2.out.trans (hb3.mono B2.out.size)
       clear hb3
       clear x0 x1 x2 x3 x4 x5 x6 x7 x8 x9
       clear y0 y1 y2 y3 y4 y5 y6 y7 y8 y9 y10
       have x0:=HBX.out w3 B3.out 0 (by decide)
       have x1:=HBX.out w3 B3.out 1 (by decide)
       have x2:=HBX.out w3 B3.out 2 (by decide)
       have x3:=HBX.out w3 B3.out 3 (by decide)
       have x4:=HBX.out w3 B3.out 4 (by decide)
       have x5:=HBX.out w3 B3.out 5 (by decide)
       have x6:=HBX.out w3 B3.out 6 (by decide)
       have x7:=HBX.out w3 B3.out 7 (by decide)
       have x8:=HBX.out w3 B3.out 8 (by decide)
       have x9:=HBX.out w3 B3.out 9 (by decide)
       simp at x0 x1 x2 x3 x4 x5 x6 x7 x8 x9
       have y0:=HBY.out w3 B3.out 0 (by decide)
       have y1:=HBY.out w3 B3.out 1 (by decide)
       have y2:=HBY.out w3 B3.out 2 (by decide)
       have y3:=HBY.out w3 B3.out 3 (by decide)
       have y4:=HBY.out w3 B3.out 4 (by decide)
       have y5:=HBY.out w3 B3.out 5 (by decide)
       have y6:=HBY.out w3 B3.out 6 (by decide)
       have y7:=HBY.out w3 B3.out 7 (by decide)
       have y8:=HBY.out w3 B3.out 8 (by decide)
       have y9:=HBY.out w3 B3.out 9 (by decide)
       have y10:=HBY.out w3 B3.out 10 (by decide)
       simp at y0 y1 y2 y3 y4 y5 y6 y7 y8 y9 y10
       cases hr:qby p i.a (qdc i.op)
       ·have HV:Hid (okI m p i=false):=by show _=_;rw [HF8.out,hr];rfl
        go_wp2_with fail
        go_ret
        exact ⟨qah HV.out.symm,HR.out _ B3.out⟩
       ·rw [hr,Bool.true_and] at HF8
        clear hr
        go_wp2_with fail
        refine (ER.out _ _ w3 (HE.out _ B3.out)).mono ?_
        rintro e w4 ⟨rfl,hb4⟩
        have B4:Hid (Below W0.heap.size W0 w4):=B3.out.trans (hb4.mono B3.out.size)
        clear hb4
        clear x0 x1 x2 x3 x4 x5 x6 x7 x8 x9
        clear y0 y1 y2 y3 y4 y5 y6 y7 y8 y9 y10
        have x0:=HBX.out w4 B4.out 0 (by decide)
        have x1:=HBX.out w4 B4.out 1 (by decide)
        have x2:=HBX.out w4 B4.out 2 (by decide)
        have x3:=HBX.out w4 B4.out 3 (by decide)
        have x4:=HBX.out w4 B4.out 4 (by decide)
        have x5:=HBX.out w4 B4.out 5 (by decide)
        have x6:=HBX.out w4 B4.out 6 (by decide)
        have x7:=HBX.out w4 B4.out 7 (by decide)
        have x8:=HBX.out w4 B4.out 8 (by decide)
        have x9:=HBX.out w4 B4.out 9 (by decide)
        simp at x0 x1 x2 x3 x4 x5 x6 x7 x8 x9
        have y0:=HBY.out w4 B4.out 0 (by decide)
        have y1:=HBY.out w4 B4.out 1 (by decide)
        have y2:=HBY.out w4 B4.out 2 (by decide)
        have y3:=HBY.out w4 B4.out 3 (by decide)
        have y4:=HBY.out w4 B4.out 4 (by decide)
        have y5:=HBY.out w4 B4.out 5 (by decide)
        have y6:=HBY.out w4 B4.out 6 (by decide)
        have y7:=HBY.out w4 B4.out 7 (by decide)
        have y8:=HBY.out w4 B4.out 8 (by decide)
        have y9:=HBY.out w4 B4.out 9 (by decide)
        have y10:=HBY.out w4 B4.out 10 (by decide)
        simp at y0 y1 y2 y3 y4 y5 y6 y7 y8 y9 y10
        cases hr:qby p i.b (qdp i.op)
        ·have HV:Hid (okI m p i=false):=by show _=_;rw [HF8.out,hr];rfl
         go_wp2_with fail
         go_ret
         exact ⟨qah HV.out.symm,HR.out _ B4.out⟩
        ·have HV:Hid (okI m p i=qeb m p i):=by show _=_;rw [HF8.out,hr];rfl
         clear hr HF8
         go_upto_region 9 with (fail)
         by_cases h3:i.op=3
         ·have g3:(i.op ==3)=true:=beq_iff_eq.2 h3
          have HV2:Hid (okI m p i=(decide (1≤i.fn) && decide (i.fn≤16))):=by show _=_;rw [HV.out,HM.out,if_pos h3]
          clear h3 h9 HM HV
          by_cases hf:1≤i.fn
          ·have ef:decide (1≤i.fn)=true:=qkn hf
           have HV:Hid (okI m p i=decide (i.fn≤16)):=by show _=_;rw [HV2.out,ef];rfl
           go_wp2_with fail
           go_ret
           exact ⟨qah HV.out.symm,HR.out _ B4.out⟩
          ·have ef:decide (1≤i.fn)=false:=qko hf
           have HV:Hid (okI m p i=false):=by show _=_;rw [HV2.out,ef];rfl
           go_wp2_with fail
           go_ret
           exact ⟨qah HV.out.symm,HR.out _ B4.out⟩
         ·have g3:(i.op ==3)=false:=beq_eq_false_iff_ne.2 h3
          rw [if_neg h3] at HM
          by_cases h4:i.op=4
          ·have g4:(i.op ==4)=true:=beq_iff_eq.2 h4
           have HV2:Hid (okI m p i=(decide (17≤i.fn) && decide (i.fn≤19))):=by show _=_;rw [HV.out,HM.out,if_pos h4]
           clear h3 h4 h9 HM HV
           by_cases hf:17≤i.fn
           ·have ef:decide (17≤i.fn)=true:=qkn hf
            have HV:Hid (okI m p i=decide (i.fn≤19)):=by show _=_;rw [HV2.out,ef];rfl
            go_wp2_with fail
            go_ret
            exact ⟨qah HV.out.symm,HR.out _ B4.out⟩
           ·have ef:decide (17≤i.fn)=false:=qko hf
            have HV:Hid (okI m p i=false):=by show _=_;rw [HV2.out,ef];rfl
            go_wp2_with fail
            go_ret
            exact ⟨qah HV.out.symm,HR.out _ B4.out⟩
          ·have g4:(i.op ==4)=false:=beq_eq_false_iff_ne.2 h4
           rw [if_neg h4] at HM
           by_cases h56:i.op=5∨i.op=6
           ·have HV2:Hid (okI m p i=((i.size ==1 || i.size ==4) && qg9 i.off)):=by show _=_;rw [HV.out,HM.out,if_pos h56]
            have g56:(i.op ==5)=true∨((i.op ==5)=false∧(i.op ==6)=true):=by
             rcases h56 with h|h
             ·exact .inl (beq_iff_eq.2 h)
             ·exact .inr ⟨beq_eq_false_iff_ne.2 (by omega),beq_iff_eq.2 h⟩
            clear h3 h4 h56 h9 HM HV
            have g56:=qkm g56
            cases hs:(i.size ==1)
            ·cases hs4:(i.size ==4)
             ·have HV:Hid (okI m p i=false):=by show _=_;rw [HV2.out,hs,hs4];rfl
              rcases g56.out with g5|⟨g5,g6⟩
              ·go_wp2_with fail
               go_ret
               exact ⟨qah HV.out.symm,HR.out _ B4.out⟩
              ·go_wp2_with fail
               go_ret
               exact ⟨qah HV.out.symm,HR.out _ B4.out⟩
             ·have HV:Hid (okI m p i=qg9 i.off):=by show _=_;rw [HV2.out,hs,hs4];rfl
              rcases g56.out with g5|⟨g5,g6⟩
              ·go_wp2_with (go_at_call 126;refine (qp6 _ _).mono ?_;rintro e w' ⟨rfl,rfl⟩)
               go_ret
               exact ⟨qah HV.out.symm,HR.out _ B4.out⟩
              ·go_wp2_with (go_at_call 126;refine (qp6 _ _).mono ?_;rintro e w' ⟨rfl,rfl⟩)
               go_ret
               exact ⟨qah HV.out.symm,HR.out _ B4.out⟩
            ·have HV:Hid (okI m p i=qg9 i.off):=by show _=_;rw [HV2.out,hs];rfl
             rcases g56.out with g5|⟨g5,g6⟩
             ·go_wp2_with (go_at_call 126;refine (qp6 _ _).mono ?_;rintro e w' ⟨rfl,rfl⟩)
              go_ret
              exact ⟨qah HV.out.symm,HR.out _ B4.out⟩
             ·go_wp2_with (go_at_call 126;refine (qp6 _ _).mono ?_;rintro e w' ⟨rfl,rfl⟩)
              go_ret
              exact ⟨qah HV.out.symm,HR.out _ B4.out⟩
           ·have g5:(i.op ==5)=false:=beq_eq_false_iff_ne.2 (fun h=>h56 (.inl h))
            have g6:(i.op ==6)=false:=beq_eq_false_iff_ne.2 (fun h=>h56 (.inr h))
            rw [if_neg h56] at HM
            by_cases h7:i.op=7
            ·have g7:(i.op ==7)=true:=beq_iff_eq.2 h7
             have HV2:Hid (okI m p i=((decide (0≤i.obj) && decide (i.obj<p.objs.length)) && qg9 i.off)):=by show _=_;rw [HV.out,HM.out,if_pos h7]
             clear h3 h4 h56 h7 h9 HM HV
             by_cases hl:0≤i.obj
             ·have el:decide (0≤i.obj)=true:=qkn hl
              by_cases hu:i.obj<(p.objs.length:Int)
              ·have eu:decide (i.obj<(p.objs.length:Int))=true:=qkn hu
               have HV:Hid (okI m p i=qg9 i.off):=by show _=_;rw [HV2.out,el,eu];rfl
               go_wp2_with (go_at_call 126;refine (qp6 _ _).mono ?_;rintro e w' ⟨rfl,rfl⟩)
               go_ret
               exact ⟨qah HV.out.symm,HR.out _ B4.out⟩
              ·have eu:decide (i.obj<(p.objs.length:Int))=false:=qko hu
               have HV:Hid (okI m p i=false):=by show _=_;rw [HV2.out,el,eu];rfl
               go_wp2_with fail
               go_ret
               exact ⟨qah HV.out.symm,HR.out _ B4.out⟩
             ·have el:decide (0≤i.obj)=false:=qko hl
              have HV:Hid (okI m p i=false):=by show _=_;rw [HV2.out,el];rfl
              go_wp2_with fail
              go_ret
              exact ⟨qah HV.out.symm,HR.out _ B4.out⟩
            ·have g7:(i.op ==7)=false:=beq_eq_false_iff_ne.2 h7
             rw [if_neg h7] at HM
             by_cases h8:i.op=8
             ·have g8:(i.op ==8)=true:=beq_iff_eq.2 h8
              have HV2:Hid (okI m p i=((decide (0≤i.obj) && decide (i.obj<m.globs.length)) && qg9 i.off)):=by show _=_;rw [HV.out,HM.out,if_pos h8]
              clear h3 h4 h56 h7 h8 h9 HM HV
              by_cases hl:0≤i.obj
              ·have el:decide (0≤i.obj)=true:=qkn hl
               by_cases hu:i.obj<(m.globs.length:Int)
               ·have eu:decide (i.obj<(m.globs.length:Int))=true:=qkn hu
                have HV:Hid (okI m p i=qg9 i.off):=by show _=_;rw [HV2.out,el,eu];rfl
                go_wp2_with (go_at_call 126;refine (qp6 _ _).mono ?_;rintro e w' ⟨rfl,rfl⟩)
                go_ret
                exact ⟨qah HV.out.symm,HR.out _ B4.out⟩
               ·have eu:decide (i.obj<(m.globs.length:Int))=false:=qko hu
                have HV:Hid (okI m p i=false):=by show _=_;rw [HV2.out,el,eu];rfl
                go_wp2_with fail
                go_ret
                exact ⟨qah HV.out.symm,HR.out _ B4.out⟩
              ·have el:decide (0≤i.obj)=false:=qko hl
               have HV:Hid (okI m p i=false):=by show _=_;rw [HV2.out,el];rfl
               go_wp2_with fail
               go_ret
               exact ⟨qah HV.out.symm,HR.out _ B4.out⟩
             ·have g8:(i.op ==8)=false:=beq_eq_false_iff_ne.2 h8
              rw [if_neg h8] at HM
              have HV2:Hid (okI m p i=true):=HV.out.trans HM.out
              clear h3 h4 h56 h7 h8 h9 HM
              go_wp2_with fail
              go_ret
              exact ⟨qah HV2.out.symm,HR.out _ B4.out⟩
   ·have HV:Hid (okI m p i=false):=by
     show _=_
     rw [HF.out,qko l2]
     simp
    have e2:decide (12<i.op)=true:=qkn (by omega)
    go_wp2_with fail
    go_ret
    exact ⟨qah HV.out.symm,HR.out _ B0.out⟩
  ·have HV:Hid (okI m p i=false):=by
    show _=_
    rw [HF.out,qko l1]
    simp
   have e1:decide (i.op<1)=true:=qkn (by omega)
   go_wp2_with fail
   go_ret
   exact ⟨qah HV.out.symm,HR.out _ B0.out⟩
end Go.Proofs.Ytmcddolkpcgddaa
