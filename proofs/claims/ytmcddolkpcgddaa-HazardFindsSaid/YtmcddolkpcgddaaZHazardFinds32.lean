/-
alias: spread of any instruction; what holds of a procedure's numbers.
-/
import Derived.Test.YtmcddolkpcgddaaZHazardFinds31
set_option maxHeartbeats 4000000
set_option maxRecDepth 100000
set_option linter.all false
namespace Go.Proofs.Ytmcddolkpcgddaa
open Go.ChangeShapes Go.WideShapes Go.ChangeAt Go.RowKit
section
def qel (o:Nat) (sp:List Sp) (i:In):List Sp:=if qbn i= -1 then sp else sp.set (qbn i).toNat (spI o (sp.getD (qbn i).toNat default) i)
theorem q0t (w0:World) (k:VwK) (x:AS) (sp:List Sp) (i:In) (va:Value) (w:World) (h:VwM w0 w k x sp) (hol:k.p.objs.length≤1000) (hi:0≤i.obj∧i.obj≤100000) (ho:I64 i.off) (hd:qbn i≠ -1→0≤qbn i∧(qbn i).toNat<k.N)
  (hs:∀ r,0≤(sp.getD r default).sets∧(sp.getD r default).sets≤1000000) :
  Calls Try.prog 65 #[.pointer (some ⟨k.bv,0,none⟩),qbu i va] w fun e w'=>e=.returned (.bool false)∧VwM w0 w' k x (qel k.p.objs.length sp i)∧KpW k w w':=by
 have ED:=qkm (fun w'=>q01 i va w')
 have ET:=qkm (fun w' sp' (hv:VwM w0 w' k x sp')=>qnc w0 k x sp' i va w' hv hol hi)
 have H:=qkm h
 have hlv:=h.lv
 have l1:=h.lv
 unfold qbu at ED ET ⊢
 by_cases hn:qbn i= -1
 ·have g1:(qbn i != -1)=false:=by simpa using hn
  have HF:Hid (qel k.p.objs.length sp i=sp):=if_pos hn
  rw [HF.out]
  clear h hd hn HF ET
  generalize qbn i=d at *
  go_enter Try.func65,Try.ntmps65
  go_wp2_with fail
  refine (ED.out _).mono ?_
  rintro e w2 ⟨rfl,hb2⟩
  go_wp2_with fail
  go_ret
  have hb:=(qaa w _).trans (hb2.mono (qaa w _).size)
  exact ⟨rfl,H.out.grow hb,KpW.of_below hb⟩
 ·have g1:(qbn i != -1)=true:=by simpa using hn
  obtain ⟨hd0,hd1⟩:=hd hn
  obtain ⟨r,hr⟩:∃ r:Nat,qbn i=(r:Int):=⟨(qbn i).toNat,by omega⟩
  have HF:Hid (qel k.p.objs.length sp i=sp.set r (spI k.p.objs.length (sp.getD r default) i)):=by
   show _=_
   unfold qel;rw [if_neg hn,hr];rfl
  rw [HF.out]
  rw [hr] at g1 ED hd1
  have hd1:r<k.N:=hd1
  obtain ⟨g,c,hvS,hc1,hc2,hgl,hfz,hcs⟩:=h.sat hd1
  have c9:w.cell? ⟨k.bv,9,none⟩=some (.slice (some ⟨g,0,none⟩) k.N c):=by rw [qab h.hv 9,←hvS];rfl
  have HC:=qkm hcs
  have HFZ:=qkm hfz
  obtain ⟨s1,s2⟩:=hs r
  have HVS:=qkm hvS
  have HNV:=qkm (show g≠k.bv from fun e=>by
   have:=ne_row h.spo h.hv (by decide)
   rw [hvS,e] at this
   exact this rfl)
  unfold maxLen at hc2
  clear hd hs hd0 hn hr hcs hfz h HF hvS
  have gr1:decide (r<k.N)=true:=qkn hd1
  have gr2:decide ((r:Int)<(k.N:Int))=true:=qkn (by omega)
  have x0:=HC.out 0 (by decide)
  have x1:=HC.out 1 (by decide)
  have x2:=HC.out 2 (by decide)
  have x3:=HC.out 3 (by decide)
  have f0:=HFZ.out (r*4)
  have f1:=HFZ.out (r*4+1)
  have f2:=HFZ.out (r*4+2)
  have f3:=HFZ.out (r*4+3)
  simp only [qbo,qke,qkd,Nat.add_zero] at x0 x1 x2 x3
  have x0:w.cell? ⟨g,r*4,none⟩=_:=x0
  generalize hS:sp.getD r default=S at *
  go_enter Try.func65,Try.ntmps65
  go_wp2_with fail
  refine (ED.out _).mono ?_
  rintro e w2 ⟨rfl,hb2⟩
  have hbx:=(qaa w (.cells #[.int .i64 i.op,.int .i64 i.d,.int .i64 i.a,.int .i64 i.b,.int .i64 i.fn,.int .i64 i.obj,.int .i64 i.off,.int .i64 i.size,.int .u32 i.num,va,.bool i.log] 58))
  have HBX:Hid (w2.heap[w.heap.size]?=some (.cells #[.int .i64 i.op,.int .i64 i.d,.int .i64 i.a,.int .i64 i.b,.int .i64 i.fn,.int .i64 i.obj,.int .i64 i.off,.int .i64 i.size,.int .u32 i.num,va,.bool i.log] 58 (0,0))):=(hb2.block w.heap.size (by simp)).trans (heap_alloc_new w _)
  have B2:=qkm (hbx.trans (hb2.mono hbx.size))
  clear hbx hb2
  have HE:=qkm (Ext.below B2.out)
  replace x0:=HE.out _ _ x0
  replace x1:=HE.out _ _ x1
  replace x2:=HE.out _ _ x2
  replace x3:=HE.out _ _ x3
  replace c9:=HE.out _ _ c9
  obtain ⟨b0,b1,b2,b3,b4,b5,b6,b7,b8,b9,b10,lb⟩:=qau HBX.out
  have fz:∀ o,w2.frozen? ⟨g,o,none⟩=false:=fun o=>(Below.frozen B2.out hgl).trans (HFZ.out o)
  have f0:=fz (r*4)
  have f1:=fz (r*4+1)
  have f2:=fz (r*4+2)
  have f3:=fz (r*4+3)
  clear fz
  obtain ⟨V1,K1⟩:=(H.out.grow B2.out).setSp HVS.out hd1 (j:=2) (by decide) (s:=⟨S.thing,S.off,S.sets+1,S.is⟩) (v:=.int .i64 (S.sets+1)) (by rw [hS];rfl)
  have hsl:=H.out.sl
  have hg1:∀ s:Sp,(sp.set r s).getD r default=s:=fun s=>by simp [List.getD,hsl,hd1]
  have KB:=KpW.of_below (k:=k) B2.out
  by_cases h78:i.op=7∨i.op=8
  ·obtain ⟨V2,K2⟩:=V1.setSp HVS.out hd1 (j:=3) (by decide) (s:=⟨S.thing,S.off,S.sets+1,true⟩) (v:=.bool true) (by rw [hg1];rfl)
   rw [List.set_set] at V2
   have V2:=qkm V2
   have K2:=qkm ((KB.trans K1).trans K2)
   clear V1 K1 KB
   obtain ⟨T,hT⟩:∃ T:Int,(if i.op=8 then (k.p.objs.length:Int)+i.obj else i.obj)=T:=⟨_,rfl⟩
   have HSP:Hid (spI k.p.objs.length S i=⟨T,i.off,S.sets+1,true⟩):=by
    show _=_
    unfold spI
    by_cases h7:i.op=7
    ·rw [if_pos h7,←hT,if_neg (by omega)]
    ·rw [if_neg h7,if_pos (by omega),←hT,if_pos (by omega)]
   rw [hT] at ET
   clear hT
   have hn2:g≠w.heap.size:=by omega
   rcases h78 with h7|h8
   ·have g7:(i.op ==7)=true:=by rw [h7];rfl
    clear h7
    go_upto_region 7 with (fail)
    obtain ⟨W2,hW2⟩:∃ W2,W2=(w2.setCell ⟨g,r*4+2,none⟩ (.int .i64 (S.sets+1))).setCell ⟨g,r*4+3,none⟩ (.bool true):=⟨_,rfl⟩
    rw [←hW2] at V2 K2 ⊢
    have HB3:Hid (W2.heap[w.heap.size]?=some (.cells #[.int .i64 i.op,.int .i64 i.d,.int .i64 i.a,.int .i64 i.b,.int .i64 i.fn,.int .i64 i.obj,.int .i64 i.off,.int .i64 i.size,.int .u32 i.num,va,.bool i.log] 58 (0,0))):=by
     rw [hW2]
     exact (heap_setCell_other _ ⟨g,r*4+3,none⟩ _ _ (Ne.symm hn2)).trans ((heap_setCell_other _ ⟨g,r*4+2,none⟩ _ _ (Ne.symm hn2)).trans HBX.out)
    clear hW2 b0 b1 b2 b3 b4 b5 b6 b7 b8 b9 b10 lb x0 x1 x2 x3 f0 f1 f2 f3 c9
    refine qae (fun b=>b=w.heap.size) (by kernel_rfl) ?_
    obtain ⟨W3,hW3⟩:∃ W3,W3=W2.drew:=⟨_,rfl⟩
    have hb5:Below W2.heap.size W2 W3:=by rw [hW3];exact (Below.refl _ _).drew
    first|rw [←hW3]|rw [show (⟨W2.heap,W2.tape,W2.drawn+1,W2.os,W2.output⟩:World)=W3 from hW3.symm]
    have V2:=qkm (V2.out.grow hb5)
    have K2:=qkm (K2.out.trans (KpW.of_below hb5))
    have HB3:Hid (W3.heap[w.heap.size]?=_):=(hb5.block _ (qkp HB3.out).1).trans HB3.out
    clear hW3 hb5
    obtain ⟨b0,b1,b2,b3,b4,b5,b6,b7,b8,b9,b10,lb⟩:=qau HB3.out
    refine qaf [0,1,2,3,5,6] _ _ _ _ (by kernel_rfl) ?_
    simp only [qka,qkb,qkc,qkd,qke,qkf,qkg,qkh,qki,Nat.reduceAdd,Nat.reduceSub]
    repeat (go_big_quiet_step (fail))
    refine wpQuiet_nil ?_
    refine qag 4 _ rfl (by kernel_rfl) ?_
    simp only [qkj,qkk,qkl]
    go_wp2_with fail
    refine (ET.out W3 _ V2.out).mono ?_
    rintro e w3 ⟨rfl,hb3⟩
    go_wp2_with fail
    refine ⟨qdx hb3 (fun b hb=>by rw [hb];exact lb),?_⟩
    have V3:=qkm (V2.out.grow hb3)
    have K3:=qkm (K2.out.trans (KpW.of_below hb3))
    have l3:=Nat.lt_of_lt_of_le lb hb3.size
    clear hb3 V2 K2 b0 b1 b2 b3 b4 b5 b6 b7 b8 b9 b10
    obtain ⟨g',c',hvS', -, -,hgl',hfz',hcs'⟩:=V3.out.sat hd1
    rw [HVS.out] at hvS'
    simp only [Value.slice.injEq,Option.some.injEq,Addr.mk.injEq,and_true,true_and] at hvS'
    obtain ⟨rfl,rfl⟩:=hvS'
    have q0:=hcs' 0 (by decide)
    have q1:=hcs' 1 (by decide)
    have q2:=hcs' 2 (by decide)
    have q3:=hcs' 3 (by decide)
    rw [hg1] at q0 q1 q2 q3
    simp only [qbo,qke,qkd,Nat.add_zero] at q0 q1 q2 q3
    have q0:w3.cell? ⟨g,r*4,none⟩=_:=q0
    have f0:=hfz' (r*4)
    have f1:=hfz' (r*4+1)
    have f2:=hfz' (r*4+2)
    have f3:=hfz' (r*4+3)
    clear hcs' hfz'
    refine qaf [7,8] _ _ _ _ (by kernel_rfl) ?_
    simp only [qka,qkb,qkc,qkd,qke,qkf,qkg,qkh,qki,Nat.reduceAdd,Nat.reduceSub]
    repeat (go_big_quiet_step (fail))
    refine wpQuiet_nil ?_
    refine qag 9 _ rfl (by kernel_rfl) ?_
    simp only [qkj,qkk,qkl]
    go_wp2_with fail
    refine ⟨fun b o hb=>(But.setCell g _ w3 _).cell (by have hb:b=w.heap.size:=hb;rw [hb];exact l3) (fun e=>hn2 (e.symm.trans hb)),?_⟩
    obtain ⟨V4,K4⟩:=V3.out.setSp HVS.out hd1 (j:=0) (by decide) (s:=⟨T,S.off,S.sets+1,true⟩) (v:=.int .i64 T) (by rw [hg1];rfl)
    rw [List.set_set] at V4
    obtain ⟨V5,K5⟩:=V4.setSp HVS.out hd1 (j:=1) (by decide) (s:=⟨T,i.off,S.sets+1,true⟩) (v:=.int .i64 i.off) (by rw [hg1];rfl)
    rw [List.set_set] at V5
    have V5:=qkm V5
    have K5:=qkm ((K3.out.trans K4).trans K5)
    clear V4 K4
    refine qaf [10,11] _ _ _ _ (by kernel_rfl) ?_
    simp only [qka,qkb,qkc,qkd,qke,qkf,qkg,qkh,qki,Nat.reduceAdd,Nat.reduceSub]
    repeat (go_big_quiet_step (fail))
    refine wpQuiet_nil ?_
    refine qbq 12 _ rfl (by kernel_rfl) ?_
    simp only [qkj,qkk,qkl]
    go_wp2_with fail
    refine qao (by kernel_rfl) ?_ _
    go_wp2_with fail
    go_ret
    rw [HSP.out]
    exact ⟨rfl,V5.out,K5.out⟩
   ·have g7:(i.op ==7)=false:=by rw [h8];rfl
    have g8:(i.op ==8)=true:=by rw [h8];rfl
    clear h8
    go_upto_region 7 with (fail)
    obtain ⟨W2,hW2⟩:∃ W2,W2=(w2.setCell ⟨g,r*4+2,none⟩ (.int .i64 (S.sets+1))).setCell ⟨g,r*4+3,none⟩ (.bool true):=⟨_,rfl⟩
    rw [←hW2] at V2 K2 ⊢
    have HB3:Hid (W2.heap[w.heap.size]?=some (.cells #[.int .i64 i.op,.int .i64 i.d,.int .i64 i.a,.int .i64 i.b,.int .i64 i.fn,.int .i64 i.obj,.int .i64 i.off,.int .i64 i.size,.int .u32 i.num,va,.bool i.log] 58 (0,0))):=by
     rw [hW2]
     exact (heap_setCell_other _ ⟨g,r*4+3,none⟩ _ _ (Ne.symm hn2)).trans ((heap_setCell_other _ ⟨g,r*4+2,none⟩ _ _ (Ne.symm hn2)).trans HBX.out)
    clear hW2 b0 b1 b2 b3 b4 b5 b6 b7 b8 b9 b10 lb x0 x1 x2 x3 f0 f1 f2 f3 c9
    refine qae (fun b=>b=w.heap.size) (by kernel_rfl) ?_
    obtain ⟨W3,hW3⟩:∃ W3,W3=W2.drew:=⟨_,rfl⟩
    have hb5:Below W2.heap.size W2 W3:=by rw [hW3];exact (Below.refl _ _).drew
    first|rw [←hW3]|rw [show (⟨W2.heap,W2.tape,W2.drawn+1,W2.os,W2.output⟩:World)=W3 from hW3.symm]
    have V2:=qkm (V2.out.grow hb5)
    have K2:=qkm (K2.out.trans (KpW.of_below hb5))
    have HB3:Hid (W3.heap[w.heap.size]?=_):=(hb5.block _ (qkp HB3.out).1).trans HB3.out
    clear hW3 hb5
    obtain ⟨b0,b1,b2,b3,b4,b5,b6,b7,b8,b9,b10,lb⟩:=qau HB3.out
    refine qaf [0,1,2,3,5,6] _ _ _ _ (by kernel_rfl) ?_
    simp only [qka,qkb,qkc,qkd,qke,qkf,qkg,qkh,qki,Nat.reduceAdd,Nat.reduceSub]
    repeat (go_big_quiet_step (fail))
    refine wpQuiet_nil ?_
    refine qag 4 _ rfl (by kernel_rfl) ?_
    simp only [qkj,qkk,qkl]
    go_wp2_with fail
    refine (ET.out W3 _ V2.out).mono ?_
    rintro e w3 ⟨rfl,hb3⟩
    go_wp2_with fail
    refine ⟨qdx hb3 (fun b hb=>by rw [hb];exact lb),?_⟩
    have V3:=qkm (V2.out.grow hb3)
    have K3:=qkm (K2.out.trans (KpW.of_below hb3))
    have l3:=Nat.lt_of_lt_of_le lb hb3.size
    clear hb3 V2 K2 b0 b1 b2 b3 b4 b5 b6 b7 b8 b9 b10
    obtain ⟨g',c',hvS', -, -,hgl',hfz',hcs'⟩:=V3.out.sat hd1
    rw [HVS.out] at hvS'
    simp only [Value.slice.injEq,Option.some.injEq,Addr.mk.injEq,and_true,true_and] at hvS'
    obtain ⟨rfl,rfl⟩:=hvS'
    have q0:=hcs' 0 (by decide)
    have q1:=hcs' 1 (by decide)
    have q2:=hcs' 2 (by decide)
    have q3:=hcs' 3 (by decide)
    rw [hg1] at q0 q1 q2 q3
    simp only [qbo,qke,qkd,Nat.add_zero] at q0 q1 q2 q3
    have q0:w3.cell? ⟨g,r*4,none⟩=_:=q0
    have f0:=hfz' (r*4)
    have f1:=hfz' (r*4+1)
    have f2:=hfz' (r*4+2)
    have f3:=hfz' (r*4+3)
    clear hcs' hfz'
    refine qaf [7,8] _ _ _ _ (by kernel_rfl) ?_
    simp only [qka,qkb,qkc,qkd,qke,qkf,qkg,qkh,qki,Nat.reduceAdd,Nat.reduceSub]
    repeat (go_big_quiet_step (fail))
    refine wpQuiet_nil ?_
    refine qag 9 _ rfl (by kernel_rfl) ?_
    simp only [qkj,qkk,qkl]
    go_wp2_with fail
    refine ⟨fun b o hb=>(But.setCell g _ w3 _).cell (by have hb:b=w.heap.size:=hb;rw [hb];exact l3) (fun e=>hn2 (e.symm.trans hb)),?_⟩
    obtain ⟨V4,K4⟩:=V3.out.setSp HVS.out hd1 (j:=0) (by decide) (s:=⟨T,S.off,S.sets+1,true⟩) (v:=.int .i64 T) (by rw [hg1];rfl)
    rw [List.set_set] at V4
    obtain ⟨V5,K5⟩:=V4.setSp HVS.out hd1 (j:=1) (by decide) (s:=⟨T,i.off,S.sets+1,true⟩) (v:=.int .i64 i.off) (by rw [hg1];rfl)
    rw [List.set_set] at V5
    have V5:=qkm V5
    have K5:=qkm ((K3.out.trans K4).trans K5)
    clear V4 K4
    refine qaf [10,11] _ _ _ _ (by kernel_rfl) ?_
    simp only [qka,qkb,qkc,qkd,qke,qkf,qkg,qkh,qki,Nat.reduceAdd,Nat.reduceSub]
    repeat (go_big_quiet_step (fail))
    refine wpQuiet_nil ?_
    refine qbq 12 _ rfl (by kernel_rfl) ?_
    simp only [qkj,qkk,qkl]
    go_wp2_with fail
    refine qao (by kernel_rfl) ?_ _
    go_wp2_with fail
    go_ret
    rw [HSP.out]
    exact ⟨rfl,V5.out,K5.out⟩
  ·obtain ⟨V2,K2⟩:=V1.setSp HVS.out hd1 (j:=3) (by decide) (s:=⟨S.thing,S.off,S.sets+1,false⟩) (v:=.bool false) (by rw [hg1];rfl)
   rw [List.set_set] at V2
   have V2:=qkm V2
   have K2:=qkm ((KB.trans K1).trans K2)
   have HSP:Hid (spI k.p.objs.length S i=⟨S.thing,S.off,S.sets+1,false⟩):=by
    show _=_
    unfold spI;rw [if_neg (fun h=>h78 (.inl h)),if_neg (fun h=>h78 (.inr h))]
   have g7:(i.op ==7)=false:=by rw [beq_eq_false_iff_ne];omega
   have g8:(i.op ==8)=false:=by rw [beq_eq_false_iff_ne];omega
   clear V1 K1 KB
   go_wp2_with fail
   go_ret
   rw [HSP.out]
   exact ⟨rfl,V2.out,K2.out⟩
end
section
theorem qyg {o:Nat} {i:In} (h7:i.op≠7) (h8:i.op≠8) (h2:i.op≠2) (h3:i.op≠3) (h5:i.op≠5) (h6:i.op≠6) (h9:i.op≠9):qeo o i=[]:=by
 unfold qeo;rw [if_neg h7,if_neg h8,if_neg h2,if_neg h3,if_neg h5,if_neg h6,if_neg h9]
theorem qvt (w0:World) (k:VwK) (x:AS) (sp:List Sp) (m:Md) (i:In) (va:Value) (w:World) (h:VwM w0 w k x sp) (hpl:k.bs.length=k.p.regs.toNat) (hok:okI m k.p i=true) (hol:k.p.objs.length≤20) (hgl:m.globs.length≤20) (hva:RdI w0 va i.args) (hal:i.args.length≤1000) :
  Calls Try.prog 66 #[.pointer (some ⟨k.bv,0,none⟩),qbu i va] w (qh5 w0 k x sp w (qeo k.p.objs.length i)):=by
 obtain ⟨h12,hcall,hregs⟩:=qda hok
 have key:∀ {r:Int} {b:Bool},qby k.p r b=true→b=true→0≤r∧r.toNat<k.bs.length:=fun hr hb=>by
  have:=qbv hr hb
  omega
 by_cases h7:i.op=7
 ·obtain ⟨q1,q2,q3,q4⟩:=hregs (by omega)
  have hd:=key q1 (by rw [h7];rfl)
  have ho:0≤i.obj∧i.obj<k.p.objs.length:=by
   unfold qeb at q4
   rw [if_neg (by omega),if_neg (by omega),if_neg (by omega),if_pos h7] at q4
   simp only [Bool.and_eq_true,decide_eq_true_eq] at q4
   exact q4.1
  have e:qeo k.p.objs.length i=[.put i.obj.toNat i.d.toNat]:=by unfold qeo;rw [if_pos h7]
  rw [e]
  exact qv2 w0 k x sp i va w h h7 i.d.toNat i.obj.toNat (by omega) hd.2 (by omega) (by omega) (by omega) (by rw [if_neg (by omega)];omega)
 by_cases h8:i.op=8
 ·obtain ⟨q1,q2,q3,q4⟩:=hregs (by omega)
  have hd:=key q1 (by rw [h8];rfl)
  have ho:0≤i.obj∧i.obj<m.globs.length:=by
   unfold qeb at q4
   rw [if_neg (by omega),if_neg (by omega),if_neg (by omega),if_neg (by omega),if_pos h8] at q4
   simp only [Bool.and_eq_true,decide_eq_true_eq] at q4
   exact q4.1
  have e:qeo k.p.objs.length i=[.put (k.p.objs.length+i.obj.toNat) i.d.toNat]:=by unfold qeo;rw [if_neg h7,if_pos h8]
  rw [e]
  exact qvn w0 k x sp i va w h h8 i.d.toNat _ (by omega) hd.2 (by omega) (by omega) (by omega) (by rw [if_pos h8];omega)
 by_cases h2:i.op=2
 ·obtain ⟨q1,q2,q3,q4⟩:=hregs (by omega)
  have hd:=key q1 (by rw [h2];rfl)
  have ha:=key q2 (by rw [h2];rfl)
  have e:qeo k.p.objs.length i=[.sub (some i.a.toNat) (some i.d.toNat)]:=by unfold qeo;rw [if_neg h7,if_neg h8,if_pos h2]
  rw [e]
  exact qut w0 k x sp i va w h h2 i.d.toNat i.a.toNat (by omega) hd.2 (by omega) ha.2
 by_cases h3:i.op=3
 ·obtain ⟨q1,q2,q3,q4⟩:=hregs (by omega)
  have hd:=key q1 (by rw [h3];rfl)
  have ha:=key q2 (by rw [h3];rfl)
  have hb:=key q3 (by rw [h3];rfl)
  have e:qeo k.p.objs.length i=(if i.fn=1∨i.fn=2 then [.sub (some i.a.toNat) (some i.d.toNat),.sub (some i.b.toNat) (some i.d.toNat)] else []):=by unfold qeo;rw [if_neg h7,if_neg h8,if_neg h2,if_pos h3]
  rw [e]
  by_cases hf:i.fn=1∨i.fn=2
  ·rw [if_pos hf]
   refine qvc w0 k x sp i va w h h3 ?_ i.d.toNat i.a.toNat i.b.toNat (by omega) hd.2 (by omega) ha.2 (by omega) hb.2
   rcases hf with hf|hf
   ·left;rw [hf];rfl
   ·right;rw [hf];exact ⟨rfl,rfl⟩
  ·rw [if_neg hf]
   exact qrl w0 k x sp i va w h h3 (by rw [bne_iff_ne];exact fun e=>hf (.inl e)) (by rw [bne_iff_ne];exact fun e=>hf (.inr e))
 by_cases h5:i.op=5
 ·obtain ⟨q1,q2,q3,q4⟩:=hregs (by omega)
  have hd:=key q1 (by rw [h5];rfl)
  have e:qeo k.p.objs.length i=(if i.size=4 then [.sub none (some i.d.toNat)] else []):=by unfold qeo;rw [if_neg h7,if_neg h8,if_neg h2,if_neg h3,if_pos h5]
  rw [e]
  by_cases hs:i.size=4
  ·rw [if_pos hs]
   exact quy w0 k x sp i va w h h5 i.d.toNat (by omega) hd.2 (by rw [hs];rfl)
  ·rw [if_neg hs]
   exact qqt w0 k x sp i va w h h5 i.d.toNat (by omega) hd.2 (by rw [beq_eq_false_iff_ne];exact hs)
 by_cases h6:i.op=6
 ·obtain ⟨q1,q2,q3,q4⟩:=hregs (by omega)
  have hb:=key q3 (by rw [h6];rfl)
  have e:qeo k.p.objs.length i=(if i.size=4 then [.sub (some i.b.toNat) none] else []):=by unfold qeo;rw [if_neg h7,if_neg h8,if_neg h2,if_neg h3,if_neg h5,if_pos h6]
  rw [e]
  by_cases hs:i.size=4
  ·rw [if_pos hs]
   exact qv6 w0 k x sp i va w h h6 i.b.toNat (by omega) hb.2 (by rw [hs];rfl)
  ·rw [if_neg hs]
   exact qsx w0 k x sp i va w h h6 (by rw [beq_eq_false_iff_ne];exact hs)
 by_cases h9:i.op=9
 ·have hc:=hcall h9
  unfold qd0 at hc
  simp only [Bool.and_eq_true,decide_eq_true_eq,List.all_eq_true] at hc
  obtain ⟨-, -, -,c4,c5⟩:=hc
  have e:qeo k.p.objs.length i=(i.args.map fun r=>.sub (some r.toNat) none)++(if i.d= -1 then [] else [.sub none (some i.d.toNat)]):=by unfold qeo;rw [if_neg h7,if_neg h8,if_neg h2,if_neg h3,if_neg h5,if_neg h6,if_pos h9]
  rw [e]
  refine quh w0 k x sp i va w h h9 hva hal (fun j hj=>key (c5 _ (by simp [List.getD,hj])) rfl) _ ?_
  by_cases hd:i.d= -1
  ·left;rw [if_pos hd];exact ⟨hd,rfl⟩
  ·right
   have:=qjc c4
   exact ⟨i.d.toNat,by omega,by omega,by rw [if_neg hd]⟩
 ·rw [qyg h7 h8 h2 h3 h5 h6 h9]
  exact qv8 w0 k x sp i va w h (by rw [beq_eq_false_iff_ne];exact h7) (by rw [beq_eq_false_iff_ne];exact h8) (by rw [beq_eq_false_iff_ne];exact h2) (by rw [beq_eq_false_iff_ne];exact h3) (by rw [beq_eq_false_iff_ne];exact h5) (by rw [beq_eq_false_iff_ne];exact h6) (by rw [beq_eq_false_iff_ne];exact h9)
end
end Go.Proofs.Ytmcddolkpcgddaa
