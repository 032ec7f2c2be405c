/-
hazard: whether an instruction is a hazard behind what may have been read.
-/
import Derived.Test.YtmcddolkpcgddaaZHazardFinds29
import Derived.Test.YtmcddolkpcgddaaZHazardFinds34
set_option maxHeartbeats 4000000
set_option maxRecDepth 100000
set_option linter.all false
namespace Go.Proofs.Ytmcddolkpcgddaa
open Go.ChangeShapes Go.WideShapes Go.ChangeAt Go.RowKit
section
def qfv (p:Pr) (k:Nat):List Int:=((List.range k).filter fun n=> !(qc3 p).getD n false).map fun n:Nat=>(n:Int)
theorem qpt (p:Pr) (k:Nat):qfv p (k+1)=qfv p k++(if (qc3 p).getD k false=true then [] else [(k:Int)]):=by
 unfold qfv
 rw [List.range_succ,List.filter_append,List.map_append]
 congr 1
 cases h:(qc3 p).getD k false
 ·rw [List.filter_cons,h];rfl
 ·rw [List.filter_cons,h];rfl
theorem qsc (p:Pr) (k:Nat):(qfv p k).length≤k:=by
 unfold qfv
 rw [List.length_map]
 have:=List.length_filter_le (fun n=> !(qc3 p).getD n false) (List.range k)
 rwa [List.length_range] at this
theorem quv (p:Pr) (V:Value) (w:World) (hP:PrV w V p) (hlen:p.blks.length≤1000) (hp0:0<p.blks.length) :
  Calls Try.prog 35 #[V] w (qij w (qt4 p)):=by
 have HO:Hid (∀ W,Ext w W→Calls Try.prog 67 #[V] W (qij W (wkD p).ord.reverse)):=fun W hW=>qyb p V W (hP.ext hW) (by omega)
 have HR:Hid (∀ W,Ext w W→Calls Try.prog 68 #[V] W fun e w'=>∃ g,e=.returned (.slice (some ⟨g,0,none⟩) p.blks.length p.blks.length)∧W.heap.size≤g∧qcn w' g p.blks.length p.blks.length (qc3 p)∧Below W.heap.size W w'):=fun W hW=>qxs p V W (hP.ext hW) (by omega)
 have HAL:Hid (qt4 p=(wkD p).ord.reverse++qfv p p.blks.length):=rfl
 have hol:(wkD p).ord.reverse.length≤10000000:=by
  rw [List.length_reverse]
  have:=qq4 p (by omega)
  omega
 obtain ⟨nm,vo,vb,rfl,hvo,hvb⟩:=hP
 obtain ⟨ao,co,rfl, -⟩:=hvo
 obtain ⟨ab,cb,rfl, -⟩:=hvb
 obtain ⟨W1,hW1⟩:∃ W1,W1=w.alloc (.cells #[.string nm,.bool p.void,.int .i64 p.params,.int .i64 p.regs,.slice ao p.objs.length co,.slice ab p.blks.length cb] 32):=⟨_,rfl⟩
 have B1:Hid (Below w.heap.size w W1):=by
  show Below _ _ _
  rw [hW1];exact qaa w _
 have H1:=qkm (qb0 w _ _ hW1)
 have HW1:=qkm hW1.symm
 clear hW1
 go_enter Try.func35,Try.ntmps35
 go_wp2_with fail
 rw [HW1.out]
 clear HW1
 refine (HO.out W1 (Ext.below B1.out)).mono ?_
 clear HO
 rintro e w2 ⟨v2,rfl,ho2,hb2⟩
 have H2:=qkm ((hb2.block _ (qkp H1.out).1).trans H1.out)
 have B2:=qkm (B1.out.trans (hb2.mono B1.out.size))
 have HO2:Hid (qa8 w2 w.heap.size v2 (wkD p).ord.reverse):=qeq ho2 B1.out.size
 clear ho2 hb2 H1 B1
 obtain ⟨x0,x1,x2,x3,x4,x5,lx⟩:=cl6 H2.out
 go_wp2_with fail
 refine (HR.out w2 (Ext.below B2.out)).mono ?_
 clear HR
 rintro e w3 ⟨g,rfl,hgB,hrb,hb3⟩
 have B3:=qkm (B2.out.trans (hb3.mono B2.out.size))
 have HO3:Hid (qa8 w3 w.heap.size v2 ((wkD p).ord.reverse++qfv p 0)):=by
  show qa8 _ _ _ _
  rw [show qfv p 0=[] from rfl,List.append_nil]
  exact qav HO2.out hb3
 have HRB:=qkm hrb
 have hgw:w.heap.size≤g:=Nat.le_trans B2.out.size hgB
 clear hrb hb3 HO2 B2 H2 x0 x1 x2 x3 x4 x5 lx
 generalize (wkD p).ord.reverse=od at *
 go_wp2_with fail
 go_loopw [3,11] (fun v i wr=>∃ k:Nat,k≤p.blks.length∧i=.int .i64 (k:Int)∧Hid (qa8 wr w.heap.size v (od++qfv p k))∧Hid (qcn wr g p.blks.length p.blks.length (qc3 p))∧Hid (Below w.heap.size w wr)) (fun _ i _=>p.blks.length-(intOf i).toNat)
 case atStart=>exact ⟨0,Nat.zero_le _,rfl,HO3,HRB,B3⟩
 case round=>
  clear HO3 HRB B3
  obtain ⟨k,hk,rfl,HO,HRB,HB⟩:=hrel
  by_cases hlt:k<p.blks.length
  ·obtain ⟨e1,e2,e3, -,hcell, -,lg⟩:=HRB.out.cellAt
   have hc:=hcell k (by omega)
   have HSU:=qkm (qpt p k)
   have HLE:=qkm (qsc p k)
   have hll:(od++qfv p k).length≤20000000:=by rw [List.length_append];have:=HLE.out;omega
   obtain ⟨av,cv,rfl⟩:=qa6 HO.out
   generalize (qc3 p).getD k false=z at *
   clear hcell e1
   cases z
   ·have HN:Hid (od++qfv p (k+1)=(od++qfv p k)++[(k:Int)]):=by
     show _=_
     rw [HSU.out,List.append_assoc];rfl
    have hbz:=HB.out.size
    go_wp2_with (at_builtin;refine qz3 (n:=(k:Int)) (qav HO.out (qaa wr (.cells #[.int .i64 (k:Int)] 3))) rfl rfl rfl rfl (qab (heap_alloc_new wr _) 0) (by omega) (by simp;omega) ?_;intro v9 w9 h9 hg9 ha9)
    have HO9:Hid (qa8 w9 w.heap.size v9 (od++qfv p (k+1))):=by
     show World.ownsRow _ _ _ _ _ _ _
     rw [HN.out,List.length_append,List.map_append]
     exact h9
    have HR9:Hid (qcn w9 g p.blks.length p.blks.length (qc3 p)):=World.ownsRow.kept (qav HRB.out (qaa wr (.cells #[.int .i64 (k:Int)] 3))) hg9 (qdg HRB.out HO.out (by decide))
    have HB9:Hid (Below w.heap.size w w9):=(HB.out.trans ((qaa wr (.cells #[.int .i64 (k:Int)] 3)).mono hbz)).grown hg9 (by simp;omega) (fun b e=>(qdt HO.out e).1)
    clear h9 hg9 ha9 HO HRB HB
    go_roundw
    case rel=>exact ⟨k+1,hlt,by go_num,HO9,HR9,HB9⟩
    case measure=>simp [intOf];omega
   ·have HN:Hid (od++qfv p (k+1)=od++qfv p k):=by
     show _=_
     rw [HSU.out];simp
    go_wp2_with fail
    go_roundw
    case rel=>exact ⟨k+1,hlt,by go_num,by rw [HN.out];exact HO,HRB,HB⟩
    case measure=>simp [intOf];omega
  ·obtain rfl:k=p.blks.length:=by omega
   go_wp2_with fail
   go_ret
   exact ⟨_,rfl,by rw [HAL.out];exact HO.out,HB.out⟩
end
section
def q2v (N:Nat) (i:In):Prop:=qen i=true→q11 N i
structure HzA (wv w0:World) (k:VwK) (x:AS) (sp:List Sp) (bv:Nat) (p:Pr) (i:In):Prop where
 vw:VwM wv w0 k x sp
 bv:k.bv=bv
 bl:k.bs.length≤1000
 hof:∀ r, -100000≤(exV k sp r).off∧(exV k sp r).off≤100000
 la:∀ l∈qad p,q2v k.bs.length l
 ia:q2v k.bs.length i
theorem q2e (wv w0 W:World) (k:VwK) (x:AS) (sp:List Sp) (bf:Nat) (nm:ByteArray) (p:Pr) (vo vb:Value) (bv:Nat) (vs:Value) (al:Option Addr) (cl:Nat) (vf vg:Value) (rs:List (Nat×Nat)) (X:List Nat) (s:List Bool) (gh ch H:Nat) (i:In) (va:Value)
  (hA:HzA wv w0 k x sp bv p i) (hF:FdP w0 bf nm p vo vb bv vs al cl vf vg rs X W) (hvs:RdB w0 vs s) (hsl:s.length≤p.regs.toNat) (hr:0≤p.regs∧p.regs≤10000) (hLL:(qad p).length≤1000000) (hva:RdI W va i.args) (hrow:qb3 W gh ch (lwN p) H) :
  Calls Try.prog 39 #[.pointer (some ⟨bf,0,none⟩),.slice (some ⟨gh,0,none⟩) (lwN p) ch,qbu i va] W fun e w'=>e=.returned (.bool (qiq s (qad p) (qbe k x sp) H i))∧Below W.heap.size W w':=by
 obtain rfl:=hA.bv
 have HF:=qkm hF
 have HA:=qkm hA
 have HVS:=qkm hvs
 have HRO:=qkm hrow
 have hL:(qad p).length+p.regs.toNat≤64*lwN p:=by unfold lwN;omega
 have hLW:lwN p≤1000000:=by unfold lwN;omega
 have HD:=fun w=>qkm (q01 i va w)
 have HHZ:Hid (qiq s (qad p) (qbe k x sp) H i=((qam s (qbn i) && H.testBit ((qad p).length+(qbn i).toNat)) || (i.op ==6 && (List.range (qad p).length).any fun y=>H.testBit y && qbe k x sp ((qad p).getD y default) i))):=rfl
 obtain ⟨aa,ac,rfl, -⟩:=hva
 clear hF hA hvs hrow
 unfold qbu at HD ⊢
 generalize qiq s (qad p) (qbe k x sp) H i=RES at *
 obtain ⟨W0,hW0⟩:∃ W0,W0=W.alloc (qdd i (.slice aa i.args.length ac)):=⟨_,rfl⟩
 have B0:Hid (Below W.heap.size W W0):=by
  show Below _ _ _
  rw [hW0];exact qaa W _
 have H5:=qkm (qb0 W _ _ hW0)
 unfold qdd at hW0
 have HW0:=qkm hW0.symm
 clear hW0
 go_enter Try.func39,Try.ntmps39
 go_wp2_with fail
 rw [HW0.out]
 clear HW0
 refine (HD W0).out.mono ?_
 clear HD
 rintro e w1 ⟨rfl,hb1⟩
 have H5:=qkm ((hb1.block _ (qkp H5.out).1).trans H5.out)
 have B1:=qkm (B0.out.trans (hb1.mono B0.out.size))
 have F1:Hid (FdP w0 bf nm p vo vb k.bv vs al cl vf vg rs X w1):=FdM.below HF.out B1.out
 have R1:=qkm (HRO.out.below B1.out)
 clear hb1 B0 HF HRO
 obtain ⟨-, -, -, -, -, -, -,y7, -, -, -,ly⟩:=qau F1.out.box
 generalize qbn i=d at *
 have HSP:=qkm (qc5 vs s d w1 (HVS.out.ext (Ext.below F1.out.be)))
 have hvs':=HVS.out
 obtain ⟨sa,sc,rfl,s1,s2, -⟩:=hvs'
 obtain ⟨KL,hKL,hKE⟩:=F1.out.lo
 have HRL:=qkm (hKL.rd (Ext.below F1.out.be))
 rw [hKE] at HRL
 have HLB:=qkm (qbd.at HRL.out).2
 have hLc:(qad p).length≤cl∧cl≤2 ^ 63-1:=by
  obtain ⟨a',c',e,h1,h2, -⟩:=HRL.out
  simp only [Value.slice.injEq] at e
  obtain ⟨-, -,rfl⟩:=e
  exact ⟨h1,h2⟩
 obtain ⟨hl1,hl2⟩:=hLc
 have HLA:=qkm (fun j (hj:j<(qad p).length)=>HA.out.la _ (qch (d:=default) hj))
 clear hKL hKE HRL
 cases hsp:qam s d
 ·have HQ:Hid (RES=(i.op ==6 && (List.range (qad p).length).any fun y=>H.testBit y && qbe k x sp ((qad p).getD y default) i)):=by
   show _=_
   rw [HHZ.out,hsp];rfl
  rw [hsp] at HSP
  go_wp2_with fail
  refine HSP.out.mono ?_
  rintro e w2 ⟨rfl,rfl⟩
  clear HSP HHZ y7 ly
  obtain ⟨d0, -, -, -, -, -, -, -, -, -, -,ld⟩:=qau H5.out
  cases h6:(i.op ==6)
  ·have h6':(i.op !=6)=true:=by rw [bne,h6];rfl
   rw [h6] at HQ
   go_wp2_with fail
   go_ret
   exact ⟨qah HQ.out.symm,B1.out⟩
  ·have h6':(i.op !=6)=false:=by rw [bne,h6];rfl
   rw [h6] at HQ
   obtain ⟨-, -, -, -, -, -, -, -,y8, -, -,ly⟩:=qau F1.out.box
   go_wp2_with fail
   clear d0 ld y8 ly h6 h6'
   go_loopw [33] (fun j wr=>∃ kk:Nat,kk≤(qad p).length∧j=.int .i64 (kk:Int)∧Hid (∀ y,y<kk→(H.testBit y && qbe k x sp ((qad p).getD y default) i)=false)∧Hid (Below w2.heap.size w2 wr)) (fun j _=>(qad p).length-(intOf j).toNat)
   case atStart=>exact ⟨0,Nat.zero_le _,rfl,fun y hy=>absurd hy (Nat.not_lt_zero _),Below.refl _ _⟩
   case round=>
    obtain ⟨kk,hkk,rfl,HN,HB⟩:=hrel
    have F2:Hid (FdP w0 bf nm p vo vb k.bv (.slice sa s.length sc) al cl vf vg rs X wr):=FdM.below F1.out HB.out
    have R2:=qkm (R1.out.below HB.out)
    have H52:=qkm ((HB.out.block _ (qkp H5.out).1).trans H5.out)
    have BW:=qkm (B1.out.trans (HB.out.mono B1.out.size))
    by_cases hlt:kk<(qad p).length
    ·have q1:decide (kk<(qad p).length)=true:=qkn hlt
     have q2:decide ((kk:Int)<((qad p).length:Int))=true:=qkn (by omega)
     obtain ⟨bl,ol,vl,hal,lbl,hvl,e0,e1,e2,e3,e4,e5,e6,e7,e8,e9,e10⟩:=HLB.out kk hlt
     subst hal
     have hE:=Ext.below HB.out
     replace e0:=hE _ _ e0
     replace e1:=hE _ _ e1
     replace e2:=hE _ _ e2
     replace e3:=hE _ _ e3
     replace e4:=hE _ _ e4
     replace e5:=hE _ _ e5
     replace e6:=hE _ _ e6
     replace e7:=hE _ _ e7
     replace e8:=hE _ _ e8
     replace e9:=hE _ _ e9
     replace e10:=hE _ _ e10
     replace lbl:=Nat.lt_of_lt_of_le lbl HB.out.size
     obtain ⟨la,lc,rfl, -⟩:=hvl
     have HLK:=qkm (HLA.out kk hlt)
     have HYE:Hid ((H.testBit kk && qbe k x sp ((qad p).getD kk default) i)=true→RES=true):=fun h=>by
      rw [HQ.out,Bool.true_and]
      exact List.any_eq_true.2 ⟨kk,List.mem_range.2 hlt,h⟩
     have HNE:Hid ((H.testBit kk && qbe k x sp ((qad p).getD kk default) i)=false→∀ y,y<kk+1→(H.testBit y && qbe k x sp ((qad p).getD y default) i)=false):=fun h y hy=>by
      by_cases e:y=kk
      ·subst e;exact h
      ·exact HN.out y (by omega)
     generalize (qad p).getD kk default=l at *
     clear hE HN
     go_wp2_with fail
     obtain ⟨W5,hW5⟩:∃ W5,W5=wr.alloc (.cells #[.int .i64 l.op,.int .i64 l.d,.int .i64 l.a,.int .i64 l.b,.int .i64 l.fn,.int .i64 l.obj,.int .i64 l.off,.int .i64 l.size,.int .u32 l.num,.slice la l.args.length lc,.bool l.log] 58):=⟨_,rfl⟩
     have B5:Hid (Below wr.heap.size wr W5):=by
      show Below _ _ _
      rw [hW5];exact qaa wr _
     have H9:Hid (W5.heap[wr.heap.size]?=some (qdd l (.slice la l.args.length lc))):=by
      show _=_
      rw [hW5];exact heap_alloc_new wr _
     rw [←hW5]
     clear hW5 e0 e1 e2 e3 e4 e5 e6 e7 e8 e9 e10 lbl
     refine qak (fun _=>True) (by kernel_rfl) ?_
     refine qan [0,1] _ _ _ _ (by kernel_rfl) ?_
     simp only [qka,qkb,qkc,qkd,qke,qkf,qkg,qkh,qki,Nat.reduceAdd,Nat.reduceSub]
     repeat (go_big_quiet_step (fail))
     refine wpQuiet_nil ?_
     refine qay 2 _ rfl (by kernel_rfl) ?_
     simp only [qkj,qkk,qkl]
     intro wj hj
     have B6:=qkm (B5.out.trans (hj.mono B5.out.size))
     go_wp2_with fail
     refine (qrm gh ch (lwN p) H kk wj (R2.out.below B6.out) (by omega)).mono ?_
     rintro e w6 ⟨rfl,rfl⟩
     go_wp2_with fail
     refine ⟨qa3.refl _ _,?_⟩
     have H9:=qkm ((hj.block _ (qkp H9.out).1).trans H9.out)
     have H53:=qkm ((B6.out.block _ (qkp H52.out).1).trans H52.out)
     have F3:Hid (FdP w0 bf nm p vo vb k.bv (.slice sa s.length sc) (some ⟨bl,ol,none⟩) cl vf vg rs X w6):=FdM.below F2.out B6.out
     clear hj B5 H52 F2
     obtain ⟨d0,d1,d2,d3,d4,d5,d6,d7,d8,d9,d10,ld⟩:=qau H53.out
     obtain ⟨f0,f1,f2,f3,f4,f5,f6,f7,f8,f9,f10,lf⟩:=qau H9.out
     obtain ⟨-, -, -, -, -, -,y6, -, -, -, -,ly⟩:=qau F3.out.box
     cases hbt:H.testBit kk
     ·rw [hbt] at HYE HNE
      have HNN:=qkm (HNE.out rfl)
      refine qan [3,4,5,6,7,8,9] _ _ _ _ (by kernel_rfl) ?_
      simp only [qka,qkb,qkc,qkd,qke,qkf,qkg,qkh,qki,Nat.reduceAdd,Nat.reduceSub]
      repeat (go_big_quiet_step (fail))
      refine wpQuiet_nil ?_
      clear d0 d1 d2 d3 d4 d5 d6 d7 d8 d9 d10 ld f0 f1 f2 f3 f4 f5 f6 f7 f8 f9 f10 lf y6 ly
      refine qay 10 _ rfl (by kernel_rfl) ?_
      simp only [qkj,qkk,qkl]
      intro wj hj
      go_wp2_with fail
      refine ⟨qa3.refl _ _,?_⟩
      have B7:=qkm (B6.out.trans (hj.mono B6.out.size))
      clear hj
      refine qan [11] _ _ _ _ (by kernel_rfl) ?_
      simp only [qka,qkb,qkc,qkd,qke,qkf,qkg,qkh,qki,Nat.reduceAdd,Nat.reduceSub]
      repeat (go_big_quiet_step (fail))
      refine wpQuiet_nil ?_
      refine qbh (by kernel_rfl) (fun wm hm=>?_) _
      have B8:=qkm (HB.out.trans ((B7.out.trans (hm.mono B7.out.size)).mono HB.out.size))
      go_wp2_with fail
      go_roundw
      case rel=>exact ⟨kk+1,hlt,by go_num,HNN,B8⟩
      case measure=>simp [intOf];omega
     ·rw [hbt,Bool.true_and] at HYE HNE
      refine qan [3,4,5,6,7,8,9] _ _ _ _ (by kernel_rfl) ?_
      simp only [qka,qkb,qkc,qkd,qke,qkf,qkg,qkh,qki,Nat.reduceAdd,Nat.reduceSub]
      repeat (go_big_quiet_step (fail))
      refine wpQuiet_nil ?_
      clear d0 d1 d2 d3 d4 d5 d6 d7 d8 d9 d10 ld f0 f1 f2 f3 f4 f5 f6 f7 f8 f9 f10 lf y6 ly
      refine qay 10 _ rfl (by kernel_rfl) ?_
      simp only [qkj,qkk,qkl]
      intro wj hj
      have F4:=FdM.below F3.out hj
      have V4:=HA.out.vw.grow F4.be
      go_wp2_with fail
      refine (qrs wv k x sp l i (.slice la l.args.length lc) (.slice aa i.args.length ac) wj V4 HA.out.bl HLK.out HA.out.ia HA.out.hof).mono ?_
      rintro e w7 ⟨rfl,hb7⟩
      go_wp2_with fail
      refine ⟨qa3.below hb7,?_⟩
      have B7:=qkm (B6.out.trans ((hj.trans (hb7.mono hj.size)).mono B6.out.size))
      clear hj hb7 F4 V4
      cases hmt:qbe k x sp l i
      ·have HNN:=qkm (HNE.out hmt)
       refine qan [11] _ _ _ _ (by kernel_rfl) ?_
       simp only [qka,qkb,qkc,qkd,qke,qkf,qkg,qkh,qki,Nat.reduceAdd,Nat.reduceSub]
       repeat (go_big_quiet_step (fail))
       refine wpQuiet_nil ?_
       refine qbh (by kernel_rfl) (fun wm hm=>?_) _
       have B8:=qkm (HB.out.trans ((B7.out.trans (hm.mono B7.out.size)).mono HB.out.size))
       go_wp2_with fail
       go_roundw
       case rel=>exact ⟨kk+1,hlt,by go_num,HNN,B8⟩
       case measure=>simp [intOf];omega
      ·have HYY:=qkm (HYE.out hmt)
       refine qan [11] _ _ _ _ (by kernel_rfl) ?_
       simp only [qka,qkb,qkc,qkd,qke,qkf,qkg,qkh,qki,Nat.reduceAdd,Nat.reduceSub]
       repeat (go_big_quiet_step (fail))
       refine wpQuiet_nil ?_
       refine qbh (by kernel_rfl) (fun wm hm=>?_) _
       have B8:=qkm (BW.out.trans ((B7.out.trans (hm.mono B7.out.size)).mono BW.out.size))
       go_wp2_with fail
       go_ret
       exact ⟨qah HYY.out.symm,B8.out⟩
    ·obtain rfl:kk=(qad p).length:=by omega
     have HNO:Hid (RES=false):=by
      show _=_
      rw [HQ.out,Bool.true_and,List.any_eq_false]
      intro y hy
      have:=HN.out y (List.mem_range.1 hy)
      rw [Bool.not_eq_true];exact this
     go_wp2_with fail
     go_ret
     exact ⟨qah HNO.out.symm,BW.out⟩
 ·obtain ⟨a0,a1, -⟩:=qa4 hsp
  obtain ⟨dn,rfl⟩:=Int.eq_ofNat_of_zero_le a0
  have hdn:dn≤1000000:=by omega
  have HHZ:Hid (RES=(H.testBit ((qad p).length+dn) || (i.op ==6 && (List.range (qad p).length).any fun y=>H.testBit y && qbe k x sp ((qad p).getD y default) i))):=by
   show _=_
   rw [HHZ.out,hsp];rfl
  rw [hsp] at HSP
  have HRG:=qkm (qgc bf nm p vo vb k.bv (.slice sa s.length sc) vf vg al (qad p).length cl dn w1 F1.out.box (by omega) hdn)
  have HHA:=qkm (qrm gh ch (lwN p) H ((qad p).length+dn) w1 R1.out (by omega))
  go_wp2_with fail
  refine HSP.out.mono ?_
  rintro e w2 ⟨rfl,rfl⟩
  go_wp2_with fail
  refine HRG.out.mono ?_
  rintro e w3 ⟨rfl,rfl⟩
  go_wp2_with fail
  refine HHA.out.mono ?_
  rintro e w4 ⟨rfl,rfl⟩
  cases hbt:H.testBit ((qad p).length+dn)
  ·have HQ:Hid (RES=(i.op ==6 && (List.range (qad p).length).any fun y=>H.testBit y && qbe k x sp ((qad p).getD y default) i)):=by
    show _=_
    rw [HHZ.out,hbt];rfl
   clear HSP HHZ HRG HHA y7 ly
   obtain ⟨d0, -, -, -, -, -, -, -, -, -, -,ld⟩:=qau H5.out
   cases h6:(i.op ==6)
   ·have h6':(i.op !=6)=true:=by rw [bne,h6];rfl
    rw [h6] at HQ
    go_wp2_with fail
    go_ret
    exact ⟨qah HQ.out.symm,B1.out⟩
   ·have h6':(i.op !=6)=false:=by rw [bne,h6];rfl
    rw [h6] at HQ
    obtain ⟨-, -, -, -, -, -, -, -,y8, -, -,ly⟩:=qau F1.out.box
    go_wp2_with fail
    clear d0 ld y8 ly h6 h6'
    go_loopw [33] (fun j wr=>∃ kk:Nat,kk≤(qad p).length∧j=.int .i64 (kk:Int)∧Hid (∀ y,y<kk→(H.testBit y && qbe k x sp ((qad p).getD y default) i)=false)∧Hid (Below w4.heap.size w4 wr)) (fun j _=>(qad p).length-(intOf j).toNat)
    case atStart=>exact ⟨0,Nat.zero_le _,rfl,fun y hy=>absurd hy (Nat.not_lt_zero _),Below.refl _ _⟩
    case round=>
     obtain ⟨kk,hkk,rfl,HN,HB⟩:=hrel
     have F2:Hid (FdP w0 bf nm p vo vb k.bv (.slice sa s.length sc) al cl vf vg rs X wr):=FdM.below F1.out HB.out
     have R2:=qkm (R1.out.below HB.out)
     have H52:=qkm ((HB.out.block _ (qkp H5.out).1).trans H5.out)
     have BW:=qkm (B1.out.trans (HB.out.mono B1.out.size))
     by_cases hlt:kk<(qad p).length
     ·have q1:decide (kk<(qad p).length)=true:=qkn hlt
      have q2:decide ((kk:Int)<((qad p).length:Int))=true:=qkn (by omega)
      obtain ⟨bl,ol,vl,hal,lbl,hvl,e0,e1,e2,e3,e4,e5,e6,e7,e8,e9,e10⟩:=HLB.out kk hlt
      subst hal
      have hE:=Ext.below HB.out
      replace e0:=hE _ _ e0
      replace e1:=hE _ _ e1
      replace e2:=hE _ _ e2
      replace e3:=hE _ _ e3
      replace e4:=hE _ _ e4
      replace e5:=hE _ _ e5
      replace e6:=hE _ _ e6
      replace e7:=hE _ _ e7
      replace e8:=hE _ _ e8
      replace e9:=hE _ _ e9
      replace e10:=hE _ _ e10
      replace lbl:=Nat.lt_of_lt_of_le lbl HB.out.size
      obtain ⟨la,lc,rfl, -⟩:=hvl
      have HLK:=qkm (HLA.out kk hlt)
      have HYE:Hid ((H.testBit kk && qbe k x sp ((qad p).getD kk default) i)=true→RES=true):=fun h=>by
       rw [HQ.out,Bool.true_and]
       exact List.any_eq_true.2 ⟨kk,List.mem_range.2 hlt,h⟩
      have HNE:Hid ((H.testBit kk && qbe k x sp ((qad p).getD kk default) i)=false→∀ y,y<kk+1→(H.testBit y && qbe k x sp ((qad p).getD y default) i)=false):=fun h y hy=>by
       by_cases e:y=kk
       ·subst e;exact h
       ·exact HN.out y (by omega)
      generalize (qad p).getD kk default=l at *
      clear hE HN
      go_wp2_with fail
      obtain ⟨W5,hW5⟩:∃ W5,W5=wr.alloc (.cells #[.int .i64 l.op,.int .i64 l.d,.int .i64 l.a,.int .i64 l.b,.int .i64 l.fn,.int .i64 l.obj,.int .i64 l.off,.int .i64 l.size,.int .u32 l.num,.slice la l.args.length lc,.bool l.log] 58):=⟨_,rfl⟩
      have B5:Hid (Below wr.heap.size wr W5):=by
       show Below _ _ _
       rw [hW5];exact qaa wr _
      have H9:Hid (W5.heap[wr.heap.size]?=some (qdd l (.slice la l.args.length lc))):=by
       show _=_
       rw [hW5];exact heap_alloc_new wr _
      rw [←hW5]
      clear hW5 e0 e1 e2 e3 e4 e5 e6 e7 e8 e9 e10 lbl
      refine qak (fun _=>True) (by kernel_rfl) ?_
      refine qan [0,1] _ _ _ _ (by kernel_rfl) ?_
      simp only [qka,qkb,qkc,qkd,qke,qkf,qkg,qkh,qki,Nat.reduceAdd,Nat.reduceSub]
      repeat (go_big_quiet_step (fail))
      refine wpQuiet_nil ?_
      refine qay 2 _ rfl (by kernel_rfl) ?_
      simp only [qkj,qkk,qkl]
      intro wj hj
      have B6:=qkm (B5.out.trans (hj.mono B5.out.size))
      go_wp2_with fail
      refine (qrm gh ch (lwN p) H kk wj (R2.out.below B6.out) (by omega)).mono ?_
      rintro e w6 ⟨rfl,rfl⟩
      go_wp2_with fail
      refine ⟨qa3.refl _ _,?_⟩
      have H9:=qkm ((hj.block _ (qkp H9.out).1).trans H9.out)
      have H53:=qkm ((B6.out.block _ (qkp H52.out).1).trans H52.out)
      have F3:Hid (FdP w0 bf nm p vo vb k.bv (.slice sa s.length sc) (some ⟨bl,ol,none⟩) cl vf vg rs X w6):=FdM.below F2.out B6.out
      clear hj B5 H52 F2
      obtain ⟨d0,d1,d2,d3,d4,d5,d6,d7,d8,d9,d10,ld⟩:=qau H53.out
      obtain ⟨f0,f1,f2,f3,f4,f5,f6,f7,f8,f9,f10,lf⟩:=qau H9.out
      obtain ⟨-, -, -, -, -, -,y6, -, -, -, -,ly⟩:=qau F3.out.box
      cases hbt:H.testBit kk
      ·rw [hbt] at HYE HNE
       have HNN:=qkm (HNE.out rfl)
       refine qan [3,4,5,6,7,8,9] _ _ _ _ (by kernel_rfl) ?_
       simp only [qka,qkb,qkc,qkd,qke,qkf,qkg,qkh,qki,Nat.reduceAdd,Nat.reduceSub]
       repeat (go_big_quiet_step (fail))
       refine wpQuiet_nil ?_
       clear d0 d1 d2 d3 d4 d5 d6 d7 d8 d9 d10 ld f0 f1 f2 f3 f4 f5 f6 f7 f8 f9 f10 lf y6 ly
       refine qay 10 _ rfl (by kernel_rfl) ?_
       simp only [qkj,qkk,qkl]
       intro wj hj
       go_wp2_with fail
       refine ⟨qa3.refl _ _,?_⟩
       have B7:=qkm (B6.out.trans (hj.mono B6.out.size))
       clear hj
       refine qan [11] _ _ _ _ (by kernel_rfl) ?_
       simp only [qka,qkb,qkc,qkd,qke,qkf,qkg,qkh,qki,Nat.reduceAdd,Nat.reduceSub]
       repeat (go_big_quiet_step (fail))
       refine wpQuiet_nil ?_
       refine qbh (by kernel_rfl) (fun wm hm=>?_) _
       have B8:=qkm (HB.out.trans ((B7.out.trans (hm.mono B7.out.size)).mono HB.out.size))
       go_wp2_with fail
       go_roundw
       case rel=>exact ⟨kk+1,hlt,by go_num,HNN,B8⟩
       case measure=>simp [intOf];omega
      ·rw [hbt,Bool.true_and] at HYE HNE
       refine qan [3,4,5,6,7,8,9] _ _ _ _ (by kernel_rfl) ?_
       simp only [qka,qkb,qkc,qkd,qke,qkf,qkg,qkh,qki,Nat.reduceAdd,Nat.reduceSub]
       repeat (go_big_quiet_step (fail))
       refine wpQuiet_nil ?_
       clear d0 d1 d2 d3 d4 d5 d6 d7 d8 d9 d10 ld f0 f1 f2 f3 f4 f5 f6 f7 f8 f9 f10 lf y6 ly
       refine qay 10 _ rfl (by kernel_rfl) ?_
       simp only [qkj,qkk,qkl]
       intro wj hj
       have F4:=FdM.below F3.out hj
       have V4:=HA.out.vw.grow F4.be
       go_wp2_with fail
       refine (qrs wv k x sp l i (.slice la l.args.length lc) (.slice aa i.args.length ac) wj V4 HA.out.bl HLK.out HA.out.ia HA.out.hof).mono ?_
       rintro e w7 ⟨rfl,hb7⟩
       go_wp2_with fail
       refine ⟨qa3.below hb7,?_⟩
       have B7:=qkm (B6.out.trans ((hj.trans (hb7.mono hj.size)).mono B6.out.size))
       clear hj hb7 F4 V4
       cases hmt:qbe k x sp l i
       ·have HNN:=qkm (HNE.out hmt)
        refine qan [11] _ _ _ _ (by kernel_rfl) ?_
        simp only [qka,qkb,qkc,qkd,qke,qkf,qkg,qkh,qki,Nat.reduceAdd,Nat.reduceSub]
        repeat (go_big_quiet_step (fail))
        refine wpQuiet_nil ?_
        refine qbh (by kernel_rfl) (fun wm hm=>?_) _
        have B8:=qkm (HB.out.trans ((B7.out.trans (hm.mono B7.out.size)).mono HB.out.size))
        go_wp2_with fail
        go_roundw
        case rel=>exact ⟨kk+1,hlt,by go_num,HNN,B8⟩
        case measure=>simp [intOf];omega
       ·have HYY:=qkm (HYE.out hmt)
        refine qan [11] _ _ _ _ (by kernel_rfl) ?_
        simp only [qka,qkb,qkc,qkd,qke,qkf,qkg,qkh,qki,Nat.reduceAdd,Nat.reduceSub]
        repeat (go_big_quiet_step (fail))
        refine wpQuiet_nil ?_
        refine qbh (by kernel_rfl) (fun wm hm=>?_) _
        have B8:=qkm (BW.out.trans ((B7.out.trans (hm.mono B7.out.size)).mono BW.out.size))
        go_wp2_with fail
        go_ret
        exact ⟨qah HYY.out.symm,B8.out⟩
     ·obtain rfl:kk=(qad p).length:=by omega
      have HNO:Hid (RES=false):=by
       show _=_
       rw [HQ.out,Bool.true_and,List.any_eq_false]
       intro y hy
       have:=HN.out y (List.mem_range.1 hy)
       rw [Bool.not_eq_true];exact this
      go_wp2_with fail
      go_ret
      exact ⟨qah HNO.out.symm,BW.out⟩
  ·have HQ:Hid (RES=true):=by
    show _=_
    rw [HHZ.out,hbt];rfl
   go_wp2_with fail
   go_ret
   exact ⟨qah HQ.out.symm,B1.out⟩
end
end Go.Proofs.Ytmcddolkpcgddaa
