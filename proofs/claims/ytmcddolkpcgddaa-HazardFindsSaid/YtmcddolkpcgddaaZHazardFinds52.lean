/-
A slice of truths, opened.
-/
import Derived.Test.YtmcddolkpcgddaaZHazardFinds51
import Derived.Lib.SmallJoins
import Derived.Deep.Slices
import Derived.Deep.Fields
import Derived.ChangeSame
set_option maxHeartbeats 4000000
set_option maxRecDepth 100000
set_option linter.all false
namespace Go.Proofs.Ytmcddolkpcgddaa
open Go.ChangeShapes Go.WideShapes Go.ChangeAt Go.RowKit
section
theorem qto {f:Nat→Bool} {N j:Nat} (hj:j<N):∃ T:List Nat,(List.range N).filter f=(List.range j).filter f++(if f j=true then j::T else T)∧∀ t∈T,j<t:=by
 obtain ⟨d,rfl⟩:∃ d,N=j+(d+1):=⟨N-j-1,by omega⟩
 refine ⟨((List.range d).map fun t=>j+(t+1)).filter f,?_,fun t ht=>?_⟩
 ·have e:List.range (j+(d+1))=List.range j++(j::(List.range d).map fun t=>j+(t+1)):=by
   rw [List.range_add,List.range_succ_eq_map,List.map_cons,List.map_map]
   rfl
  rw [e,List.filter_append,List.filter_cons]
 ·obtain ⟨h, -⟩:=List.mem_filter.1 ht
  obtain ⟨q, -,rfl⟩:=List.mem_map.1 h
  omega
def qbw (f:Nat→Bool) (j:Nat):Nat:=((List.range j).filter f).length
theorem qro (f:Nat→Bool) (j:Nat):qbw f j≤j:=by
 unfold qbw
 exact Nat.le_trans (List.length_filter_le _ _) (by rw [List.length_range];exact Nat.le_refl _)
theorem qms (f:Nat→Bool) (j:Nat):qbw f (j+1)=qbw f j+(if f j=true then 1 else 0):=by
 unfold qbw
 rw [List.range_succ,List.filter_append,List.length_append]
 congr 1
 rw [List.filter_cons]
 split <;> simp
def qox (f:Nat→Bool) (N:Nat):List Int:=((List.range N).filter f).map fun j:Nat=>(j:Int)
theorem qv5 (f:Nat→Bool) (N:Nat):(qox f N).length=qbw f N:=by unfold qox qbw;rw [List.length_map]
theorem qug {f:Nat→Bool} {N j:Nat} (hj:j<N) (h:f j=true):qbw f j<(qox f N).length∧(qox f N).getD (qbw f j) 0=(j:Int):=by
 obtain ⟨T,e, -⟩:=qto (f:=f) hj
 unfold qox qbw
 rw [e,if_pos h]
 constructor
 ·simp
 ·simp [List.getD]
end
section
theorem qne (n:Int) (w:World):Calls Try.prog 14 #[.agg #[.slice none 0 0,.slice none 0 0,.slice none 0 0,.int .i64 0],.int .i64 n,.slice none 0 0] w fun e w'=>e=.returned (.tuple #[.slice none 0 0,.int .i64 4])∧Below w.heap.size w w':=by
 go_enter Try.func14,Try.ntmps14
 go_wp2_with fail
 refine (q0k n _).mono ?_
 rintro e w2 ⟨rfl,hb2⟩
 have BB:=qkm ((qaa w (.cells #[.slice none 0 0,.slice none 0 0,.slice none 0 0,.int .i64 0] 26)).trans (hb2.mono (qaa w _).size))
 clear hb2
 go_wp2_with fail
 go_ret2
 exact ⟨rfl,BB.out⟩
theorem qvs (f:Nat→Bool) (h:List Bool) (v vh:Value) (w:World) (hl:RdI w v (qox f h.length)) (hh:RdB w vh h) (hf:∀ i,i<h.length→h.getD i false=f i) (hN:h.length≤1000000) :
  Calls Try.prog 17 #[v,vh] w fun e w'=>e=.returned (.bool true)∧w'=w:=by
 obtain ⟨a,c,rfl,a1,a2,a3⟩:=hl
 obtain ⟨a',c',rfl,b1,b2,b3⟩:=hh
 unfold maxLen at a2 b2
 have HA:=qkm a3
 have HB:=qkm b3
 have HF:=qkm hf
 clear a3 b3 hf
 go_enter Try.func17,Try.ntmps17
 go_wp2_with fail
 have hz0:Hid (qbw f 0=0):=rfl
 go_loopw [5,6] (fun nn ii wr=>∃ i:Nat,i≤h.length∧nn=.int .i64 ((qbw f i:Nat):Int)∧ii=.int .i64 (i:Int)∧w=wr) (fun _ ii _=>h.length-(intOf ii).toNat)
 case atStart=>exact ⟨0,Nat.zero_le _,rfl,rfl,rfl⟩
 case round=>
  obtain ⟨i,hi,rfl,rfl,rfl⟩:=hrel
  have hcl:=qro f i
  by_cases hlt:i<h.length
  ·have g1:decide (i<h.length)=true:=qkn hlt
   have g2:decide ((i:Int)<(h.length:Int))=true:=qkn (by omega)
   obtain ⟨b,o,e1,e2⟩:=HB.out i hlt
   subst e1
   simp only [Nat.mul_one,Nat.add_zero] at e2
   rw [HF.out i hlt] at e2
   have HS:=qkm (qms f i)
   have HY:=qkm (qug (f:=f) hlt)
   cases hfi:f i with
   | false=>
    rw [hfi] at e2
    have HS2:Hid (qbw f (i+1)=qbw f i):=by
     show _=_
     rw [HS.out,hfi,if_neg (by simp)];rfl
    clear hfi HS HY
    go_wp2_with fail
    go_roundw
    case rel=>exact ⟨i+1,hlt,by rw [HS2.out],by go_num,by first|trivial|rfl⟩
    case measure=>simp [intOf];omega
   | true=>
    rw [hfi] at e2
    have HS2:Hid (qbw f (i+1)=qbw f i+1):=by
     show _=_
     rw [HS.out,hfi,if_pos rfl]
    obtain ⟨y1,y2⟩:=HY.out hfi
    obtain ⟨bl,ol,e3,e4⟩:=HA.out _ y1
    subst e3
    rw [y2] at e4
    simp only [Nat.mul_one,Nat.add_zero] at e4
    have k1:decide (qbw f i ≥ (qox f h.length).length)=false:=qko (by omega)
    have k2:decide ((qox f h.length).length≤qbw f i)=false:=qko (by omega)
    have k3:decide (((qbw f i:Nat):Int) ≥ ((qox f h.length).length:Int))=false:=qko (by omega)
    have k4:decide (((qox f h.length).length:Int)≤((qbw f i:Nat):Int))=false:=qko (by omega)
    have k5:decide (qbw f i<(qox f h.length).length)=true:=qkn y1
    have k6:decide (((qbw f i:Nat):Int)<((qox f h.length).length:Int))=true:=qkn (by omega)
    clear hfi HS HY y2
    go_wp2_with fail
    go_roundw
    case rel=>exact ⟨i+1,hlt,by rw [HS2.out];go_num,by go_num,by first|trivial|rfl⟩
    case measure=>simp [intOf];omega
  ·obtain rfl:i=h.length:=by omega
   have HL:Hid ((qox f h.length).length=qbw f h.length):=qv5 f h.length
   rw [HL.out]
   go_wp2_with fail
   go_ret
   exact ⟨rfl,rfl⟩
end
section
def qz9 (f:Nat→Bool) (n:Nat):List Bool:=(List.range n).map f
theorem qfb (f:Nat→Bool) (n:Nat):(qz9 f n).length=n:=by unfold qz9;simp
theorem qqs (f:Nat→Bool) {n i:Nat} (h:i<n):(qz9 f n).getD i false=f i:=by unfold qz9;simp [List.getD,h]
theorem qqn {w:World} {g n:Nat} {f:Nat→Bool} (h:w.heap[g]?=some (.cells (qc1 f n) 4)) (hn:n≤maxLen):RdB w (.slice (some ⟨g,0,none⟩) n n) (qz9 f n):=by
 refine ⟨some ⟨g,0,none⟩,n,by rw [qfb],by rw [qfb];exact Nat.le_refl _,hn,fun i hi=>?_⟩
 rw [qfb] at hi
 refine ⟨g,0,rfl,?_⟩
 simp only [Nat.zero_add,Nat.mul_one,Nat.add_zero]
 rw [qab h,qlk _ hi,qqs _ hi]
theorem qi0 (m:Md) (v:Value) (n:Int) (vs:Value) (s:List Bool) (w:World) (hn:qtw m) (hv:MdV w v m) (hs:RdB w vs s) :
  Calls Try.prog 5 #[v,.int .i64 n,vs] w fun e w'=>e=.returned (.bool true)∧Below w.heap.size w w':=by
 have HR:Hid (∀ w',Ext w w'→Calls Try.prog 8 #[v,.int .i64 n] w' fun e w''=>e=.returned (.bool (qc4 m n))∧Below w'.heap.size w' w''):=fun w' he=>qvl m v n w' (hv.ext he)
 have HV:=qkm hv
 have HSV:=qkm hs
 obtain ⟨vg,vd,vp,rfl,hvg,hvd,hvp⟩:=hv
 have hvp':=hvp
 obtain ⟨ap,cp,rfl,hp1,hp2, -⟩:=hvp'
 unfold maxLen at hp2
 have HPS:=qkm (qcx.at6 hvp).2
 have HN:=qkm hn
 obtain ⟨sa,sc,rfl,hs1,hs2, -⟩:=hs
 unfold maxLen at hs2
 clear hvg hvd hvp hn
 obtain ⟨W0,hW0⟩:∃ W0,W0=w.alloc (.cells #[vg,vd,.slice ap m.procs.length cp,.int .i64 m.main] 26):=⟨_,rfl⟩
 have B0:Hid (Below w.heap.size w W0):=by rw [hW0];exact qaa w _
 have H0:=qkm (qb0 w _ _ hW0)
 have HW0:=qkm hW0.symm
 clear hW0
 go_enter Try.func5,Try.ntmps5
 go_upto_region 1 with (fail)
 rw [HW0.out]
 obtain ⟨y0,y1,y2,y3,l0⟩:=cl4 H0.out
 go_wp2_with fail
 refine (HR.out W0 (Ext.below B0.out)).mono ?_
 rintro e w1 ⟨rfl,hb1⟩
 have H0:=qkm ((hb1.block w.heap.size l0).trans H0.out)
 have BB:=qkm (B0.out.trans (hb1.mono B0.out.size))
 clear hb1 HR HW0 B0 y0 y1 y2 y3 l0
 obtain ⟨y0,y1,y2,y3,l0⟩:=cl4 H0.out
 cases hr:qc4 m n
 ·clear hr
  go_wp2_with fail
  refine (qne _ _).mono ?_
  rintro e w3 ⟨rfl,hb3⟩
  have BB:=qkm (BB.out.trans (hb3.mono BB.out.size))
  clear hb3
  go_wp2_with fail
  refine (qf9 _).mono ?_
  rintro e w4 ⟨rfl,hb4⟩
  have BB:=qkm (BB.out.trans (hb4.mono BB.out.size))
  clear hb4
  go_wp2_with fail
  go_ret
  exact ⟨rfl,BB.out⟩
 ·obtain ⟨hfw,k,rfl,h1,h40,hokm⟩:=qtb hr
  clear hr
  have g5:decide ((k:Int)<(m.procs.length:Int))=true:=qkn (by omega)
  have g6:decide (k<m.procs.length)=true:=qkn h1
  obtain ⟨bp,op,tnm,tvo,tvb,hap,hto,htb,t0,t1,t2,t3,t4,t5⟩:=HPS.out k h1
  subst hap
  have hAP:=qkm (q0g hfw hokm HN.out h1 h40)
  have hf:=fun W (hW:Ext w W)=>qw4 m k s _ _ W (HV.out.ext hW) (HSV.out.ext hW) (hAP.out.fi h1)
  unfold qym at hf
  have HFND:=qkm hf
  have HRF:=qkm (fun W (hW:Ext w W)=>qyt m k s _ _ W (HV.out.ext hW) (HSV.out.ext hW) hAP.out h1)
  clear hf hokm hfw HPS HN h40
  generalize m.procs.getD k default=P at *
  have hnb:P.blks.length≤40:=hAP.out.blks
  obtain ⟨ab,cb,rfl,hcb1,hcb2, -⟩:=htb
  unfold maxLen at hcb2
  have hE1:Ext w w1:=Ext.below BB.out
  have t5:=hE1 _ _ t5
  clear t0 t1 t2 t3 t4 hE1 hto
  by_cases h12:P.blks.length > 12
  ·have g7:decide (P.blks.length > 12)=true:=qkn h12
   have g8:decide (12<P.blks.length)=true:=qkn h12
   have g9:decide ((P.blks.length:Int) > 12)=true:=qkn (by omega)
   have g10:decide ((12:Int)<(P.blks.length:Int))=true:=qkn (by omega)
   go_wp2_with fail
   refine (qne _ _).mono ?_
   rintro e w3 ⟨rfl,hb3⟩
   have BB:=qkm (BB.out.trans (hb3.mono BB.out.size))
   clear hb3
   go_wp2_with fail
   refine (qf9 _).mono ?_
   rintro e w4 ⟨rfl,hb4⟩
   have BB:=qkm (BB.out.trans (hb4.mono BB.out.size))
   clear hb4
   go_wp2_with fail
   go_ret
   exact ⟨rfl,BB.out⟩
  ·have g7:decide (P.blks.length > 12)=false:=qko h12
   have g8:decide (12<P.blks.length)=false:=qko h12
   have g9:decide ((P.blks.length:Int) > 12)=false:=qko (by omega)
   have g10:decide ((12:Int)<(P.blks.length:Int))=false:=qko (by omega)
   by_cases h60:s.length > 60
   ·have g1:decide (s.length > 60)=true:=qkn h60
    have g2:decide (60<s.length)=true:=qkn h60
    have g3:decide ((s.length:Int) > 60)=true:=qkn (by omega)
    have g4:decide ((60:Int)<(s.length:Int))=true:=qkn (by omega)
    go_wp2_with fail
    refine (qne _ _).mono ?_
    rintro e w3 ⟨rfl,hb3⟩
    have BB:=qkm (BB.out.trans (hb3.mono BB.out.size))
    clear hb3
    go_wp2_with fail
    refine (qf9 _).mono ?_
    rintro e w4 ⟨rfl,hb4⟩
    have BB:=qkm (BB.out.trans (hb4.mono BB.out.size))
    clear hb4
    go_wp2_with fail
    go_ret
    exact ⟨rfl,BB.out⟩
   ·have g1:decide (s.length > 60)=false:=qko h60
    have g2:decide (60<s.length)=false:=qko h60
    have g3:decide ((s.length:Int) > 60)=false:=qko (by omega)
    have g4:decide ((60:Int)<(s.length:Int))=false:=qko (by omega)
    go_wp2_with fail
    refine (HFND.out w1 (Ext.below BB.out)).mono ?_
    clear HFND
    rintro e w3 ⟨gP,ts,X,kv,x,sp,rfl,hP,hso,hst,hbs,hkT,hEx,hCx,hsp,hkp,hkN⟩
    have HSD:=qkm (show _∧_∧_∧_∧_∧_ from ⟨hso,hst,hbs,hkT ▸ hEx,hCx,hsp⟩)
    have B3:=qkm hP.below
    have HROW:Hid (∀ b,b<P.blks.length→∀ wr,Below w3.heap.size w3 wr→RdI wr (ts.getD b undef) (qox (fun j=>qiq (qb8 P s) (qad P) (qbe kv x sp) (qja (qb8 P s) (qad P).length P b j (X.getD b 0)) ((P.blks.getD b default).ins.getD j default)) (P.blks.getD b default).ins.length)):=fun b hb wr hw=>by
     have h:=hP.row b hb
     have e:(((List.range P.blks.length).map fun b=>(qv1 (qb8 P s) P (qbe kv x sp) X b).map fun j:Nat=>(j:Int)).getD b [])=(qv1 (qb8 P s) P (qbe kv x sp) X b).map fun j:Nat=>(j:Int):=by
      simp only [List.getD,List.getElem?_map,List.getElem?_range hb,Option.map_some,Option.getD_some]
     rw [e] at h
     exact RdI.ext (qa8.rd h) (Ext.below hw)
    have HCL:Hid (∀ b,b<P.blks.length→w3.cell? ⟨gP,b,none⟩=some (ts.getD b undef)):=fun b hb=>hP.cell hb
    have H0:=qkm ((B3.out.block _ (qkp H0.out).1).trans H0.out)
    have BB:=qkm (BB.out.trans (B3.out.mono BB.out.size))
    clear hP B3 hso hst hbs hkT hEx hCx hsp hkp hkN y0 y1 y2 y3 l0 t5
    obtain ⟨y0,y1,y2,y3,l0⟩:=cl4 H0.out
    go_wp2_with fail
    refine (HRF.out w3 (Ext.below BB.out)).mono ?_
    clear HRF
    rintro e w4 ⟨gA,cA,gs,F,ax,rfl,hc1,hc2,hb4,htab,hrow,hat,hEy,hCy⟩
    obtain ⟨hso,hst,hbs,hEx,hCx,hsp⟩:=HSD.out
    have HEN:Hid (qdo P (P.objs.length+m.globs.length+1) x ax):=qdo.of hEx hEy hCx hCy hAP.out.cons
    have HRS:Hid (∀ b,b<P.blks.length→∀ wr,Below w4.heap.size w4 wr→Calls Try.prog 17 #[ts.getD b undef,.slice (some ⟨gs b,0,none⟩) (lenI P b) (lenI P b)] wr fun e w'=>e=.returned (.bool true)∧w'=wr):=fun b hb wr hw=>by
     have hl60:lenI P b≤60:=(hAP.out.ins (P.blks.getD b default) (qa5 hb)).1
     refine qvs (fun j=>qiq (qb8 P s) (qad P) (qbe kv x sp) (qja (qb8 P s) (qad P).length P b j (X.getD b 0)) ((P.blks.getD b default).ins.getD j default)) (qz9 (F b) (lenI P b)) _ _ wr ?_ ?_ ?_ ?_
     ·rw [qfb]
      exact HROW.out b hb wr (hb4.trans (hw.mono hb4.size))
     ·exact qqn ((hw.block _ (qkp (hrow b hb)).1).trans (hrow b hb)) (by unfold maxLen;omega)
     ·intro i hi
      rw [qfb] at hi
      rw [qqs _ hi]
      exact qyw hAP.out hso hst HEN.out hbs hsp hb hi (hat b i hb hi)
     ·rw [qfb];omega
    have HTS:Hid (∀ b,b<P.blks.length→∃ a k c,ts.getD b undef=.slice a k c):=fun b hb=>by
     obtain ⟨a,c,e, -⟩:=HROW.out b hb w3 (Below.refl _ _)
     exact ⟨a,_,c,e⟩
    have HC3:Hid (∀ b,b<P.blks.length→w4.cell? ⟨gP,b,none⟩=some (ts.getD b undef)):=fun b hb=>Ext.below hb4 _ _ (HCL.out b hb)
    have HC4:=qkm htab
    have BB:=qkm (BB.out.trans (hb4.mono BB.out.size))
    have HC1:=qkm hc1
    unfold maxLen at hc2
    clear hso hst hbs hEx hCx hsp HSD HEN HROW HCL htab hrow hat hEy hCy hb4 hc1 y0 y1 y2 y3 l0 H0
    go_wp2_with fail
    go_loopw [12] (fun bv wr=>∃ (b:Nat),bv=.int .i64 (b:Int)∧b≤P.blks.length∧Hid (Below w4.heap.size w4 wr)) (fun bv _=>P.blks.length-(intOf bv).toNat)
    case atStart=>exact ⟨0,rfl,Nat.zero_le _,Below.refl _ _⟩
    case round=>
     obtain ⟨b,rfl,hb,HB⟩:=hrel
     by_cases hlb:b<P.blks.length
     ·have q1:decide (b<P.blks.length)=true:=qkn hlb
      have q2:decide ((b:Int)<(P.blks.length:Int))=true:=qkn (by omega)
      have x0:=Ext.below HB.out _ _ (HC3.out b hlb)
      have x1:=Ext.below HB.out _ _ (HC4.out b hlb)
      have HRR:=qkm (fun wr' (h:Below wr.heap.size wr wr')=>HRS.out b hlb wr' (HB.out.trans (h.mono HB.out.size)))
      obtain ⟨ta,tk,tc,ets⟩:=HTS.out b hlb
      rw [ets] at x0 HRR
      clear ets
      generalize lenI P b=nl at *
      generalize gs b=gb at *
      go_wp2_with fail
      refine qak (fun _=>True) (by kernel_rfl) ?_
      refine qan [0,1,2,3,4,5,6,7] _ _ _ _ (by kernel_rfl) ?_
      simp only [qka,qkb,qkc,qkd,qke,qkf,qkg,qkh,qki,Nat.reduceAdd,Nat.reduceSub]
      repeat (go_big_quiet_step (fail))
      refine wpQuiet_nil ?_
      clear x0 x1
      refine qay 8 _ rfl (by kernel_rfl) ?_
      simp only [qkj,qkk,qkl]
      intro wj hj
      go_wp2_with fail
      refine (HRR.out wj hj).mono ?_
      rintro e w6 ⟨rfl,rfl⟩
      go_wp2_with fail
      refine ⟨qa3.below (Below.refl _ _),?_⟩
      have BJ:=qkm (HB.out.trans (hj.mono HB.out.size))
      clear hj
      refine qan [9] _ _ _ _ (by kernel_rfl) ?_
      simp only [qka,qkb,qkc,qkd,qke,qkf,qkg,qkh,qki,Nat.reduceAdd,Nat.reduceSub]
      repeat (go_big_quiet_step (fail))
      refine wpQuiet_nil ?_
      refine qbh (by kernel_rfl) (fun wm hm=>?_) _
      have BM:=qkm (BJ.out.trans (hm.mono BJ.out.size))
      clear hm
      go_wp2_with fail
      go_roundw
      case rel=>exact ⟨b+1,by go_num,hlb,BM⟩
      case measure=>simp [intOf];omega
     ·have q1:decide (b<P.blks.length)=false:=qko hlb
      have q2:decide ((b:Int)<(P.blks.length:Int))=false:=qko (by omega)
      have BR:=qkm (BB.out.trans (HB.out.mono BB.out.size))
      go_wp2_with fail
      refine (qf9 _).mono ?_
      rintro e w6 ⟨rfl,hb6⟩
      have BR:=qkm (BR.out.trans (hb6.mono BR.out.size))
      clear hb6
      go_wp2_with fail
      go_ret
      exact ⟨rfl,BR.out⟩
theorem qjh (m:Md) (v:Value) (n:Int) (s:List Bool) (vs:Value) (w:World) (hn:qtw m) (hv:MdV w v m) (_:True) (hs:RdB w vs s) :
  Calls Try.prog 5 #[v,.int .i64 n,vs] w fun e w'=>e=.returned (.bool true)∧Below w.heap.size w w':=qi0 m v n vs s w hn hv hs
end
section
theorem ql3:ownKnob Try.prog.godebug=none:=by kernel_rfl
theorem qj0:laidOutB Try.prog=true:=by kernel_rfl
section
variable {H:Type} {enc:TypeId×Value→H} {P:Program}
theorem qiw (hl:laidOutB P=true) {W W':World} (hb:Below W.heap.size W W'):∀ (ts:List TypeId) (vs:List Value) (ds:List (DataW H)) (ps:List MemPlace),
  ts.all (fun t=>P.readableRec t && decide (t<P.types.size))=true→(∀ p∈ps,p.block<W.heap.size)→DataW.TrodAll enc P W 0 (fun _=>true) true ts vs ds ps→
  DataW.TrodAll enc P W' 0 (fun b=>decide (b<W.heap.size)) true ts vs ds ps:=by
 intro ts
 induction ts with
 | nil=>
  intro vs ds ps _ _ h
  obtain ⟨rfl,rfl,rfl⟩:=trodAll_nil h
  exact trodAll_mk0
 | cons t ts ih=>
  intro vs ds ps hr hlt h
  obtain ⟨v,vs',d,ds',p,q,rfl,rfl,rfl,h0,r0⟩:=trodAll_cons h
  simp only [List.all_cons,Bool.and_eq_true,decide_eq_true_eq] at hr
  refine trodAll_cons_mk ?_ (ih _ _ _ hr.2 (fun x hx=>hlt x (List.mem_append_right _ hx)) r0)
  exact Below.trod hl hr.1.1 hr.1.2 h0 hb (fun x hx=>hlt x (List.mem_append_left _ hx))
end
end
section
open Go Go.RowKit Go.ChangeShapes Go.WideShapes Go.Deep
theorem qrc {α:Type} [Inhabited α] {Q:Nat→α→Prop}:∀ (n:Nat),(∀ i,i<n→∃ x,Q i x)→∃ l:List α,l.length=n∧∀ i,i<n→Q i (l.getD i default)
 | 0,_=>⟨[],rfl,fun i hi=>absurd hi (Nat.not_lt_zero i)⟩
 | n+1,h=>by
  obtain ⟨l,hl,hq⟩:=qrc n fun i hi=>h i (by omega)
  obtain ⟨x,hx⟩:=h n (Nat.lt_succ_self n)
  refine ⟨l++[x],by simp [hl],fun i hi=>?_⟩
  by_cases e:i<n
  ·have:=hq i e
   simpa [List.getD,List.getElem?_append,hl,e] using this
  ·obtain rfl:i=n:=by omega
   simpa [List.getD,List.getElem?_append,hl] using hx
theorem qnn (b o n:Nat):(⟨b,o,none⟩:Addr).add n=⟨b,o+n,none⟩:=by unfold Addr.add;split <;> simp_all
section
variable {H:Type} {enc:TypeId×Value→H} {w:World} {base:Nat} {spare:Nat→Bool} {held:Bool}
theorem qcv {α:Type} [Inhabited α] {t e:TypeId} {k fuel:Nat} {v:Value} {y:DataW H×List MemPlace} (Ok:α→Prop) (R:α→(Nat→Option Value)→Prop) (ht:Try.prog.underlying t=some (.slice e)) (hk:Try.prog.cellsOf e=k+1)
  (h:DataW.trod enc Try.prog w base spare held fuel t [v]=some y)
  (hR:∀ n cs z,DataW.trod enc Try.prog w base spare held n e cs=some z→∃ a,Ok a∧R a fun j=>cs[j]?) (hs:∀ a c c',Sub c c'→R a c→R a c') :
  ∃ l:List α,(∀ i,i<l.length→Ok (l.getD i default))∧qb5 w v (k+1) l.length fun i c=>R (l.getD i default) c:=by
 rcases open_slice ht h with ⟨h0, -⟩|⟨a,len,cap,m,n,D,Pl,hcs,hb,hl,hm,hmm,hx,hi⟩
 ·obtain rfl:v=.slice none 0 0:=by simpa using h0
  exact ⟨[],fun i hi=>absurd hi (Nat.not_lt_zero i),none,0,rfl,Nat.le_refl _,by simp [maxLen],fun i hi=>absurd hi (Nat.not_lt_zero i)⟩
 ·obtain rfl:v=.slice (some a) len cap:=by simpa using hcs
  have hlm:len≤m:=by rw [hmm];split <;> omega
  obtain ⟨b,o,sp⟩:=a
  have hsp:0<len→sp=none:=fun h0=>by
   obtain ⟨cs,hc, -⟩:=hi 0 (by omega)
   rw [hk] at hc
   obtain ⟨-,hlen,hcell⟩:=World.cells?_some hc
   have h1:=hcell 0 (Nat.succ_pos k)
   cases sp with
   | none=>rfl
   | some s=>
    rw [List.getElem?_eq_getElem (by omega)] at h1
    simp only [World.cell?,Addr.add,Nat.zero_mul,if_true] at h1
    split at h1 <;> simp at h1
  have key:∀ i,i<len→∃ x:α,Ok x∧∃ b' o',some (⟨b,o,sp⟩:Addr)=some ⟨b',o',none⟩∧R x fun j=>w.cell? ⟨b',o'+i*(k+1)+j,none⟩:=fun i hil=>by
   obtain rfl:=hsp (by omega)
   obtain ⟨cs,hc,htr⟩:=hi i (by omega)
   rw [hk] at hc
   obtain ⟨x,hok,hr⟩:=hR n cs _ htr
   obtain ⟨-,hlen,hcell⟩:=World.cells?_some hc
   refine ⟨x,hok,b,o,rfl,hs x _ _ (fun j u hu=>?_) hr⟩
   have hj:j<k+1:=by
    have:=(List.getElem?_eq_some_iff.1 hu).1
    omega
   have h1:=hcell j hj
   rw [hu,qnn,qnn] at h1
   exact h1
  obtain ⟨l,hll,hq⟩:=qrc len key
  subst hll
  exact ⟨l,fun i hi=>(hq i hi).1,some ⟨b,o,sp⟩,cap,rfl,hl,hm,fun i hi=>(hq i hi).2⟩
theorem q02 {t:TypeId} {fs:Array Field} {fuel:Nat} {cs:List Value} {x:DataW H×List MemPlace} (hs:Try.prog.underlying t=some (.struct fs)) (hone:oneCellFields Try.prog fs=true) (hC:Try.prog.cellsOf t=fs.size)
  (h:DataW.trod enc Try.prog w base spare held fuel t cs=some x):∃ n,∀ (j:Nat) (f:Field),fs[j]?=some f→∃ v y,cs[j]?=some v∧DataW.trod enc Try.prog w base spare held n f.type [v]=some y:=by
 obtain ⟨ys,n, -, -,hlen,hyl,hf⟩:=DataW.trod_struct hs h
 refine ⟨n,fun j f hj=>?_⟩
 obtain ⟨ho,hk⟩:=hone_of hone j f hj
 have hjl:j<fs.size:=(qkp hj).1
 have h1:=hf j f hj
 rw [ho,hk] at h1
 have hone':(cs.drop j).take 1=[cs[j]'(by omega)]:=by
  rw [List.drop_eq_getElem_cons (by omega)]
  rfl
 rw [hone'] at h1
 have hys:ys[j]?=some (ys[j]'(by omega)):=List.getElem?_eq_getElem (by omega)
 exact ⟨_,_,List.getElem?_eq_getElem (by omega),h1.trans hys⟩
variable {n:Nat} {v:Value} {cs:List Value} {y:DataW H×List MemPlace}
theorem qcp (h:DataW.trod enc Try.prog w base spare held n 3 [v]=some y):∃ a:Int,v=.int .i64 a∧I64 a:=by
 obtain ⟨a,e0,_,wa⟩:=DataW.trod_int Try.underlying3 h
 simp at e0
 have:=Go.bounds_i64 wa
 exact ⟨a,e0,by unfold I64;omega⟩
theorem q1j (h:DataW.trod enc Try.prog w base spare held n 56 [v]=some y):∃ a:Int,v=.int .u32 a∧0≤a∧a<4294967296:=by
 obtain ⟨a,e0,_,wa⟩:=DataW.trod_int Try.underlying56 h
 simp at e0
 have:=Go.bounds_u32 wa
 exact ⟨a,e0,by omega,by omega⟩
theorem qwu (h:DataW.trod enc Try.prog w base spare held n 4 [v]=some y):∃ a:Bool,v=.bool a:=by
 obtain ⟨a,e0,_⟩:=DataW.trod_bool Try.underlying4 h
 simp at e0
 exact ⟨a,e0⟩
theorem qwy (h:DataW.trod enc Try.prog w base spare held n 9 [v]=some y):∃ a:ByteArray,v=.string a:=by
 obtain ⟨a,e0,_⟩:=DataW.trod_string Try.underlying9 h
 simp at e0
 exact ⟨a,e0⟩
theorem q1e (h:DataW.trod enc Try.prog w base spare held n 45 [v]=some y):∃ l:List Int,(∀ x∈l,I64 x)∧RdI w v l:=by
 obtain ⟨l,h1,h2⟩:=qcv (k:=0) (fun x=>I64 x) (fun x c=>c 0=some (.int .i64 x)) Try.underlying45 (by kernel_rfl) h (fun n cs z hz=>by
  obtain ⟨a,rfl,_,wa⟩:=DataW.trod_int Try.underlying3 hz
  have:=Go.bounds_i64 wa
  exact ⟨a,by unfold I64;omega,rfl⟩) (fun a c c' hs h=>hs _ _ h)
 refine ⟨l,fun x hx=>?_,h2⟩
 obtain ⟨i,hi,rfl⟩:=List.mem_iff_getElem.1 hx
 have:=h1 i hi
 simpa [List.getD,hi] using this
theorem q0m (h:DataW.trod enc Try.prog w base spare held n 93 [v]=some y):∃ l:List Int,(∀ x∈l,0≤x∧x<256)∧RdY w v l:=by
 obtain ⟨l,h1,h2⟩:=qcv (k:=0) (fun x=>0≤x∧x<256) (fun x c=>c 0=some (.int .u8 x)) Try.underlying93 (by kernel_rfl) h (fun n cs z hz=>by
  obtain ⟨a,rfl,_,wa⟩:=DataW.trod_int Try.underlying5 hz
  have:=Go.bounds_u8 wa
  exact ⟨a,by omega,rfl⟩) (fun a c c' hs h=>hs _ _ h)
 refine ⟨l,fun x hx=>?_,h2⟩
 obtain ⟨i,hi,rfl⟩:=List.mem_iff_getElem.1 hx
 have:=h1 i hi
 simpa [List.getD,hi] using this
theorem qzk (h:DataW.trod enc Try.prog w base spare held n 58 cs=some y):∃ i:In,q0a i∧InC w (fun j=>cs[j]?) i:=by
 obtain ⟨m,F⟩:=q02 Try.underlying58 (by kernel_rfl) (by kernel_rfl) h
 obtain ⟨v0,y0,e0,k0⟩:=F 0 _ rfl
 obtain ⟨v1,y1,e1,k1⟩:=F 1 _ rfl
 obtain ⟨v2,y2,e2,k2⟩:=F 2 _ rfl
 obtain ⟨v3,y3,e3,k3⟩:=F 3 _ rfl
 obtain ⟨v4,y4,e4,k4⟩:=F 4 _ rfl
 obtain ⟨v5,y5,e5,k5⟩:=F 5 _ rfl
 obtain ⟨v6,y6,e6,k6⟩:=F 6 _ rfl
 obtain ⟨v7,y7,e7,k7⟩:=F 7 _ rfl
 obtain ⟨v8,y8,e8,k8⟩:=F 8 _ rfl
 obtain ⟨v9,y9,e9,k9⟩:=F 9 _ rfl
 obtain ⟨v10,y10,e10,k10⟩:=F 10 _ rfl
 obtain ⟨a0,rfl,b0⟩:=qcp k0
 obtain ⟨a1,rfl,b1⟩:=qcp k1
 obtain ⟨a2,rfl,b2⟩:=qcp k2
 obtain ⟨a3,rfl,b3⟩:=qcp k3
 obtain ⟨a4,rfl,b4⟩:=qcp k4
 obtain ⟨a5,rfl,b5⟩:=qcp k5
 obtain ⟨a6,rfl,b6⟩:=qcp k6
 obtain ⟨a7,rfl,b7⟩:=qcp k7
 obtain ⟨a8,rfl,b8⟩:=q1j k8
 obtain ⟨l,hl,hr⟩:=q1e k9
 obtain ⟨a10,rfl⟩:=qwu k10
 exact ⟨⟨a0,a1,a2,a3,a4,a5,a6,a7,a8,l,a10⟩,⟨b0,b1,b2,b3,b4,b5,b6,b7,b8,hl⟩,⟨e0,e1,e2,e3,e4,e5,e6,e7,e8,⟨v9,e9,hr⟩,e10⟩⟩
theorem qwh (h:DataW.trod enc Try.prog w base spare held n 49 [v]=some y):∃ l:List In,(∀ x∈l,q0a x)∧qbd w v l:=by
 obtain ⟨l,h1,h2⟩:=qcv (k:=10) q0a (fun x c=>InC w c x) Try.underlying49 (by kernel_rfl) h (fun n cs z hz=>qzk hz) (fun a c c' hs h=>h.ext (Ext.refl w) hs)
 refine ⟨l,fun x hx=>?_,h2⟩
 obtain ⟨i,hi,rfl⟩:=List.mem_iff_getElem.1 hx
 have:=h1 i hi
 simpa [List.getD,hi] using this
theorem qzy (h:DataW.trod enc Try.prog w base spare held n 51 cs=some y):∃ i:Bk,q16 i∧BkC w (fun j=>cs[j]?) i:=by
 obtain ⟨m,F⟩:=q02 Try.underlying51 (by kernel_rfl) (by kernel_rfl) h
 obtain ⟨v0,y0,e0,k0⟩:=F 0 _ rfl
 obtain ⟨v1,y1,e1,k1⟩:=F 1 _ rfl
 obtain ⟨v2,y2,e2,k2⟩:=F 2 _ rfl
 obtain ⟨v3,y3,e3,k3⟩:=F 3 _ rfl
 obtain ⟨v4,y4,e4,k4⟩:=F 4 _ rfl
 obtain ⟨l,hl,hr⟩:=qwh k0
 obtain ⟨a1,rfl,b1⟩:=qcp k1
 obtain ⟨a2,rfl,b2⟩:=qcp k2
 obtain ⟨a3,rfl,b3⟩:=qcp k3
 obtain ⟨a4,rfl,b4⟩:=qcp k4
 exact ⟨⟨l,a1,a2,a3,a4⟩,⟨hl,b1,b2,b3,b4⟩,⟨⟨v0,e0,hr⟩,e1,e2,e3,e4⟩⟩
theorem qur (h:DataW.trod enc Try.prog w base spare held n 30 [v]=some y):∃ l:List Bk,(∀ x∈l,q16 x)∧qbl w v l:=by
 obtain ⟨l,h1,h2⟩:=qcv (k:=4) q16 (fun x c=>BkC w c x) Try.underlying30 (by kernel_rfl) h (fun n cs z hz=>qzy hz) (fun a c c' hs h=>h.ext (Ext.refl w) hs)
 refine ⟨l,fun x hx=>?_,h2⟩
 obtain ⟨i,hi,rfl⟩:=List.mem_iff_getElem.1 hx
 have:=h1 i hi
 simpa [List.getD,hi] using this
theorem qyz (h:DataW.trod enc Try.prog w base spare held n 92 cs=some y):∃ i:Sl,q0p i∧SlC (fun j=>cs[j]?) i:=by
 obtain ⟨m,F⟩:=q02 Try.underlying92 (by kernel_rfl) (by kernel_rfl) h
 obtain ⟨v0,y0,e0,k0⟩:=F 0 _ rfl
 obtain ⟨v1,y1,e1,k1⟩:=F 1 _ rfl
 obtain ⟨v2,y2,e2,k2⟩:=F 2 _ rfl
 obtain ⟨v3,y3,e3,k3⟩:=F 3 _ rfl
 obtain ⟨s,rfl⟩:=qwy k0
 obtain ⟨a1,rfl,b1⟩:=qcp k1
 obtain ⟨a2,rfl,b2⟩:=qcp k2
 obtain ⟨a3,rfl,b3⟩:=qcp k3
 exact ⟨⟨a1,a2,a3⟩,⟨b1,b2,b3⟩,⟨⟨s,e0⟩,e1,e2,e3⟩⟩
theorem qou (h:DataW.trod enc Try.prog w base spare held n 22 [v]=some y):∃ l:List Sl,(∀ x∈l,q0p x)∧qce w v l:=by
 obtain ⟨l,h1,h2⟩:=qcv (k:=3) q0p (fun x c=>SlC c x) Try.underlying22 (by kernel_rfl) h (fun n cs z hz=>qyz hz) (fun a c c' hs h=>h.ext hs)
 refine ⟨l,fun x hx=>?_,h2⟩
 obtain ⟨i,hi,rfl⟩:=List.mem_iff_getElem.1 hx
 have:=h1 i hi
 simpa [List.getD,hi] using this
theorem qxj (h:DataW.trod enc Try.prog w base spare held n 32 cs=some y):∃ i:Pr,quq i∧PrC w (fun j=>cs[j]?) i:=by
 obtain ⟨m,F⟩:=q02 Try.underlying32 (by kernel_rfl) (by kernel_rfl) h
 obtain ⟨v0,y0,e0,k0⟩:=F 0 _ rfl
 obtain ⟨v1,y1,e1,k1⟩:=F 1 _ rfl
 obtain ⟨v2,y2,e2,k2⟩:=F 2 _ rfl
 obtain ⟨v3,y3,e3,k3⟩:=F 3 _ rfl
 obtain ⟨v4,y4,e4,k4⟩:=F 4 _ rfl
 obtain ⟨v5,y5,e5,k5⟩:=F 5 _ rfl
 obtain ⟨s,rfl⟩:=qwy k0
 obtain ⟨a1,rfl⟩:=qwu k1
 obtain ⟨a2,rfl,b2⟩:=qcp k2
 obtain ⟨a3,rfl,b3⟩:=qcp k3
 obtain ⟨l4,h4,r4⟩:=qou k4
 obtain ⟨l5,h5,r5⟩:=qur k5
 exact ⟨⟨a1,a2,a3,l4,l5⟩,⟨b2,b3,h4,h5⟩,⟨⟨s,e0⟩,e1,e2,e3,⟨v4,e4,r4⟩,⟨v5,e5,r5⟩⟩⟩
theorem qvv (h:DataW.trod enc Try.prog w base spare held n 24 [v]=some y):∃ l:List Pr,(∀ x∈l,quq x)∧qcx w v l:=by
 obtain ⟨l,h1,h2⟩:=qcv (k:=5) quq (fun x c=>PrC w c x) Try.underlying24 (by kernel_rfl) h (fun n cs z hz=>qxj hz) (fun a c c' hs h=>h.ext (Ext.refl w) hs)
 refine ⟨l,fun x hx=>?_,h2⟩
 obtain ⟨i,hi,rfl⟩:=List.mem_iff_getElem.1 hx
 have:=h1 i hi
 simpa [List.getD,hi] using this
theorem qzs (h:DataW.trod enc Try.prog w base spare held n 23 [v]=some y):∃ l:List (List Int),(∀ d∈l,∀ x∈d,0≤x∧x<256)∧qqf w v l:=by
 obtain ⟨l,h1,h2⟩:=qcv (k:=0) (fun (d:List Int)=>∀ x∈d,0≤x∧x<256) (fun d c=>∃ u,c 0=some u∧RdY w u d) Try.underlying23 (by kernel_rfl) h (fun n cs z hz=>by
  have hcs:∃ u,cs=[u]:=by
   rcases DataW.trod_slice Try.underlying93 hz with ⟨h, -⟩|⟨a,len,cap,_,_,_,_,h, -⟩
   ·exact ⟨_,h⟩
   ·exact ⟨_,h⟩
  obtain ⟨u,rfl⟩:=hcs
  obtain ⟨d,hd,hr⟩:=q0m hz
  exact ⟨d,hd,u,rfl,hr⟩) (fun a c c' hs ⟨u,h,k⟩=>⟨u,hs _ _ h,k⟩)
 refine ⟨l,fun x hx=>?_,h2⟩
 obtain ⟨i,hi,rfl⟩:=List.mem_iff_getElem.1 hx
 have:=h1 i hi
 simpa [List.getD,hi] using this
theorem qzh (h:DataW.trod enc Try.prog w base spare held n 26 cs=some y):∃ m:Md,qtw m∧∃ vg vd vp,cs[0]?=some vg∧cs[1]?=some vd∧cs[2]?=some vp∧cs[3]?=some (.int .i64 m.main)∧qce w vg m.globs∧qqf w vd m.data∧qcx w vp m.procs:=by
 obtain ⟨m,F⟩:=q02 Try.underlying26 (by kernel_rfl) (by kernel_rfl) h
 obtain ⟨v0,y0,e0,k0⟩:=F 0 _ rfl
 obtain ⟨v1,y1,e1,k1⟩:=F 1 _ rfl
 obtain ⟨v2,y2,e2,k2⟩:=F 2 _ rfl
 obtain ⟨v3,y3,e3,k3⟩:=F 3 _ rfl
 obtain ⟨l0,h0,r0⟩:=qou k0
 obtain ⟨l1,h1,r1⟩:=qzs k1
 obtain ⟨l2,h2,r2⟩:=qvv k2
 obtain ⟨a3,rfl,b3⟩:=qcp k3
 exact ⟨⟨l0,l1,l2,a3⟩,⟨h0,h1,h2,b3⟩,v0,v1,v2,e0,e1,e2,e3,r0,r1,r2⟩
variable {r:Reach} {b0:Nat} {d:DataW H} {ps:List MemPlace}
theorem qtr {t:TypeId} {fs:Array Field} (hs:Try.prog.underlying t=some (.struct fs)) (hone:oneCellFields Try.prog fs=true) (hC:Try.prog.cellsOf t=fs.size) (hv:Value.okWide Try.prog w r b0 t v) (h:DataW.Trod enc Try.prog w base spare held t v d ps) :
  ∃ l:List Value,l.length=fs.size∧v=.agg l.toArray∧∃ n,DataW.trod enc Try.prog w base spare held n t l=some (d,ps):=by
 obtain ⟨cs,rfl,hsz⟩:=okWide_struct hs hv
 obtain ⟨l⟩:=cs
 obtain ⟨n,h⟩:=h
 exact ⟨l,by simpa [hC] using hsz,rfl,n,by simpa [Value.cells] using h⟩
theorem q26 {l:List Value} (h:l.length=4) {x0 x1 x2 x3:Value} (e0:l[0]?=some x0) (e1:l[1]?=some x1) (e2:l[2]?=some x2) (e3:l[3]?=some x3):l=[x0,x1,x2,x3]:=by
 match l,h with
 | [a0,a1,a2,a3],_=>simp at e0 e1 e2 e3;subst e0 e1 e2 e3;rfl
theorem qt6 (hv:Value.okWide Try.prog w r b0 26 v) (h:DataW.Trod enc Try.prog w base spare held 26 v d ps):∃ m:Md,qtw m∧MdV w v m:=by
 obtain ⟨l,hl,rfl,n,h⟩:=qtr Try.underlying26 (by kernel_rfl) (by kernel_rfl) hv h
 obtain ⟨m,hm,vg,vd,vp,e0,e1,e2,e3,r0,r1,r2⟩:=qzh h
 rw [q26 hl e0 e1 e2 e3]
 exact ⟨m,hm,vg,vd,vp,rfl,r0,r1,r2⟩
end
end
section
open Go Go.RowKit Go.ChangeShapes Go.WideShapes Go.Deep
section
variable {H:Type} {enc:TypeId×Value→H} {w:World} {base:Nat} {spare:Nat→Bool} {held:Bool}
variable {v:Value} {r:Reach} {b0:Nat} {d:DataW H} {ps:List MemPlace}
theorem qud (hv:Value.okWide Try.prog w r b0 37 v) (h:DataW.Trod enc Try.prog w base spare held 37 v d ps):∃ l:List Bool,True∧RdB w v l:=by
 obtain ⟨n,h⟩:=h
 obtain ⟨a,len,cap,rfl⟩:=okWide_slice Try.underlying37 hv
 obtain ⟨l, -,h2⟩:=qcv (k:=0) (α:=Bool) (fun x=>True) (fun x c=>c 0=some (.bool x)) Try.underlying37 (by kernel_rfl) h (fun n cs z hz=>by
  obtain ⟨a,rfl,_⟩:=DataW.trod_bool Try.underlying4 hz
  exact ⟨a,trivial,rfl⟩) (fun a c c' hs h=>hs _ _ h)
 exact ⟨l,trivial,h2⟩
end
end
end Go.Proofs.Ytmcddolkpcgddaa
