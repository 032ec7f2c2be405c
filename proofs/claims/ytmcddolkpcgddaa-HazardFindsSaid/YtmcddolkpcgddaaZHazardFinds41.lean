/-
The document's answer for alias, plain: when the count stays nothing was added.
-/
import Derived.Test.YtmcddolkpcgddaaZHazardFinds40
set_option maxHeartbeats 4000000
set_option maxRecDepth 100000
set_option linter.all false
namespace Go.Proofs.Ytmcddolkpcgddaa
open Go.ChangeShapes Go.WideShapes Go.ChangeAt Go.RowKit
section
def qnw (p:Pr) (n k:Nat):List In:=(p.blks.take n).flatMap (·.ins)++(p.blks.getD n default).ins.take k
def dlP (r:Int) (l:List In):List In:=l.filter fun i=>qbn i ==r
theorem qr1 (p:Pr) (n k:Nat) (h:k<(p.blks.getD n default).ins.length):qnw p n (k+1)=qnw p n k++[(p.blks.getD n default).ins.getD k default]:=by
 unfold qnw
 generalize p.blks.getD n default=B at *
 rw [List.append_assoc]
 congr 1
 rw [List.take_succ,List.getElem?_eq_getElem h]
 simp [List.getD,List.getElem?_eq_getElem h]
theorem qs3 (p:Pr) (n:Nat) (h:n<p.blks.length):qnw p n (p.blks.getD n default).ins.length=qnw p (n+1) 0:=by
 unfold qnw
 rw [List.take_length,List.take_succ,List.getElem?_eq_getElem h,List.take_zero,List.append_nil,List.flatMap_append]
 simp [List.getD,List.getElem?_eq_getElem h]
theorem qvj (p:Pr):qnw p p.blks.length 0=q10 p:=by
 unfold qnw q10
 rw [List.take_zero,List.append_nil,List.take_length]
theorem qlg (p:Pr):qnw p 0 0=[]:=by simp [qnw]
theorem qol (r:Int) (l:List In) (i:In):dlP r (l++[i])=dlP r l++(if (qbn i ==r)=true then [i] else []):=by
 unfold dlP
 rw [List.filter_append]
 congr 1
 by_cases h:(qbn i ==r)=true <;> simp [h]
def exE (p:Pr) (r:Int) (n k:Nat):Ex:=(dlP r (qnw p n k)).foldl (exI p.objs.length) ⟨0,0,false⟩
def exN (p:Pr) (r:Int) (n k:Nat):Nat:=(dlP r (qnw p n k)).length
theorem q1k (p:Pr) (r:Int) (hb:∀ b∈p.blks,b.ins.length≤1000):∀ n k,n≤p.blks.length→exN p r n k≤n*1000+k:=by
 intro n k hn
 have h1:exN p r n k≤(qnw p n k).length:=List.length_filter_le _ _
 have h2:((p.blks.take n).flatMap (·.ins)).length≤n*1000:=by
  have:∀ l:List Bk,(∀ b∈l,b.ins.length≤1000)→(l.flatMap (·.ins)).length≤l.length*1000:=by
   intro l
   induction l with
   | nil=>intro _;simp
   | cons b l ih=>
    intro h
    have h3:=h b (List.mem_cons_self ..)
    have h4:=ih fun b hb=>h b (List.mem_cons_of_mem _ hb)
    rw [List.flatMap_cons,List.length_append,List.length_cons,Nat.succ_mul]
    omega
  refine Nat.le_trans (this _ fun b hb'=>hb b (List.mem_of_mem_take hb')) (Nat.mul_le_mul_right _ ?_)
  rw [List.length_take];omega
 have h3:((p.blks.getD n default).ins.take k).length≤k:=by rw [List.length_take];omega
 unfold qnw at h1
 rw [List.length_append] at h1
 omega
theorem qc6 (w:World) (A B C:Obj):(((w.alloc A).alloc B).alloc C).heap[w.heap.size]?=some A∧(((w.alloc A).alloc B).alloc C).heap[w.heap.size+1]?=some B∧(((w.alloc A).alloc B).alloc C).heap[w.heap.size+1+1]?=some C:=by
 refine ⟨?_,?_,?_⟩
 ·rw [heap_alloc,if_neg (by simp;omega),heap_alloc,if_neg (by simp),heap_alloc,if_pos rfl]
 ·rw [heap_alloc,if_neg (by simp),heap_alloc,if_pos (by simp)]
 ·rw [heap_alloc,if_pos (by simp)]
theorem qcy {w:World} {b:Nat} {x0 x1 x2:Value} {t:TypeId} (h:w.heap[b]?=some (.cells #[x0,x1,x2] t)) (u v y:Value):(((w.setCell ⟨b,0,none⟩ u).setCell ⟨b,1,none⟩ v).setCell ⟨b,2,none⟩ y).heap[b]?=some (.cells #[u,v,y] t) :=
 heap_setCell_same _ _ 2 _ _ _ (heap_setCell_same _ _ 1 _ _ _ (heap_setCell_same _ _ 0 _ _ _ h))
theorem qfa {w w1:World} {b:Nat} (h:Below w.heap.size w w1) (hb:w.heap.size≤b) (u v y:Value):Below w.heap.size w (((w1.setCell ⟨b,0,none⟩ u).setCell ⟨b,1,none⟩ v).setCell ⟨b,2,none⟩ y) :=
 ((h.setCell (p:=⟨b,0,none⟩) hb _).setCell (p:=⟨b,1,none⟩) hb _).setCell (p:=⟨b,2,none⟩) hb _
theorem qb1 {w:World} {b c:Nat} {z:Option Obj} (h:w.heap[c]?=z) (hc:c≠b) (u v y:Value):(((w.setCell ⟨b,0,none⟩ u).setCell ⟨b,1,none⟩ v).setCell ⟨b,2,none⟩ y).heap[c]?=z :=
 (Below.heap_setCell _ ⟨b,2,none⟩ _ c hc).trans ((Below.heap_setCell _ ⟨b,1,none⟩ _ c hc).trans ((Below.heap_setCell _ ⟨b,0,none⟩ _ c hc).trans h))
theorem qpn (p:Pr) (r:Int) (V:Value) (w:World) (hv:PrV w V p) (h:r<p.params∨p.regs≤r) :
  Calls Try.prog 141 #[V,.int .i64 r] w fun e w'=>e=.returned (.agg #[.int .i64 0,.int .i64 0,.bool false])∧Below w.heap.size w w':=by
 obtain ⟨nm,vo,vb,rfl, -, -⟩:=hv
 by_cases h1:r<p.params
 ·have g1:decide (r<p.params)=true:=qkn h1
  clear h h1
  go_enter Try.func141,Try.ntmps141
  go_wp2_with fail
  refine bodyPost_ret (v:=.agg #[.int .i64 0,.int .i64 0,.bool false]) (by simp [results,Try.results141,go_sem]) rfl ?_
  exact ⟨rfl,Below.alloc (qaa w _) (by simp) _⟩
 ·have g1:decide (r<p.params)=false:=qko h1
  have g2:decide (r ≥ p.regs)=true:=qkn (by omega)
  have g3:decide (p.regs≤r)=true:=qkn (by omega)
  clear h h1
  go_enter Try.func141,Try.ntmps141
  go_wp2_with fail
  refine bodyPost_ret (v:=.agg #[.int .i64 0,.int .i64 0,.bool false]) (by simp [results,Try.results141,go_sem]) rfl ?_
  exact ⟨rfl,Below.alloc (qaa w _) (by simp) _⟩
theorem qm1 (p:Pr) (r:Int) (V:Value) (w:World) (hv:PrV w V p) (h1:p.params≤r) (h2:r<p.regs) (hbl:p.blks.length≤1000) (hil:∀ b∈p.blks,b.ins.length≤1000) (hol:p.objs.length≤1000) (hob:∀ b∈p.blks,∀ i∈b.ins,i.op=8→0≤i.obj∧i.obj≤1000) :
  Calls Try.prog 141 #[V,.int .i64 r] w fun e w'=>e=.returned (.agg #[.int .i64 (exR p r).thing,.int .i64 (exR p r).off,.bool (exR p r).is])∧Below w.heap.size w w':=by
 obtain ⟨nm,vo,vb,rfl,hvo,hvb⟩:=hv
 have g1:decide (r<p.params)=false:=qko (by omega)
 have g2:decide (r ≥ p.regs)=false:=qko (by omega)
 have g3:decide (p.regs≤r)=false:=qko (by omega)
 have HX:Hid (exR p r=if exN p r p.blks.length 0=1 then exE p r p.blks.length 0 else ⟨0,0,false⟩):=by
  show exR p r=_
  unfold exR exN exE
  rw [if_neg (by omega),qvj]
  rfl
 have HNL:=qkm (q1k p r hil)
 obtain ⟨ab,cb,rfl,hb1,hb2,hb3⟩:=hvb
 obtain ⟨ao,co,rfl,ho1,ho2, -⟩:=hvo
 unfold maxLen at ho2
 have HBK:=qkm (qbl.at (w:=w) (a:=ab) (n:=p.blks.length) (c:=cb) (l:=p.blks) ⟨ab,cb,rfl,hb1,hb2,hb3⟩).2
 unfold maxLen at hb2
 clear hb3 h1 h2
 generalize exR p r=X at *
 go_enter Try.func141,Try.ntmps141
 go_wp2_with fail
 go_loopw [6,7] (fun s i wr=>∃ n:Nat,n≤p.blks.length∧i=.int .i64 (n:Int)∧s=.int .i64 (exN p r n 0:Int)∧Hid (wr.heap[w.heap.size]?=some (.cells #[.string nm,.bool p.void,.int .i64 p.params,.int .i64 p.regs,.slice ao p.objs.length co,.slice ab p.blks.length cb] 32))∧Hid (wr.heap[w.heap.size+1]?=some (.cells #[.int .i64 0,.int .i64 0,.bool false] 199))∧Hid (wr.heap[w.heap.size+1+1]?=some (.cells #[.int .i64 (exE p r n 0).thing,.int .i64 (exE p r n 0).off,.bool (exE p r n 0).is] 199))∧Hid (Below w.heap.size w wr)) (fun _ i _=>p.blks.length-(intOf i).toNat)
 case atStart=>
  have hz:exE p r 0 0=⟨0,0,false⟩:=by simp [exE,qlg,dlP]
  obtain ⟨t1,t2,t3⟩:=qc6 w (.cells #[.string nm,.bool p.void,.int .i64 p.params,.int .i64 p.regs,.slice ao p.objs.length co,.slice ab p.blks.length cb] 32) (.cells #[.int .i64 0,.int .i64 0,.bool false] 199) (.cells #[.int .i64 0,.int .i64 0,.bool false] 199)
  exact ⟨0,Nat.zero_le _,rfl,by simp [exN,qlg,dlP],t1,t2,by rw [hz];exact t3,Below.alloc (Below.alloc (qaa w _) (by simp) _) (by simp;omega) _⟩
 case round=>
  obtain ⟨n,hn,rfl,rfl,HP,HR,HO,HB⟩:=hrel
  obtain ⟨p0,p1,p2,p3,p4,p5,lp⟩:=cl6 HP.out
  have hbn:=HNL.out n 0 hn
  by_cases hlt:n<p.blks.length
  ·obtain ⟨bb,bo,vi,rfl,hvi,y0,y1,y2,y3,y4⟩:=HBK.out n hlt
   clear y1 y2 y3 y4
   have gn:decide ((n:Int)<(p.blks.length:Int))=true:=qkn (by omega)
   have gn2:decide (n<p.blks.length)=true:=qkn hlt
   obtain ⟨ai,ci,rfl,i1,i2,i3⟩:=hvi
   have HIN:=qkm (qbd.at (w:=w) (a:=ai) (c:=ci) (l:=(p.blks.getD n default).ins) ⟨ai,ci,rfl,i1,i2,i3⟩).2
   have lbb:=World.block_lt_of_cell? _ _ y0
   have HY:Hid (w.cell? ⟨bb,bo+n*5,none⟩=some (.slice ai (p.blks.getD n default).ins.length ci)):=y0
   have z0:wr.cell? ⟨bb,bo+n*5,none⟩=some (.slice ai (p.blks.getD n default).ins.length ci):=(HB.out.cell (p:=⟨bb,bo+n*5,none⟩) lbb).trans y0
   have hL:(p.blks.getD n default).ins.length≤1000:=by
    simp only [List.getD,List.getElem?_eq_getElem hlt,Option.getD_some];exact hil _ (List.getElem_mem _)
   have HNx:=qkm (qs3 p n hlt)
   have hO8:∀ i∈(p.blks.getD n default).ins,i.op=8→0≤i.obj∧i.obj≤1000:=by
    simp only [List.getD,List.getElem?_eq_getElem hlt,Option.getD_some];exact hob _ (List.getElem_mem _)
   have HO8:=qkm hO8
   clear hO8
   have HSt:=qkm (qr1 p n)
   unfold maxLen at i2
   clear i3 y0
   generalize (p.blks.getD n default).ins=B at *
   go_wp2_with fail
   go_loopw [6,8] (fun s i wr=>∃ k:Nat,k≤B.length∧i=.int .i64 (k:Int)∧s=.int .i64 (exN p r n k:Int)∧Hid (wr.heap[w.heap.size]?=some (.cells #[.string nm,.bool p.void,.int .i64 p.params,.int .i64 p.regs,.slice ao p.objs.length co,.slice (some ⟨bb,bo,none⟩) p.blks.length cb] 32))∧Hid (wr.heap[w.heap.size+1]?=some (.cells #[.int .i64 0,.int .i64 0,.bool false] 199))∧Hid (wr.heap[w.heap.size+1+1]?=some (.cells #[.int .i64 (exE p r n k).thing,.int .i64 (exE p r n k).off,.bool (exE p r n k).is] 199))∧Hid (Below w.heap.size w wr)) (fun _ i _=>B.length-(intOf i).toNat)
   case atStart=>exact ⟨0,Nat.zero_le _,rfl,rfl,HP,HR,HO,HB⟩
   case round=>
    clear HP HR HO HB z0 p0 p1 p2 p3 p4 p5 lp
    obtain ⟨k,hk,rfl,rfl,HP,HR,HO,HB⟩:=hrel
    obtain ⟨p0,p1,p2,p3,p4,p5,lp⟩:=cl6 HP.out
    have hbk:=HNL.out n k hn
    have z0:wr.cell? ⟨bb,bo+n*5,none⟩=some (.slice ai B.length ci):=(HB.out.cell (p:=⟨bb,bo+n*5,none⟩) lbb).trans HY.out
    by_cases hlt2:k<B.length
    ·obtain ⟨ib,io,va,rfl,lib,hva,w0,w1,w2,w3,w4,w5,w6,w7,w8,w9,w10⟩:=HIN.out k hlt2
     have lift:∀ {q:Nat} {u:Value},w.cell? ⟨ib,q,none⟩=some u→wr.cell? ⟨ib,q,none⟩=some u:=fun h=>(HB.out.cell (p:=⟨ib,_,none⟩) lib).trans h
     have x0:=lift w0
     have x1:=lift w1
     have x2:=lift w2
     have x3:=lift w3
     have x4:=lift w4
     have x5:=lift w5
     have x6:=lift w6
     have x7:=lift w7
     have x8:=lift w8
     have x9:=lift w9
     have x10:=lift w10
     clear lift w0 w1 w2 w3 w4 w5 w6 w7 w8 w9 w10
     have gk:decide ((k:Int)<(B.length:Int))=true:=qkn (by omega)
     have gk2:decide (k<B.length)=true:=qkn hlt2
     have HPS:=qkm (HSt.out k hlt2)
     have hI8:(B.getD k default).op=8→0≤(B.getD k default).obj∧(B.getD k default).obj≤1000:=HO8.out _ (by simp only [List.getD,List.getElem?_eq_getElem hlt2,Option.getD_some];exact List.getElem_mem _)
     generalize B.getD k default=I at *
     have HD:=qkm (fun W V h=>qta I V W h)
     have HN2:Hid (exN p r n (k+1)=exN p r n k+(if (qbn I ==r)=true then 1 else 0)):=by
      show _=_
      unfold exN
      rw [HPS.out,qol]
      split <;> simp
     have HE2:Hid (exE p r n (k+1)=if (qbn I ==r)=true then exI p.objs.length (exE p r n k) I else exE p r n k):=by
      show _=_
      unfold exE
      rw [HPS.out,qol]
      split <;> simp
     obtain ⟨op,d,a,b,fn,obj,off,size,num,args,lg⟩:=I
     dsimp only at x0 x1 x2 x3 x4 x5 x6 x7 x8 x9 x10 hva hI8
     have HVA:=qkm (hva.ext ((Ext.below HB.out).trans (Ext.alloc wr (.cells #[.int .i64 op,.int .i64 d,.int .i64 a,.int .i64 b,.int .i64 fn,.int .i64 obj,.int .i64 off,.int .i64 size,.int .u32 num,va,.bool lg] 58))))
     obtain ⟨aa,ac,rfl, -⟩:=hva
     have HC:=qkm (qta ⟨op,d,a,b,fn,obj,off,size,num,args,lg⟩ _ (wr.alloc (.cells #[.int .i64 op,.int .i64 d,.int .i64 a,.int .i64 b,.int .i64 fn,.int .i64 obj,.int .i64 off,.int .i64 size,.int .u32 num,.slice aa args.length ac,.bool lg] 58)) ⟨_,rfl,HVA.out⟩)
     clear HVA HD HPS
     generalize qbn ⟨op,d,a,b,fn,obj,off,size,num,args,lg⟩=D at *
     have lR:=(qkp HR.out).1
     have lO:=(qkp HO.out).1
     go_wp2_with fail
     refine HC.out.mono ?_
     rintro e w5 ⟨rfl,hb5⟩
     have HBx:Hid (w5.heap[wr.heap.size]?=some (.cells #[.int .i64 op,.int .i64 d,.int .i64 a,.int .i64 b,.int .i64 fn,.int .i64 obj,.int .i64 off,.int .i64 size,.int .u32 num,.slice aa args.length ac,.bool lg] 58)):=(hb5.block _ (by simp)).trans (heap_alloc_new wr _)
     have B5:Below wr.heap.size wr w5:=(qaa wr _).trans (hb5.mono (by simp))
     have HP5:=qkm ((B5.block _ lp).trans HP.out)
     have HR5:=qkm ((B5.block _ lR).trans HR.out)
     have HO5:=qkm ((B5.block _ lO).trans HO.out)
     have HB5:=qkm (HB.out.trans (B5.mono HB.out.size))
     have hszr:w.heap.size≤wr.heap.size:=HB.out.size
     clear hb5 HC B5 HP HR HO HB x0 x1 x2 x3 x4 x5 x6 x7 x8 x9 x10 p0 p1 p2 p3 p4 p5 z0
     obtain ⟨x0,x1,x2,x3,x4,x5,x6,x7,x8,x9,x10,lx⟩:=qau HBx.out
     obtain ⟨p0,p1,p2,p3,p4,p5,lp5⟩:=cl6 HP5.out
     cases hD:(D ==r)
     ·rw [hD] at HN2 HE2
      have gD:(D !=r)=true:=by rw [bne_iff_ne];simpa using hD
      clear hD
      go_wp2_with fail
      go_roundw
      case rel=>exact ⟨k+1,by omega,by go_num,by rw [HN2.out];simp,HP5,HR5,by rw [HE2.out];exact HO5.out,HB5⟩
      case measure=>simp [intOf];omega
     ·rw [hD] at HN2 HE2
      have gD:(D !=r)=false:=by simpa using hD
      clear hD
      generalize exN p r n k=N at *
      by_cases e7:op=7
      ·have HE3:Hid (exE p r n (k+1)=⟨obj,off,true⟩):=by show _=_;rw [HE2.out,if_pos rfl];simp [exI,e7]
       subst e7
       generalize exE p r n k=E at *
       have oc:=qab HO5.out
       have ofz:=qac HO5.out
       have o0:=oc 0
       have o1:=oc 1
       have o2:=oc 2
       simp only [qkc,qke,qkd] at o0 o1 o2
       have f0:=ofz 0
       have f1:=ofz 1
       have f2:=ofz 2
       clear oc ofz
       have S1:=qkm (qcy HO5.out (.int .i64 obj) (.int .i64 off) (.bool true))
       have S2:=qkm (qb1 (b:=w.heap.size+1+1) HP5.out (by omega) (.int .i64 obj) (.int .i64 off) (.bool true))
       have S3:=qkm (qb1 (b:=w.heap.size+1+1) HR5.out (by omega) (.int .i64 obj) (.int .i64 off) (.bool true))
       have S4:=qkm (qfa (b:=w.heap.size+1+1) HB5.out (by omega) (.int .i64 obj) (.int .i64 off) (.bool true))
       have S5:=qkm (qau (qb1 (b:=w.heap.size+1+1) HBx.out (by omega) (.int .i64 obj) (.int .i64 off) (.bool true)))
       go_wp2_with fail
       go_roundw
       case rel=>exact ⟨k+1,by omega,by go_num,by rw [HN2.out];simp,S2,S3,by rw [HE3.out];exact S1.out,S4⟩
       case measure=>simp [intOf];omega
      ·have g7:(op ==7)=false:=by simpa using e7
       by_cases e8:op=8
       ·have hq:=hI8 e8
        have HE3:Hid (exE p r n (k+1)=⟨p.objs.length+obj,off,true⟩):=by show _=_;rw [HE2.out,if_pos rfl];simp [exI,e8]
        subst e8
        generalize exE p r n k=E at *
        have oc:=qab HO5.out
        have ofz:=qac HO5.out
        have o0:=oc 0
        have o1:=oc 1
        have o2:=oc 2
        simp only [qkc,qke,qkd] at o0 o1 o2
        have f0:=ofz 0
        have f1:=ofz 1
        have f2:=ofz 2
        clear oc ofz
        have S1:=qkm (qcy HO5.out (.int .i64 (p.objs.length+obj)) (.int .i64 off) (.bool true))
        have S2:=qkm (qb1 (b:=w.heap.size+1+1) HP5.out (by omega) (.int .i64 (p.objs.length+obj)) (.int .i64 off) (.bool true))
        have S3:=qkm (qb1 (b:=w.heap.size+1+1) HR5.out (by omega) (.int .i64 (p.objs.length+obj)) (.int .i64 off) (.bool true))
        have S4:=qkm (qfa (b:=w.heap.size+1+1) HB5.out (by omega) (.int .i64 (p.objs.length+obj)) (.int .i64 off) (.bool true))
        go_wp2_with fail
        go_roundw
        case rel=>exact ⟨k+1,by omega,by go_num,by rw [HN2.out];simp,S2,S3,by rw [HE3.out];exact S1.out,S4⟩
        case measure=>simp [intOf];omega
       ·have g8:(op ==8)=false:=by simpa using e8
        have HE3:Hid (exE p r n (k+1)=exE p r n k):=by show _=_;rw [HE2.out,if_pos rfl];simp [exI,e7,e8]
        clear e7 e8
        go_wp2_with fail
        go_roundw
        case rel=>exact ⟨k+1,by omega,by go_num,by rw [HN2.out];simp,HP5,HR5,by rw [HE3.out];exact HO5.out,HB5⟩
        case measure=>simp [intOf];omega
    ·obtain rfl:k=B.length:=by omega
     have hE:exE p r n B.length=exE p r (n+1) 0:=by unfold exE;rw [HNx.out]
     have hN:exN p r n B.length=exN p r (n+1) 0:=by unfold exN;rw [HNx.out]
     rw [hE] at HO
     rw [hN] at *
     go_wp2_with fail
     go_roundw
     case rel=>exact ⟨n+1,by omega,by go_num,rfl,HP,HR,HO,HB⟩
     case measure=>simp [intOf];omega
  ·obtain rfl:n=p.blks.length:=by omega
   obtain ⟨r0,r1,r2,lr⟩:wr.cell? ⟨w.heap.size+1,0,none⟩=some (.int .i64 0)∧wr.cell? ⟨w.heap.size+1,1,none⟩=some (.int .i64 0)∧wr.cell? ⟨w.heap.size+1,2,none⟩=some (.bool false)∧w.heap.size+1<wr.heap.size:=⟨qab HR.out 0,qab HR.out 1,qab HR.out 2,(qkp HR.out).1⟩
   have rf:=qac HR.out
   have o0:=qab HO.out 0
   have o1:=qab HO.out 1
   have o2:=qab HO.out 2
   simp only [qkc,qke,qkd] at o0 o1 o2
   generalize exE p r p.blks.length 0=E at *
   generalize exN p r p.blks.length 0=N at *
   by_cases h1:N=1
   ·rw [if_pos h1] at HX
    subst h1
    go_wp2_with fail
    have K:=qcy HR.out (.int .i64 E.thing) (.int .i64 E.off) (.bool E.is)
    have KB:=qkm (qfa (b:=w.heap.size+1) HB.out (by omega) (.int .i64 E.thing) (.int .i64 E.off) (.bool E.is))
    generalize (((wr.setCell ⟨w.heap.size+1,0,none⟩ (.int .i64 E.thing)).setCell ⟨w.heap.size+1,1,none⟩ (.int .i64 E.off)).setCell ⟨w.heap.size+1,2,none⟩ (.bool E.is))=WF at *
    have r0:=qab K 0
    have r1:=qab K 1
    have r2:=qab K 2
    refine bodyPost_ret (v:=.agg #[.int .i64 E.thing,.int .i64 E.off,.bool E.is]) (by simp [results,Try.results141,go_sem,r0,r1,r2]) rfl ?_
    exact ⟨by rw [HX.out],KB.out⟩
   ·rw [if_neg h1] at HX
    have gN:((N:Int) !=1)=true:=by rw [bne_iff_ne];omega
    clear h1
    go_wp2_with fail
    have K:=qcy HR.out (.int .i64 0) (.int .i64 0) (.bool false)
    have KB:=qkm (qfa (b:=w.heap.size+1) HB.out (by omega) (.int .i64 0) (.int .i64 0) (.bool false))
    generalize (((wr.setCell ⟨w.heap.size+1,0,none⟩ (.int .i64 0)).setCell ⟨w.heap.size+1,1,none⟩ (.int .i64 0)).setCell ⟨w.heap.size+1,2,none⟩ (.bool false))=WF at *
    have r0:=qab K 0
    have r1:=qab K 1
    have r2:=qab K 2
    refine bodyPost_ret (v:=.agg #[.int .i64 0,.int .i64 0,.bool false]) (by simp [results,Try.results141,go_sem,r0,r1,r2]) rfl ?_
    exact ⟨by rw [HX.out],KB.out⟩
end
section
theorem qss (p:Pr) (r:Int) (V:Value) (w:World) (hv:PrV w V p) (hbl:p.blks.length≤1000) (hil:∀ b∈p.blks,b.ins.length≤1000) (hol:p.objs.length≤1000) (hob:∀ b∈p.blks,∀ i∈b.ins,i.op=8→0≤i.obj∧i.obj≤1000) :
  Calls Try.prog 141 #[V,.int .i64 r] w fun e w'=>e=.returned (.agg #[.int .i64 (exR p r).thing,.int .i64 (exR p r).off,.bool (exR p r).is])∧Below w.heap.size w w':=by
 by_cases h:r<p.params∨p.regs≤r
 ·have e:exR p r=⟨0,0,false⟩:=by unfold exR;rw [if_pos h]
  rw [e]
  exact qpn p r V w hv h
 ·exact qm1 p r V w hv (by omega) (by omega) hbl hil hol hob
theorem qul {m:Md} {p:Pr} (h:p.blks.all (okB m p)=true) (hg:m.globs.length≤1000):∀ b∈p.blks,∀ i∈b.ins,i.op=8→0≤i.obj∧i.obj≤1000:=by
 intro b hb i hi e8
 have hB:=List.all_eq_true.1 h b hb
 unfold okB at hB
 rw [Bool.and_eq_true] at hB
 obtain ⟨-, -,hn⟩:=qda (List.all_eq_true.1 hB.1 i hi)
 obtain ⟨-, -, -,hm⟩:=hn (by omega)
 have hm:(0≤i.obj∧i.obj<m.globs.length)∧qg9 i.off=true:=by simpa [qeb,e8] using hm
 omega
theorem AlM.push {w0 w w1:World} {k:AlK} {x:AR} (h:AlM w0 w k x) {g c:Nat} {l:List Bool} (hr:qcn w g k.T c l) (hl:l.length=k.T) {v':Value} (ht:qed w1 w0.heap.size v' (k.rs.map (fun r=>qbf r.1 k.T r.2)++[qbf g k.T c])) (hg:w.grownBy w1 k.vr.ownBlock) :
  AlM w0 (w1.setCell ⟨k.bx,0,none⟩ v') ⟨k.bx,v',k.rs++[(g,c)],k.ro,k.T,k.n+1⟩ ⟨x.regs++[l],x.out⟩:=by
 have hv1:w1.heap[k.bx]?=some (.cells #[k.vr,qbf k.ro.1 k.T k.ro.2] 96):=(hg.block k.bx h.lt (fun e=>h.bx_ne_tab e.symm)).trans h.hv
 have keep:∀ {g c:Nat} {l:List Bool},qcn w g k.T c l→qcn (w1.setCell ⟨k.bx,0,none⟩ v') g k.T c l:=fun hr=>(hr.grown hg (qcd h.tab hr)).set_other _ (h.bx_ne_row hr)
 refine ⟨h.bx,heap_setCell_same _ _ 0 _ _ _ hv1,?_,by simp [h.rl],fun r hr'=>?_,keep h.out,⟨by simp [h.ok.rows],?_,h.ok.out⟩,?_⟩
 ·have hne:v'.ownBlock≠some k.bx:=by
   intro e
   obtain ⟨cur,h2⟩:=ht.heap e
   rw [h2] at hv1
   simp at hv1
  have:=ht.set_other (b:=k.bx) (i:=0) v' hne
  simpa using this
 ·show qcn _ ((k.rs++[(g,c)]).getD r (0,0)).1 k.T ((k.rs++[(g,c)]).getD r (0,0)).2 ((x.regs++[l]).getD r [])
  have hr':r<k.n+1:=hr'
  by_cases e:r<k.n
  ·have e1:(k.rs++[(g,c)]).getD r (0,0)=k.rs.getD r (0,0):=by simp [List.getD,List.getElem?_append,h.rl,e]
   have e2:(x.regs++[l]).getD r []=x.regs.getD r []:=by simp [List.getD,List.getElem?_append,h.ok.rows,e]
   rw [e1,e2]
   exact keep (h.row r e)
  ·obtain rfl:r=k.n:=by omega
   have e1:(k.rs++[(g,c)]).getD k.n (0,0)=(g,c):=by simp [List.getD,List.getElem?_append,h.rl]
   have e2:(x.regs++[l]).getD k.n []=l:=by simp [List.getD,List.getElem?_append,h.ok.rows]
   rw [e1,e2]
   exact keep hr
 ·intro l' hl'
  rcases List.mem_append.1 hl' with h1|h1
  ·exact h.ok.row l' h1
  ·rw [List.mem_singleton] at h1
   rw [h1];exact hl
 ·have hb:=qhm h.below hg h.below.size fun b hb=>(World.ownsRow.lt h.tab b hb).1
  exact ⟨hb.os,hb.tape,hb.output,by simpa [World.setCell] using hb.size,fun j hj=>(Below.heap_setCell w1 ⟨k.bx,0,none⟩ _ j (by have:=h.bx;show j≠k.bx;omega)).trans (hb.block j hj)⟩
end
section
def qo1 (o T t:Nat):List Bool:=(List.range T).map fun i=>decide (o≤i) && decide (i<t)
theorem qs2 (o T:Nat):qo1 o T o=List.replicate T false:=by
 refine List.ext_getElem (by simp [qo1]) fun i h1 h2=>?_
 simp [qo1]
theorem qwk (o T:Nat):qo1 o T T=ql8 o T:=by
 refine List.ext_getElem (by simp [qo1,ql8]) fun i h1 h2=>?_
 have:i<T:=by simpa [qo1] using h1
 simp [qo1,ql8,this]
theorem qrt (o T t:Nat) (ho:o≤t) (ht:t<T):(qo1 o T t).set t true=qo1 o T (t+1):=by
 refine List.ext_getElem (by simp [qo1]) fun i h1 h2=>?_
 rw [List.getElem_set]
 by_cases e:t=i
 ·subst e
  simp [qo1,ho]
 ·rw [if_neg e]
  simp only [qo1,List.getElem_map,List.getElem_range]
  congr 1
  rw [decide_eq_decide]
  omega
end
section
theorem qmy:∀ {a b:List Bool},a.length=b.length→(∀ i:Nat,a.getD i false=true→b.getD i false=true)→qe0 a≤qe0 b∧(qe0 a=qe0 b→a=b)
 | [],[],_,_=>⟨Nat.le_refl _,fun _=>rfl⟩
 | [],_::_,h,_=>by simp at h
 | _::_,[],h,_=>by simp at h
 | x::a,y::b,h,hu=>by
  have ih:=qmy (a:=a) (b:=b) (by simpa using h) fun i hi=>by have:=hu (i+1);simp only [List.getD_cons_succ] at this;exact this hi
  have h0:=hu 0
  simp only [List.getD_cons_zero] at h0
  unfold qe0 at ih ⊢
  simp only [List.countP_cons,id]
  cases x <;> cases y
  ·simp only [Bool.false_eq_true,if_false,Nat.add_zero]
   exact ⟨ih.1,fun e=>by rw [ih.2 e]⟩
  ·simp only [Bool.false_eq_true,if_false,Nat.add_zero,if_true]
   exact ⟨by omega,fun e=>by omega⟩
  ·exact absurd (h0 rfl) (by decide)
  ·simp only [if_true]
   exact ⟨by omega,fun e=>by rw [ih.2 (by omega)]⟩
theorem qse:∀ {a b:List (List Bool)},a.length=b.length→(∀ r:Nat,r<a.length→(a.getD r []).length=(b.getD r []).length)→(∀ r i:Nat,r<a.length→(a.getD r []).getD i false=true→(b.getD r []).getD i false=true)→(a.map qe0).sum≤(b.map qe0).sum∧((a.map qe0).sum=(b.map qe0).sum→a=b)
 | [],[],_,_,_=>⟨Nat.le_refl _,fun _=>rfl⟩
 | [],_::_,h,_,_=>by simp at h
 | _::_,[],h,_,_=>by simp at h
 | x::a,y::b,h,hl,hu=>by
  have ih:=qse (a:=a) (b:=b) (by simpa using h) (fun r hr=>by have:=hl (r+1) (by simpa using hr);simpa only [List.getD_cons_succ] using this) fun r i hr hi=>by have:=hu (r+1) i (by simpa using hr);simp only [List.getD_cons_succ] at this;exact this hi
  have h0:=qmy (a:=x) (b:=y) (by have:=hl 0 (by simp);simpa using this) fun i hi=>by have:=hu 0 i (by simp);simp only [List.getD_cons_zero] at this;exact this hi
  simp only [qka,List.sum_cons]
  exact ⟨by omega,fun e=>by rw [h0.2 (by omega),ih.2 (by omega)]⟩
theorem AR.count_up {x y:AR} {n T:Nat} (hx:x.Ok n T) (hy:y.Ok n T) (h:∀ o t,(∀ r,o=some r→r<n)→x.sem o t→y.sem o t):x.count≤y.count∧(x.count=y.count→x=y):=by
 obtain ⟨xr,xo⟩:=x
 obtain ⟨yr,yo⟩:=y
 have hxr:xr.length=n:=hx.rows
 have hyr:yr.length=n:=hy.rows
 have h1:=qse (a:=xr) (b:=yr) (by rw [hxr,hyr]) (fun r hr=>by
  rw [hxr] at hr
  have a1:=hx.get (some r) fun q e=>by cases e;exact hr
  have a2:=hy.get (some r) fun q e=>by cases e;exact hr
  exact a1.trans a2.symm) fun r i hr hi=>h (some r) i (fun q e=>by cases e;rw [hxr] at hr;exact hr) hi
 have h2:=qmy (a:=xo) (b:=yo) (hx.out.trans hy.out.symm) fun i hi=>h none i (fun q e=>by cases e) hi
 unfold AR.count
 dsimp only
 exact ⟨by omega,fun e=>by rw [h1.2 (by omega),h2.2 (by omega)]⟩
theorem AR.count_le {x:AR} {n T:Nat} (hx:x.Ok n T):x.count≤(n+1)*T:=by
 have h1:x.count=qml x n+qe0 x.out:=by
  unfold AR.count qml
  rw [List.take_of_length_le (by rw [hx.rows];exact Nat.le_refl _)]
 have h2:=qmw hx n (Nat.le_refl _)
 have h3:=qiy x.out
 rw [hx.out] at h3
 rw [h1,Nat.succ_mul]
 omega
theorem AR.End.start (p:Pr) (T:Nat):(AR.start p T).End p T:=⟨AR.start_ok p T,fun _ _ _ h=>h,fun S _ h2 o t ho ht=>h2 o t ho ht⟩
structure qfp (p:Pr) (T:Nat):Prop where
 inn:∀ c∈qeh p,c.inn p.regs.toNat
 thing:∀ c∈qeh p,c.thing T
theorem qfp.r_inn {p:Pr} {T:Nat} (h:qfp p T):∀ c∈qic p,c.inn p.regs.toNat:=fun c hc=>h.inn c ((qfy p c).1 hc)
theorem qfp.r_thing {p:Pr} {T:Nat} (h:qfp p T):∀ c∈qic p,c.thing T:=fun c hc=>h.thing c ((qfy p c).1 hc)
theorem AR.End.pass {p:Pr} {T:Nat} {x:AR} (h:x.End p T) (hc:qfp p T):(x.pass (qic p)).End p T :=
 ⟨h.ok.pass hc.r_inn,fun o t ho hs=>AR.pass_up h.ok hc.r_inn hc.r_thing o t ho (h.up o t ho hs),fun S h1 h2=>AR.pass_in h.ok hc.r_inn hc.r_thing (fun c hcc=>h1 c ((qfy p c).1 hcc)) (h.lo S h1 h2)⟩
theorem AR.End.more {p:Pr} {T:Nat} {x:AR} (h:x.End p T) (hc:qfp p T):x.count≤(x.pass (qic p)).count :=
 (AR.count_up h.ok (h.pass hc).ok fun o t ho hs=>AR.pass_up h.ok hc.r_inn hc.r_thing o t ho hs).1
theorem AR.End.rest {p:Pr} {T:Nat} {x:AR} (h:x.End p T) (hc:qfp p T) (e:(x.pass (qic p)).count=x.count):x.pass (qic p)=x∧∀ c∈qeh p,c.holds fun o t=>(∀ r,o=some r→r<p.regs.toNat)∧x.sem o t:=by
 have h1:=(AR.count_up h.ok (h.pass hc).ok fun o t ho hs=>AR.pass_up h.ok hc.r_inn hc.r_thing o t ho hs).2 e.symm
 refine ⟨h1.symm,fun c hcc=>?_⟩
 exact AR.pass_no h.ok hc.r_inn hc.r_thing (fun o t ho hs=>by rw [←h1] at hs;exact hs) c ((qfy p c).2 hcc)
end
end Go.Proofs.Ytmcddolkpcgddaa
