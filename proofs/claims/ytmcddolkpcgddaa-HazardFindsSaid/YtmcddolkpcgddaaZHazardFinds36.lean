/-
alias: a row without things; a view grows.
-/
import Derived.Test.YtmcddolkpcgddaaZHazardFinds35
set_option maxHeartbeats 4000000
set_option maxRecDepth 100000
set_option linter.all false
namespace Go.Proofs.Ytmcddolkpcgddaa
open Go.ChangeShapes Go.WideShapes Go.ChangeAt Go.RowKit
section
theorem KpD.trans {A B C:World} (h:KpD A B) (k:KpD B C):KpD A C :=
 ⟨k.os.trans h.os,k.tape.trans h.tape,k.output.trans h.output,Nat.le_trans h.size k.size,fun b hb hn=>by
   have e:=h.keep b hb hn
   exact (k.keep b (Nat.lt_of_lt_of_le hb h.size) (fun cs ty fr hc=>hn cs ty fr (e ▸ hc))).trans e⟩
theorem KpD.below {A B:World} (h:Below A.heap.size A B):KpD A B:=⟨h.os,h.tape,h.output,h.size,fun b hb _=>h.block b hb⟩
theorem KpD.grown {A B:World} {row:Option Nat} (hg:A.grownBy B row) (hr:∀ b,row=some b→∃ cur ty,A.heap[b]?=some (.cells cur ty)∧(ty=3∨ty=45)):KpD A B :=
 ⟨hg.os,hg.tape,hg.output,hg.size,fun b hb hn=>hg.block b hb fun e=>by
   obtain ⟨cur,ty,hc,ht⟩:=hr b e.symm
   obtain ⟨h1,h2⟩:=hn _ _ _ hc
   rcases ht with ht|ht
   ·exact h1 ht
   ·exact h2 ht⟩
structure FiM (w2:World) (gP bo bn bp bf nb n:Nat) (rows:List (List Int)) (W:World):Prop where
 pt:∃ vs,PT w2 W gP (gP+2) nb vs rows∧∀ j,j<nb→(vs.getD j undef).ownBlock≠some bn
 hbo:W.heap[bo]?=some (.cells #[.slice (some ⟨gP,0,none⟩) nb nb] 38)
 hbn:W.heap[bn]?=some (.cells #[.int .i64 (n:Int)] 3)
 hbp:W.heap[bp]?=some (.cells #[.pointer (some ⟨bf,0,none⟩)] 79)
 lo:bo<gP+2∧bp<gP
section
variable {w2 W W':World} {gP bo bn bp bf nb n:Nat} {rows:List (List Int)}
theorem FiM.below (h:FiM w2 gP bo bn bp bf nb n rows W) (hb:Below W.heap.size W W'):FiM w2 gP bo bn bp bf nb n rows W':=by
 have key:∀ {b:Nat} {o:Obj},W.heap[b]?=some o→W'.heap[b]?=some o:=fun {b o} hc=>(hb.block b (qkp hc).1).trans hc
 obtain ⟨vs,hp,hn⟩:=h.pt
 exact ⟨⟨vs,hp.grow hb,hn⟩,key h.hbo,key h.hbn,key h.hbp,h.lo⟩
theorem FiM.pass {w:World} (h:FiM w2 gP bo bn bp bf nb n rows W) (hb:Below w.heap.size W W') (hk:KpA W W') (h1:bo<w.heap.size) (h2:bp<w.heap.size) (h3:w2.heap.size≤w.heap.size):FiM w2 gP bo bn bp bf nb n rows W':=by
 obtain ⟨vs,hp,hnb⟩:=h.pt
 have own:∀ {B s m:Nat} {e:TypeId} {v:Value} {xs:List Value},W.ownsRow B e s v m xs→(e=3∨e=45)→W'.ownsRow B e s v m xs:=fun {B s m e v xs} ho ht=>by
  obtain ⟨a1,a2|⟨g,cap,cur,a3,a4,a5,r⟩⟩:=ho
  ·exact ⟨a1,.inl a2⟩
  ·exact ⟨a1,.inr ⟨g,cap,cur,a3,a4,(hk.keep g (qkp a5).1 ⟨_,_,a5,ht⟩).trans a5,r⟩⟩
 exact ⟨⟨vs,⟨hp.below.trans (hb.mono h3),own hp.tab (.inr rfl),fun j hj=>own (hp.row j hj) (.inl rfl),hp.ne,hp.g0,hp.gB,Nat.le_trans hp.Bw hb.size,hp.len⟩,hnb⟩,(hb.block _ h1).trans h.hbo,(hk.keep _ (qkp h.hbn).1 ⟨_,_,h.hbn,.inl rfl⟩).trans h.hbn,(hb.block _ h2).trans h.hbp,h.lo⟩
end
theorem qyh (wv w0 w2 W:World) (k:VwK) (x:AS) (sp:List Sp) (bf:Nat) (nm:ByteArray) (p:Pr) (vo vb:Value) (bv:Nat) (vs:Value) (al:Option Addr) (cl:Nat) (vf vg:Value) (rs:List (Nat×Nat)) (X:List Nat) (s:List Bool) (gh ch H gP bo bn bp n kk:Nat) (rows:List (List Int))
  (hA:HzA wv w0 k x sp bv p ((p.blks.getD n default).ins.getD kk default)) (hF:FdP w0 bf nm p vo vb bv vs al cl vf vg rs X w2) (hvb:qbl w0 vb p.blks) (hvs:RdB w0 vs s) (hsl:s.length≤p.regs.toNat) (hbl:p.blks.length≤1000) (hr:0≤p.regs∧p.regs≤10000) (hLL:(qad p).length≤1000000) (hn:n<p.blks.length) (hkk:kk<(p.blks.getD n default).ins.length) (hil:(p.blks.getD n default).ins.length≤1000)
  (hrow:qb3 W gh ch (lwN p) H) (hM:FiM w2 gP bo bn bp bf p.blks.length n rows W) (hrl:(rows.getD n []).length≤100000) :
  Calls Try.prog 38 #[.int .i64 (kk:Int),.slice (some ⟨gh,0,none⟩) (lwN p) ch,.pointer (some ⟨bp,0,none⟩),.pointer (some ⟨bn,0,none⟩),.pointer (some ⟨bo,0,none⟩)] W fun e w'=>(∃ v,e=.returned v)∧FiM w2 gP bo bn bp bf p.blks.length n (if qiq s (qad p) (qbe k x sp) H ((p.blks.getD n default).ins.getD kk default)=true then rows.set n (rows.getD n []++[(kk:Int)]) else rows) w'∧KpD W w':=by
 have HM:=qkm hM
 have HFW:Hid (∀ W',Below w2.heap.size w2 W'→FdP w0 bf nm p vo vb bv vs al cl vf vg rs X W'):=fun W' hb=>by
  exact FdM.below hF hb
 obtain ⟨vt,hpt, -⟩:=hM.pt
 have HB2:Hid (Below w2.heap.size w2 W):=hpt.below
 have F1:=qkm (HFW.out W hpt.below)
 have hvb':=hvb
 obtain ⟨ab,cb,rfl,b1,b2, -⟩:=hvb'
 unfold maxLen at b2
 obtain ⟨b,o,vi,hab,hvi,c0,c1,c2,c3,c4⟩:=(qbl.at hvb).2 n hn
 subst hab
 have hE:=Ext.below F1.out.be
 replace c0:=hE _ _ c0
 have hvi':=hvi
 obtain ⟨ai,ci,rfl,i1,i2, -⟩:=hvi'
 unfold maxLen at i2
 obtain ⟨bi,oi,va,hai,lbi,hva,d0,d1,d2,d3,d4,d5,d6,d7,d8,d9,d10⟩:=(qbd.at hvi).2 kk hkk
 subst hai
 have HHZ:=qkm (fun (W':World) (hb:Below W.heap.size W W')=>q2e wv w0 W' k x sp bf nm p vo (.slice (some ⟨b,o,none⟩) p.blks.length cb) bv vs al cl vf vg rs X s gh ch H ((p.blks.getD n default).ins.getD kk default) va hA (FdM.below F1.out hb) hvs hsl hr hLL (hva.ext (hE.trans (Ext.below hb))) (hrow.below hb))
 unfold qbu at HHZ
 replace d0:=hE _ _ d0
 replace d1:=hE _ _ d1
 replace d2:=hE _ _ d2
 replace d3:=hE _ _ d3
 replace d4:=hE _ _ d4
 replace d5:=hE _ _ d5
 replace d6:=hE _ _ d6
 replace d7:=hE _ _ d7
 replace d8:=hE _ _ d8
 replace d9:=hE _ _ d9
 replace d10:=hE _ _ d10
 obtain ⟨va,vc,rfl, -⟩:=hva
 have lb:=World.block_lt_of_cell? W _ c0
 have lbi:=World.block_lt_of_cell? W _ d0
 obtain ⟨z0,lz⟩:=cl1 HM.out.hbp
 obtain ⟨t0,lt⟩:=cl1 HM.out.hbn
 obtain ⟨-, -, -, -, -,y5, -, -, -, -, -,ly⟩:=qau F1.out.box
 have g1:decide (n<p.blks.length)=true:=qkn hn
 have g2:decide ((n:Int)<(p.blks.length:Int))=true:=qkn (by omega)
 have g3:decide (kk<(p.blks.getD n default).ins.length)=true:=qkn hkk
 have g4:decide ((kk:Int)<((p.blks.getD n default).ins.length:Int))=true:=qkn (by omega)
 clear hF hvb hvs hvi hA hM hrow hpt hE c1 c2 c3 c4
 generalize qiq s (qad p) (qbe k x sp) H ((p.blks.getD n default).ins.getD kk default)=z at *
 generalize (p.blks.getD n default).ins.getD kk default=i at *
 generalize p.blks.getD n default=K at *
 go_enter Try.func38,Try.ntmps38
 go_wp2_with fail
 refine qak (fun _=>True) (by kernel_rfl) ?_
 refine qan [0,1,2,3,4,5,6,7,8,9,10,11,12,13] _ _ _ _ (by kernel_rfl) ?_
 simp only [qka,qkb,qkc,qkd,qke,qkf,qkg,qkh,qki,Nat.reduceAdd,Nat.reduceSub]
 repeat (go_big_quiet_step (fail))
 refine wpQuiet_nil ?_
 clear z0 t0 y5 c0 d0 d1 d2 d3 d4 d5 d6 d7 d8 d9 d10 lb lbi lz lt ly
 refine qay 14 _ rfl (by kernel_rfl) ?_
 simp only [qkj,qkk,qkl]
 intro wj hj
 go_wp2_with fail
 refine (HHZ.out wj hj).mono ?_
 clear HHZ
 rintro e w3 ⟨rfl,hb3⟩
 go_wp2_with fail
 refine ⟨qa3.below hb3,?_⟩
 have B3:=qkm (hj.trans (hb3.mono hj.size))
 clear hj hb3
 refine qbh (by kernel_rfl) (fun wm hm=>?_) _
 have B4:=qkm (B3.out.trans (hm.mono B3.out.size))
 clear B3 hm
 cases z
 ·go_wp2_with fail
  go_end0
  exact ⟨⟨_,rfl⟩,HM.out.below B4.out,KpD.below B4.out⟩
 ·have M4:=qkm (HM.out.below B4.out)
  go_wp2_with fail
  obtain ⟨WD,hWD⟩:∃ WD,WD=wm.drew:=⟨_,rfl⟩
  have BD:Hid (Below wm.heap.size wm WD):=by
   show Below _ _ _
   rw [hWD];exact Below.drew (Below.refl _ _)
  refine qae (fun b=>b=bo∨b=bn∨b=gP) (by kernel_rfl) ?_
  show wpE _ _ _ _ _ _ _ (World.drew _)
  rw [←hWD]
  clear hWD
  have M5:=qkm (M4.out.below BD.out)
  have K5:=qkm ((KpD.below B4.out).trans (KpD.below BD.out))
  obtain ⟨vs2,hpt,hnb⟩:=M5.out.pt
  have HNB:=qkm hnb
  clear hnb
  have HPT:=qkm hpt
  have hrowN:=hpt.row n hn
  obtain ⟨av,cv,hv⟩:=qa6 hrowN
  have hcell:=hpt.cell hn
  rw [hv] at hcell
  have HV':=qkm hv
  obtain ⟨y0,ly⟩:=cl1 M5.out.hbo
  obtain ⟨t0,lt⟩:=cl1 M5.out.hbn
  have lgP:gP<WD.heap.size:=World.block_lt_of_cell? WD _ hcell
  have HLO:=qkm M5.out.lo
  clear hv M4 BD B4
  refine qaf [0,1,2,3,4,5,6] _ _ _ _ (by kernel_rfl) ?_
  simp only [qka,qkb,qkc,qkd,qke,qkf,qkg,qkh,qki,Nat.reduceAdd,Nat.reduceSub]
  repeat (go_big_quiet_step (fail))
  refine wpQuiet_nil ?_
  refine qag 7 _ rfl (by kernel_rfl) ?_
  simp only [qkj,qkk,qkl]
  go_wp2_with fail
  refine ⟨qaj (qaa WD _) (fun b hb=>by rcases hb with rfl|rfl|rfl <;> omega),?_⟩
  have M6:=qkm (M5.out.below (qaa WD (.cells #[.int .i64 (kk:Int)] 3)))
  have HP6:=qkm (HPT.out.grow (qaa WD (.cells #[.int .i64 (kk:Int)] 3)))
  have K6:=qkm (K5.out.trans (KpD.below (qaa WD (.cells #[.int .i64 (kk:Int)] 3))))
  have hcx:(WD.alloc (.cells #[.int .i64 (kk:Int)] 3)).cell? ⟨WD.heap.size,0,none⟩=some (.int .i64 (kk:Int)):=qab (heap_alloc_new WD _) 0
  have HR6:Hid ((WD.alloc (.cells #[.int .i64 (kk:Int)] 3)).ownsRow (gP+2) 3 1 (.slice av (rows.getD n []).length cv) (rows.getD n []).length ((rows.getD n []).map (Value.int .i64))):=by
   have:=HP6.out.row n hn
   rw [HV'.out] at this
   exact this
  have hbw6:=HP6.out.Bw
  clear M5 HPT K5 hrowN y0 t0 ly lt
  have M6b:=M6.out.hbo
  have M6n:=M6.out.hbn
  have M6p:=M6.out.hbp
  have l6b:=(qkp M6b).1
  have l6n:=(qkp M6n).1
  have l6p:=(qkp M6p).1
  have l6g:gP<(WD.alloc (.cells #[.int .i64 (kk:Int)] 3)).heap.size:=by omega
  have HM6:=qkm (show _∧_∧_ from ⟨M6b,M6n,M6p⟩)
  have HTY:Hid (∀ b,(vs2.getD n undef).ownBlock=some b→∃ cur,(WD.alloc (.cells #[.int .i64 (kk:Int)] 3)).heap[b]?=some (.cells cur 3)):=fun b e=>qeg (HP6.out.row n hn) e
  have HTP:Hid (∃ cur,(WD.alloc (.cells #[.int .i64 (kk:Int)] 3)).heap[gP]?=some (.cells cur 45)):=qeg HP6.out.tab rfl
  have hcell6:=HP6.out.cell hn
  rw [HV'.out] at hcell6
  have hfz6:=HP6.out.tab.frozenAt n
  clear M6 M6b M6n M6p hcell
  generalize WD.alloc (.cells #[.int .i64 (kk:Int)] 3)=W6 at *
  refine qag 8 _ rfl (by kernel_rfl) ?_
  simp only [qkj,qkk,qkl]
  refine qz3 (n:=(kk:Int)) HR6.out rfl rfl rfl rfl hcx (by omega) (by omega) ?_
  intro v3 w3 h3 hg3 ha3
  have qb:∀ b,b<gP+2→(vs2.getD n undef).ownBlock≠some b:=fun b hb e=>by have:=(qdt (HP6.out.row n hn) e).1;omega
  have qn:(vs2.getD n undef).ownBlock≠some bn:=HNB.out n hn
  rw [←HV'.out] at hg3 ha3
  refine ⟨fun b o hb=>by
   rcases hb with rfl|rfl|rfl
   ·exact qaq hg3 l6b (qb _ HLO.out.1)
   ·exact qaq hg3 l6n qn
   ·exact qaq hg3 l6g (qb _ (by omega)),?_⟩
  have HP7:=qkm (HP6.out.push hn hg3 h3 ha3)
  have K7:=qkm (K6.out.trans (KpD.grown hg3 fun b e=>by obtain ⟨cur,hc⟩:=HTY.out b e;exact ⟨cur,_,hc,.inl rfl⟩))
  have hP7:Hid (∃ cur,w3.heap[gP]?=some (.cells cur 45)):=by
   obtain ⟨cur,hc⟩:=HTP.out
   exact ⟨cur,(hg3.block _ l6g fun e=>qb _ (by omega) e.symm).trans hc⟩
  have K8:Hid (KpD W (w3.setCell ⟨gP,n,none⟩ v3)):=by
   obtain ⟨cur,hc⟩:=hP7.out
   exact K7.out.trans (KpD.grown (qap (But.setCell gP n w3 v3)) fun b e=>by cases e;exact ⟨cur,_,hc,.inr rfl⟩)
  have M8:Hid (FiM w2 gP bo bn bp bf p.blks.length n (rows.set n (rows.getD n []++[(kk:Int)])) (w3.setCell ⟨gP,n,none⟩ v3)):=by
   have hbgP:bo≠gP:=fun e=>by
    obtain ⟨cur,hc⟩:=HTP.out
    have h1:=HM6.out.1
    rw [e,hc] at h1
    simp only [Option.some.injEq,Obj.cells.injEq] at h1
    exact absurd h1.2.1 (by decide)
   have hngP:bn≠gP:=fun e=>by
    obtain ⟨cur,hc⟩:=HTP.out
    have h1:=HM6.out.2.1
    rw [e,hc] at h1
    simp only [Option.some.injEq,Obj.cells.injEq] at h1
    exact absurd h1.2.1 (by decide)
   have hlo:=HLO.out
   refine ⟨⟨_,HP7.out,fun j hj=>?_⟩,?_,?_,?_,HLO.out⟩
   ·rw [qgg _ _ _ _ (by have:=HP6.out.vlen;omega)]
    split
    ·rcases ha3 with e|e
     ·rw [e];exact qn
     ·rw [e];intro e2;have:=Option.some.inj e2;omega
    ·exact HNB.out j hj
   ·exact (Below.heap_setCell _ _ _ _ (by simpa using hbgP)).trans ((hg3.block _ l6b fun e=>qb _ hlo.1 e.symm).trans HM6.out.1)
   ·exact (Below.heap_setCell _ _ _ _ (by simpa using hngP)).trans ((hg3.block _ l6n fun e=>qn e.symm).trans HM6.out.2.1)
   ·exact (Below.heap_setCell _ _ _ _ (by simp;omega)).trans ((hg3.block _ l6p fun e=>qb _ (by omega) e.symm).trans HM6.out.2.2)
  have l3:gP<w3.heap.size:=Nat.lt_of_lt_of_le l6g hg3.size
  have qc:w3.cell? ⟨gP,n,none⟩=some (.slice av (rows.getD n []).length cv):=(qaq hg3 l6g (qb _ (by omega))).trans hcell6
  have qz:w3.frozen? ⟨gP,n,none⟩=false:=(qa9 hg3 l6g (qb _ (by omega))).trans hfz6
  obtain ⟨a3,c3,rfl⟩:=qa6 h3
  clear h3 hg3 ha3 HP6 HP7 K6 K7 hcx HR6 hcell6 hfz6 hP7 HTY HTP HM6 qb qn
  simp only [Act.put,List.setIfInBounds_toArray,List.set_cons_succ,List.set_cons_zero]
  refine qaf [9] _ _ _ _ (by kernel_rfl) ?_
  simp only [qka,qkb,qkc,qkd,qke,qkf,qkg,qkh,qki,Nat.reduceAdd,Nat.reduceSub]
  repeat (go_big_quiet_step (fail))
  refine wpQuiet_nil ?_
  refine qbq 10 _ rfl (by kernel_rfl) ?_
  simp only [qkj,qkk,qkl]
  go_wp2_with fail
  refine qao (by kernel_rfl) ?_ _
  go_wp2_with fail
  go_end0
  exact ⟨⟨_,rfl⟩,M8.out,K8.out⟩
end
section
theorem qv7:(Try.prog.info? 134).map (fun i=>(i.zero,i.size,i.bytes))=some (some (.int .u64 0),1,8):=by kernel_rfl
theorem qqz (z:Value) (R:Nat):(madeCells #[z] R).toList=List.replicate R z:=by
 apply List.ext_getElem
 ·simp [madeCells]
 ·intro i h1 h2
  simp [madeCells,Nat.mod_one]
theorem qvw (z:Value):madeCells #[z] 1=#[z]:=by
 apply Array.ext'
 rw [qqz];rfl
theorem q1b (bv T:Nat) (w:World) (hc:w.cell? ⟨bv,6,none⟩=some (.int .i64 (T:Int))) (h1:1≤T) (h2:T≤64) :
  Calls Try.prog 61 #[.pointer (some ⟨bv,0,none⟩)] w fun e w'=>e=.returned (slW w.heap.size)∧qd4 w' w.heap.size 0∧Below w.heap.size w w':=by
 have e1:((T:Int)+64-1).tdiv 64=1:=by rw [Int.tdiv_eq_ediv_of_nonneg (by omega)];omega
 have hmk:=run_make_row' (P:=Try.prog) 122 134 (.int .u64 0) 8 Try.underlying122 qv7 rfl .i64 .i64 1 (by omega) (by omega)
 have hm1:=qvw (.int .u64 0)
 simp only [show ((1:Nat):Int)=1 from rfl,hm1] at hmk
 go_enter Try.func61,Try.ntmps61
 go_wp2_with fail
 go_ret
 exact ⟨rfl,heap_alloc_new w _,qaa w _⟩
theorem qts:(Try.prog.info? 122).map (fun i=>(i.zero,i.size,i.bytes))=some (some (.slice none 0 0),1,24):=by kernel_rfl
theorem qd8 {α:Type} (l:List α) (a d:α) (i:Nat):(l++[a]).getD i d=if i<l.length then l.getD i d else if i=l.length then a else d:=by
 by_cases h:i<l.length
 ·rw [if_pos h];simp [List.getD,List.getElem?_append_left h]
 ·rw [if_neg h]
  by_cases e:i=l.length
  ·subst e;simp [List.getD]
  ·rw [if_neg e]
   have:(l++[a])[i]?=none:=List.getElem?_eq_none (by simp;omega)
   simp [List.getD,this]
theorem VwM.push {w0 w w':World} {k:VwK} {x:AS} {sp:List Sp} {g:Nat} {v':Value} (h:VwM w0 w k x sp) (hr:qd4 w g 0) (hge:w0.heap.size≤g) (hv:g≠k.bv) (hm:¬ k.mine g) (hN:k.bs.length+1≤k.N)
  (ho:w'.ownsRow w0.heap.size 122 1 v' (k.bs.length+1) (k.bs.map slW++[slW g])) (hg:w.grownBy w' k.vR.ownBlock) (hd:v'.ownBlock=k.vR.ownBlock∨v'.ownBlock=some w.heap.size) :
  VwM w0 (w'.setCell ⟨k.bv,7,none⟩ v') { k with bs:=k.bs++[g],vR:=v' } ⟨x.regs++[0],x.out⟩ sp:=by
 have hne:∀ {b:Nat} {t:TypeId} {cc:Array Value},w.heap[b]?=some (.cells cc t (0,0))→122≠t→w'.heap[b]?=w.heap[b]?:=fun {b} {t} {cc} hb he=>hg.block b (qkp hb).1 (fun e=>ne_row h.own hb he e.symm)
 have hbv':w'.heap[k.bv]?=some (.cells k.cells.toArray 124 (0,0)):=(hne h.hv (by decide)).trans h.hv
 have hB:But k.bv w' (w'.setCell ⟨k.bv,7,none⟩ v'):=But.setCell k.bv 7 w' v'
 have hgr:=qap hB
 have hrow:∀ {b y:Nat},qd4 w b y→qd4 (w'.setCell ⟨k.bv,7,none⟩ v') b y:=fun {b y} hb=>by
  have e1:=hne (show w.heap[b]?=_ from hb) (by decide)
  have e2:w'.heap[b]?=some (.cells #[.int .u64 (y:Int)] 134):=e1.trans hb
  exact (hB.block b (qkp e2).1 (qbk e2 hbv' (by decide))).trans e2
 refine ⟨h.pv,?_,?_,?_,⟨hrow h.out.1,h.out.2⟩,?_,by simp [h.xl],h.sl,by simpa using hN,?_,?_,?_,?_⟩
 ·have:=heap_setCell_same w' k.bv 7 _ _ v' hbv'
  rw [this]
  rfl
 ·have h2:=ho.kept hgr (.inr (ne_row ho hbv' (by decide)))
  simpa using h2
 ·intro r hrl
  dsimp only at hrl ⊢
  rw [List.length_append,List.length_singleton] at hrl
  rw [qd8,qd8,h.xl]
  by_cases e:r<k.bs.length
  ·rw [if_pos e,if_pos e]
   exact ⟨hrow (h.row r e).1,(h.row r e).2⟩
  ·rw [if_neg e,if_neg e,if_pos (by omega),if_pos (by omega)]
   exact ⟨hrow hr,by decide⟩
 ·have h1:w'.ownsRow w0.heap.size 128 4 k.vS k.N (sp.flatMap qbo):=h.spo.kept hg (by
   rcases qca h.spo h.own (by decide) with e|e
   ·exact .inl e
   ·exact .inr e)
  exact h1.kept hgr (.inr (ne_row h1 hbv' (by decide)))
 ·intro i j hi hj he
  dsimp only at hi hj he
  rw [List.length_append,List.length_singleton] at hi hj
  rw [qd8,qd8] at he
  by_cases e1:i<k.bs.length
  ·by_cases e2:j<k.bs.length
   ·rw [if_pos e1,if_pos e2] at he;exact h.inj i j e1 e2 he
   ·rw [if_pos e1,if_neg e2,if_pos (by omega)] at he
    exact absurd (show k.mine g from .inr (.inl (by rw [←he];simp [List.getD,e1]))) hm
  ·by_cases e2:j<k.bs.length
   ·rw [if_neg e1,if_pos (by omega),if_pos e2] at he
    exact absurd (show k.mine g from .inr (.inl (by rw [he];simp [List.getD,e2]))) hm
   ·omega
 ·intro i hi
  dsimp only at hi ⊢
  rw [List.length_append,List.length_singleton] at hi
  rw [qd8]
  by_cases e1:i<k.bs.length
  ·rw [if_pos e1];exact h.neO i e1
  ·rw [if_neg e1,if_pos (by omega)]
   exact fun e=>hm (.inl e)
 ·refine ⟨h.ge.1,h.ge.2.1,fun i hi=>?_⟩
  dsimp only at hi ⊢
  rw [List.length_append,List.length_singleton] at hi
  rw [qd8]
  by_cases e1:i<k.bs.length
  ·rw [if_pos e1];exact h.ge.2.2 i e1
  ·rw [if_neg e1,if_pos (by omega)];exact hge
 ·have h1:Below w0.heap.size w0 w':=h.below.grown hg h.below.size (fun b e=>(World.ownsRow.lt h.own b e).1)
  exact h1.setCell (p:=⟨k.bv,7,none⟩) h.ge.1 v'
end
end Go.Proofs.Ytmcddolkpcgddaa
