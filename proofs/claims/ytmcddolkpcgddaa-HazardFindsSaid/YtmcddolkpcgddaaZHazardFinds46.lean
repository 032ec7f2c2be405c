/-
 hazard: Find walked.
-/
import Derived.Test.YtmcddolkpcgddaaZHazardFinds45
set_option maxHeartbeats 8000000
set_option maxRecDepth 100000
set_option linter.all false
namespace Go.Proofs.Ytmcddolkpcgddaa
open Go.ChangeShapes Go.WideShapes Go.ChangeAt Go.RowKit
structure FiA (m:Md) (n:Nat):Prop where
 hn:n<m.procs.length
 pl:m.procs.length≤1000
 gl:m.globs.length≤20
 r0:0≤(m.procs.getD n default).regs
 r40:(m.procs.getD n default).regs≤40
 ob:(m.procs.getD n default).objs.length≤20
 ok:okP m (m.procs.getD n default)=true
 pr:quq (m.procs.getD n default)
 b0:0<(m.procs.getD n default).blks.length
 bl:(m.procs.getD n default).blks.length≤40
 il:∀ b∈(m.procs.getD n default).blks,b.ins.length≤1000∧∀ i∈b.ins,i.args.length≤12
 ou:∀ j,j<(m.procs.getD n default).blks.length→∀ t∈qbr ((m.procs.getD n default).blks.getD j default),0≤t∧t<((m.procs.getD n default).blks.length:Int)
 ac:∀ b∈(m.procs.getD n default).blks,∀ i∈b.ins,q2v (m.procs.getD n default).regs.toNat i
 hof:∀ r, -100000≤(exF (m.procs.getD n default) r).off∧(exF (m.procs.getD n default) r).off≤100000
theorem FiA.loads {m:Md} {n:Nat} (h:FiA m n):(qad (m.procs.getD n default)).length≤40000:=by
 have:=qiv (m.procs.getD n default).blks 1000 (fun b hb=>(h.il b hb).1)
 have h2:(m.procs.getD n default).blks.length*1000≤40*1000:=Nat.mul_le_mul_right _ h.bl
 unfold qad;omega
def qb8 (p:Pr) (s:List Bool):List Bool:=s.take p.regs.toNat
theorem qhd (p:Pr) (s:List Bool):(qb8 p s).length≤p.regs.toNat:=by unfold qb8;rw [List.length_take];omega
def qym (m:Md) (n:Nat) (s:List Bool) (w:World) (e:Ending) (w':World):Prop:=∃ (gP:Nat) (vs:List Value) (X:List Nat) (k:VwK) (x:AS) (sp:List Sp),
 e=.returned (.tuple #[.slice (some ⟨gP,0,none⟩) (m.procs.getD n default).blks.length (m.procs.getD n default).blks.length,.int .i64 0])∧
 PT w w' gP (gP+2) (m.procs.getD n default).blks.length vs ((List.range (m.procs.getD n default).blks.length).map fun b=>(qv1 (qb8 (m.procs.getD n default) s) (m.procs.getD n default) (qbe k x sp) X b).map fun j:Nat=>(j:Int))∧
 qcf (qb8 (m.procs.getD n default) s) (qad (m.procs.getD n default)).length (m.procs.getD n default) X∧qg5 (qb8 (m.procs.getD n default) s) (qad (m.procs.getD n default)).length (m.procs.getD n default) X∧
 k.bs.length=(m.procs.getD n default).regs.toNat∧k.T=(m.procs.getD n default).objs.length+m.globs.length+1∧x.End (m.procs.getD n default) k.T∧(∀ c∈qeh (m.procs.getD n default),c.holds x.sem)∧(∀ r,r<(m.procs.getD n default).regs.toNat→sp.getD r default=spP (m.procs.getD n default) r)∧k.p=m.procs.getD n default∧k.N=(m.procs.getD n default).regs.toNat
def FiP (s:List Bool) (p:Pr) (meet:In→In→Bool) (X:List Nat) (n kk:Nat):List Int :=
 ((List.range kk).filter fun j=>qiq s (qad p) meet (qja s (qad p).length p n j (X.getD n 0)) ((p.blks.getD n default).ins.getD j default)).map fun j:Nat=>(j:Int)
def FiF (s:List Bool) (p:Pr) (meet:In→In→Bool) (X:List Nat) (n:Nat):List Int:=(qv1 s p meet X n).map fun j:Nat=>(j:Int)
theorem qw8 (s:List Bool) (p:Pr) (meet:In→In→Bool) (X:List Nat) (n:Nat):FiP s p meet X n (p.blks.getD n default).ins.length=FiF s p meet X n:=rfl
theorem quc (s:List Bool) (p:Pr) (meet:In→In→Bool) (X:List Nat) (n kk:Nat):FiP s p meet X n (kk+1)=if qiq s (qad p) meet (qja s (qad p).length p n kk (X.getD n 0)) ((p.blks.getD n default).ins.getD kk default)=true then FiP s p meet X n kk++[(kk:Int)] else FiP s p meet X n kk:=by
 unfold FiP
 rw [List.range_succ,List.filter_append,List.map_append]
 split
 ·rename_i h
  rw [List.filter_cons,if_pos h];rfl
 ·rename_i h
  rw [List.filter_cons,if_neg h]
  simp only [List.filter_nil,List.map_nil,List.append_nil]
theorem qya (s:List Bool) (p:Pr) (meet:In→In→Bool) (X:List Nat) (n kk:Nat):(FiP s p meet X n kk).length≤kk:=by
 unfold FiP
 rw [List.length_map]
 exact Nat.le_trans (List.length_filter_le _ _) (by rw [List.length_range];exact Nat.le_refl _)
theorem qpc {p:Pr} {l:In} (h:l∈qad p):∃ b∈p.blks,l∈b.ins:=by
 unfold qad at h
 obtain ⟨b,hb,hl⟩:=List.mem_flatMap.1 h
 exact ⟨b,hb,by unfold qa7 at hl;exact (List.mem_filter.1 hl).1⟩
theorem qa5 {α:Type} [Inhabited α] {l:List α} {i:Nat} (h:i<l.length):l.getD i default∈l:=by simp [List.getD,h]
theorem PT.base22 {W1 W0 w:World} {gP B n:Nat} {vs:List Value} {rows:List (List Int)} (h:PT W0 w gP B n vs rows) (hb:Below W1.heap.size W1 W0):PT W1 w gP B n vs rows :=
 ⟨hb.trans (h.below.mono hb.size),h.tab,h.row,h.ne,Nat.le_trans hb.size h.g0,h.gB,h.Bw,h.len⟩
def muH (p:Pr) (X:List Nat):Nat:=p.blks.length*2 ^ (64*lwN p)-X.sum
theorem q0y {p:Pr} {X Y:List Nat} (hl:qma (64*lwN p) Y) (hlen:Y.length=p.blks.length) (h:X.sum<Y.sum):muH p Y<muH p X:=by
 unfold muH
 have:=qq2 hl
 rw [hlen] at this
 generalize p.blks.length*2 ^ (64*lwN p)=T at *
 omega
def qzc (s:List Bool) (NL:Nat) (p:Pr) (X:List Nat) (n:Nat):Prop:=∀ t:Nat,(t:Int)∈qbr (p.blks.getD n default)→∀ y,(qci s NL (p.blks.getD n default) (qar p n) (X.getD n 0)).testBit y=true→(X.getD t 0).testBit y=true
theorem RdB.cut22 {w:World} {sa:Option Addr} {sc R:Nat} {s:List Bool} {P:Pr} (h:RdB w (.slice sa s.length sc) s) (hR:P.regs.toNat=R):RdB w (.slice sa (min s.length R) sc) (qb8 P s):=by
 obtain ⟨a,c,e,h1,h2,h3⟩:=h
 simp only [Value.slice.injEq] at e
 obtain ⟨rfl, -,rfl⟩:=e
 have hl:(qb8 P s).length=min s.length R:=by unfold qb8;rw [List.length_take,hR,Nat.min_comm]
 refine ⟨sa,sc,by rw [hl],by omega,h2,fun i hi=>?_⟩
 obtain ⟨b,o,e1,e2⟩:=h3 i (by omega)
 refine ⟨b,o,e1,?_⟩
 have eg:(qb8 P s).getD i false=s.getD i false:=by
  unfold qb8
  simp only [List.getD,List.getElem?_take]
  rw [if_pos (by rw [hR];omega)]
 show w.cell? _=some (.bool ((qb8 P s).getD i false))
 rw [eg];exact e2
theorem FdM.slice {A W:World} {bf bv L:Nat} {nm:ByteArray} {p:Pr} {vo vb vs vl vf vg:Value} {LL:List In} {F:List Int} {rs:List (Nat×Nat)} {X:List Nat} (h:FdM A bf nm p vo vb bv vs vl vf vg LL F rs X L W):∃ al cl,vl=.slice al LL.length cl:=by
 obtain ⟨K,hK,rfl⟩:=h.lo
 rw [List.length_map]
 obtain ⟨-,⟨rfl,h2⟩|⟨g,cap,cur,rfl, -⟩⟩:=hK.own
 ·exact ⟨none,0,by rw [h2]⟩
 ·exact ⟨_,_,rfl⟩
theorem FdM.reset {A W:World} {bf bv L b10:Nat} {nm:ByteArray} {p:Pr} {vo vb vs vl vf vg:Value} {LL:List In} {F:List Int} {rs:List (Nat×Nat)} {X:List Nat} (h:FdM A bf nm p vo vb bv vs vl vf vg LL F rs X L W) (hA:A.heap[b10]?=some (.cells #[.pointer none] 79)) (v:Value):FdM (A.setCell ⟨b10,0,none⟩ v) bf nm p vo vb bv vs vl vf vg LL F rs X L (W.setCell ⟨b10,0,none⟩ v):=by
 obtain ⟨K,hK,hL⟩:=h.lo
 have hlt:=(qkp hA).1
 have hW:W.heap[b10]?=some (.cells #[.pointer none] 79):=(h.be.block _ hlt).trans hA
 have hb:But b10 W (W.setCell ⟨b10,0,none⟩ v):=But.setCell _ _ _ _
 have ne:∀ {B s n:Nat} {e:TypeId} {u:Value} {xs:List Value},W.ownsRow B e s u n xs→e≠79→u.ownBlock≠some b10:=fun {B s n e u xs} ho he e2=>by
  obtain ⟨c2,h2⟩:=qeg ho e2
  rw [hW] at h2
  simp only [Option.some.injEq,Obj.cells.injEq] at h2
  exact he h2.2.1.symm
 have hbf:bf≠b10:=fun e=>by
  have h1:=h.box
  rw [e,hW] at h1
  simp only [fdO,Option.some.injEq,Obj.cells.injEq] at h1
  exact absurd h1.2.1 (by decide)
 have hcell:∀ (a:Addr) (x:Int),A.cell? a=some (.int .i64 x)→(A.setCell ⟨b10,0,none⟩ v).cell? a=some (.int .i64 x):=fun a x hc=>by
  by_cases e:a.block=b10
  ·exfalso
   unfold World.cell? at hc
   rw [e,hA] at hc
   obtain ⟨ab,ao,asp⟩:=a
   cases asp with
   | some q=>simp at hc
   | none=>
    cases ao with
    | zero=>simp at hc
    | succ j=>simp at hc
  ·rw [World.cell?_of_block (Below.heap_setCell A ⟨b10,0,none⟩ v a.block (by simpa using e))];exact hc
 refine ⟨(hb.block _ h.lt hbf).trans h.box,⟨K,⟨World.ownsRow.kept hK.own (qap hb) (.inr (ne hK.own (by decide))),fun y hy=>?_⟩,hL⟩,World.ownsRow.kept h.fr (qap hb) (.inr (ne h.fr (by decide))),h.tb.keptT (qap hb) hW (by decide) (by decide),?_,by simpa using h.hB⟩
 ·obtain ⟨a,c,e,h1,h2,h3⟩:=hK.args y hy
  refine ⟨a,c,e,h1,h2,fun i hi=>?_⟩
  obtain ⟨b,o,e1,e2⟩:=h3 i hi
  exact ⟨b,o,e1,hcell _ _ e2⟩
 ·refine ⟨h.be.os,h.be.tape,h.be.output,by have:=h.be.size;simpa [World.setCell] using this,fun q hq=>?_⟩
  have hq':q<A.heap.size:=by simpa [World.setCell] using hq
  by_cases e:q=b10
  ·subst e
   exact (heap_setCell_same W q 0 _ _ v hW).trans (heap_setCell_same A q 0 _ _ v hA).symm
  ·rw [Below.heap_setCell W ⟨b10,0,none⟩ v q e,Below.heap_setCell A ⟨b10,0,none⟩ v q e]
   exact h.be.block q hq'
theorem qw4 (m:Md) (n:Nat) (s:List Bool) (vm vs:Value) (w:World) (hm:MdV w vm m) (hs:RdB w vs s) (h:FiA m n) :
  Calls Try.prog 14 #[vm,.int .i64 (n:Int),vs] w (qym m n s w):=by
 have HNEW:=qkm (fun W (hW:Ext w W)=>q2s m vm n W (hm.ext hW) h.hn h.r40 h.r0 h.ob h.gl h.pl h.ok h.pr ⟨h.bl,h.il⟩)
 have HFI:=qkm h
 have HLD:=h.loads
 obtain ⟨vg,vd,vp,rfl,hvg,hvd,hvp⟩:=hm
 have hvp':=hvp
 obtain ⟨ag,cg,rfl, -⟩:=hvg
 obtain ⟨ad,cd,rfl, -⟩:=hvd
 obtain ⟨ap,cp,rfl,hp1,hp2, -⟩:=hvp'
 have HPS:=qkm (qcx.at6 hvp).2
 unfold maxLen at hp2
 have HS:=qkm hs
 obtain ⟨sa,sc,rfl,s1,s2, -⟩:=hs
 unfold maxLen at s2
 obtain ⟨bp,op,nm,vo,vb,hap,hvo,hvb,t0,t1,t2,t3,t4,t5⟩:=HPS.out n h.hn
 subst hap
 have HVO:=qkm hvo
 have HVB:=qkm hvb
 obtain ⟨ao,co,rfl, -⟩:=hvo
 obtain ⟨ab,cb,rfl, -⟩:=hvb
 have HIL:=qkm h.il
 have HOU:=qkm h.ou
 have HAC:=qkm h.ac
 have HOF:=qkm h.hof
 have hn:=h.hn
 have hb40:=h.bl
 have hb0:=h.b0
 have hr0:=h.r0
 have hr40:=h.r40
 clear h HPS
 have q3:decide ((n:Int)<(m.procs.length:Int))=true:=qkn (by omega)
 have q4:decide (n<m.procs.length)=true:=qkn hn
 unfold qym
 generalize m.procs.getD n default=P at *
 obtain ⟨W0,hW0⟩:∃ W0,W0=w.alloc (.cells #[.slice ag m.globs.length cg,.slice ad m.data.length cd,.slice (some ⟨bp,op,none⟩) m.procs.length cp,.int .i64 m.main] 26):=⟨_,rfl⟩
 have B0:Hid (Below w.heap.size w W0):=by
  show Below _ _ _
  rw [hW0];exact qaa w _
 have H0:=qkm (qb0 w _ _ hW0)
 have HW0:=qkm hW0.symm
 clear hW0
 go_enter Try.func14,Try.ntmps14
 go_wp2_with fail
 rw [HW0.out]
 clear HW0
 refine (HNEW.out W0 (Ext.below B0.out)).mono ?_
 clear HNEW
 rintro e w1 ⟨k,x,sp,rfl,hV,hkp,hkl,hkT,hxe,hxc,hsp,hkN⟩
 have HV:=qkm hV
 have HKK:=qkm (show _∧_∧_∧_∧_∧_∧_ from ⟨hkl,hkT,hxe,hxc,hsp,hkp,hkN⟩)
 have B1:Hid (Below w.heap.size w w1):=B0.out.trans (hV.below.mono B0.out.size)
 have H1:=qkm ((hV.below.block _ (qkp H0.out).1).trans H0.out)
 clear hV hkp hkl hkT hxe hxc hsp hkN H0 B0
 go_wp2_with fail
 have hE:=Ext.below B1.out
 replace t0:=hE _ _ t0
 replace t1:=hE _ _ t1
 replace t2:=hE _ _ t2
 replace t3:=hE _ _ t3
 replace t4:=hE _ _ t4
 replace t5:=hE _ _ t5
 obtain ⟨y0,y1,y2,y3,ly⟩:=cl4 H1.out
 have lbp:=World.block_lt_of_cell? w1 _ t0
 obtain ⟨R,hR⟩:=Int.eq_ofNat_of_zero_le hr0
 have HR:=qkm hR
 rw [hR] at t3
 have hR40:R≤40:=by omega
 clear hE hR
 go_cut [10] from 26 to 43 (fun v wx=>∃ (b10 bf:Nat) (vl vf vg:Value) (rs:List (Nat×Nat)) (wf:World),v=.pointer (some ⟨b10,0,none⟩)∧Hid (wx.heap[b10]?=some (.cells #[.pointer (some ⟨bf,0,none⟩)] 79))∧Hid (Below w1.heap.size w1 wf)∧Hid (FdM wf bf nm P (.slice ao P.objs.length co) (.slice ab P.blks.length cb) k.bv (.slice sa (min s.length R) sc) vl vf vg (qad P) (qaw P P.blks.length) rs (qdk P.blks.length) (lwN P) wx))
 case first=>
  by_cases hm:R<s.length
  ·have hm2:decide (R<s.length)=true:=qkn hm
   have hm3:decide ((R:Int)<(s.length:Int))=true:=qkn (by omega)
   have HMI:Hid (min s.length R=R):=show _=_ by omega
   have HSB:Hid (RdB w (.slice sa (R) sc) (qb8 P s)):=by
    have h:=HS.out
    obtain ⟨a,c,e,h1,h2,h3⟩:=h
    simp only [Value.slice.injEq] at e
    obtain ⟨rfl, -,rfl⟩:=e
    have hl:(qb8 P s).length=R:=by unfold qb8;rw [List.length_take,HR.out];simp;omega
    refine ⟨sa,sc,by rw [hl],by omega,h2,fun i hi=>?_⟩
    obtain ⟨b,o,e1,e2⟩:=h3 i (by omega)
    refine ⟨b,o,e1,?_⟩
    have eg:(qb8 P s).getD i false=s.getD i false:=by
     unfold qb8
     simp only [List.getD,List.getElem?_take]
     rw [if_pos (by rw [HR.out];simp;omega)]
    show w.cell? _=some (.bool ((qb8 P s).getD i false))
    rw [eg];exact e2
   have HPV:Hid (PrV w (.agg #[.string nm,.bool P.void,.int .i64 P.params,.int .i64 P.regs,.slice ao P.objs.length co,.slice ab P.blks.length cb]) P):=⟨nm,_,_,rfl,HVO.out,HVB.out⟩
   have HNF:=qkm (fun W (hW:Ext w W)=>qww nm P (.slice ao P.objs.length co) (.slice ab P.blks.length cb) (.slice sa (R) sc) k.bv (qb8 P s) W (HPV.out.ext hW) (HSB.out.ext hW) (by omega) (fun b hb=>(HIL.out b hb).1) (by omega))
   rw [HR.out] at HNF
   have hlp:bp<w1.drew.heap.size:=lbp
   have hly:w.heap.size<w1.drew.heap.size:=ly
   have BD1:Hid (Below w1.heap.size w1 w1.drew):=Below.drew (Below.refl _ _)
   refine qfn [0,1,2,3,4,5,6,7,8,9,10,11,12,13,14,16] (fun z=>z=w.heap.size∨z=bp) (by kernel_rfl) ?_
   show wpH _ _ _ _ _ _ _ _ w1.drew
   refine qh2 [0,1,2,3,4,5,6,7,8,9,10,11,12,13,14] _ _ _ _ (by kernel_rfl) ?_
   simp only [qka,qkb,qkc,qkd,qke,qkf,qkg,qkh,qki,Nat.reduceAdd,Nat.reduceSub]
   repeat (go_big_quiet_step (fail))
   refine wpQuiet_nil ?_
   refine qje 15 18 _ _ rfl rfl (by kernel_rfl) ?_ ?_
   all_goals try simp only [qkj,qkk,qkl]
   ·go_wp2_with fail
    refine ⟨fun _ _ _=>rfl,?_⟩
    refine qh2 [16] _ _ _ _ (by kernel_rfl) ?_
    simp only [qka,qkb,qkc,qkd,qke,qkf,qkg,qkh,qki,Nat.reduceAdd,Nat.reduceSub]
    repeat (go_big_quiet_step (fail))
    refine wpQuiet_nil ?_
    refine qje 17 18 _ _ rfl rfl (by kernel_rfl) ?_ ?_
    all_goals try simp only [qkj,qkk,qkl]
    ·go_wp2_with fail
     refine (HNF.out w1.drew (Ext.below (B1.out.trans (BD1.out.mono B1.out.size)))).mono ?_
     rintro e w3 ⟨bf,vl,vf,vg,rs,rfl,hF⟩
     have HF:=qkm hF
     go_wp2_with fail
     refine ⟨qaj hF.be (fun z hz=>by rcases hz with rfl|rfl;exact hly;exact hlp),?_⟩
     clear hF
     refine qew 18 _ rfl (by kernel_rfl) ?_
     simp only [qkj,qkk,qkl]
     go_wp2_with fail
     refine ⟨qaj (qaa _ _) (fun z hz=>by have:=HF.out.be.size;rcases hz with rfl|rfl <;> omega),?_⟩
     refine qil 19 _ rfl (by kernel_rfl) ?_
     simp only [qkj,qkk,qkl]
     go_wp2_with fail
     refine qir (by kernel_rfl) ?_ _
     go_wp2_with fail
     go_meet
     case rel=>
      exact ⟨w3.heap.size,bf,vl,vf,vg,rs,w1.drew,rfl,heap_alloc_new w3 _,BD1,by
       show FdM _ _ _ _ _ _ _ _ _ _ _ _ _ _ _ _ _
       rw [HMI.out]
       exact HF.out.below (qaa w3 _)⟩
    ·go_wp2_with fail
     refine ⟨qaj (qaa _ _) (fun z hz=>by rcases hz with rfl|rfl <;> assumption),?_⟩
     refine qew 17 _ rfl (by kernel_rfl) ?_
     simp only [qkj,qkk,qkl]
     go_wp2_with fail
     have B4:Hid (Below w1.heap.size w1 (w1.drew.alloc (.cells #[.pointer none] 79))):=BD1.out.trans ((qaa w1.drew _).mono BD1.out.size)
     refine (HNF.out (w1.drew.alloc (.cells #[.pointer none] 79)) (Ext.below (B1.out.trans (B4.out.mono B1.out.size)))).mono ?_
     rintro e w3 ⟨bf,vl,vf,vg,rs,rfl,hF⟩
     have HF:=qkm hF
     have H4:=qkm (heap_alloc_new w1.drew (.cells #[.pointer none] 79))
     have H5:=qkm ((hF.be.block _ (qkp H4.out).1).trans H4.out)
     have H6:Hid (w3.heap[w1.heap.size]?=some (.cells #[.pointer none] 79)):=H5.out
     obtain ⟨z1,z2⟩:=cl1 H6.out
     have z3:=qac H6.out 0
     clear hF
     go_wp2_with fail
     refine ⟨qaj HF.out.be (fun z hz=>by
      refine Nat.lt_of_lt_of_le ?_ (qaa w1.drew (.cells #[.pointer none] 79)).size
      rcases hz with rfl|rfl <;> assumption),?_⟩
     refine qil 19 _ rfl (by kernel_rfl) ?_
     simp only [qkj,qkk,qkl]
     go_wp2_with fail
     refine qir (by kernel_rfl) ?_ _
     go_wp2_with fail
     go_meet
     case rel=>
      refine ⟨w1.drew.heap.size,bf,vl,vf,vg,rs,_,rfl,heap_setCell_same w3 _ 0 _ _ _ H5.out,?_,by
       show FdM _ _ _ _ _ _ _ _ _ _ _ _ _ _ _ _ _
       rw [HMI.out]
       exact HF.out.reset H4.out _⟩
      exact BD1.out.trans ((qaa w1.drew _).mono BD1.out.size |>.setCell (Nat.le_refl _) _)
   ·go_wp2_with fail
    refine ⟨qaj (qaa _ _) (fun z hz=>by rcases hz with rfl|rfl <;> assumption),?_⟩
    refine qew 15 _ rfl (by kernel_rfl) ?_
    simp only [qkj,qkk,qkl]
    go_wp2_with fail
    refine ⟨fun _ _ _=>rfl,?_⟩
    refine qh2 [16] _ _ _ _ (by kernel_rfl) ?_
    simp only [qka,qkb,qkc,qkd,qke,qkf,qkg,qkh,qki,Nat.reduceAdd,Nat.reduceSub]
    repeat (go_big_quiet_step (fail))
    refine wpQuiet_nil ?_
    refine qew 17 _ rfl (by kernel_rfl) ?_
    simp only [qkj,qkk,qkl]
    go_wp2_with fail
    have B4:Hid (Below w1.heap.size w1 (w1.drew.alloc (.cells #[.pointer none] 79))):=BD1.out.trans ((qaa w1.drew _).mono BD1.out.size)
    refine (HNF.out (w1.drew.alloc (.cells #[.pointer none] 79)) (Ext.below (B1.out.trans (B4.out.mono B1.out.size)))).mono ?_
    rintro e w3 ⟨bf,vl,vf,vg,rs,rfl,hF⟩
    have HF:=qkm hF
    have H4:=qkm (heap_alloc_new w1.drew (.cells #[.pointer none] 79))
    have H5:=qkm ((hF.be.block _ (qkp H4.out).1).trans H4.out)
    have H6:Hid (w3.heap[w1.heap.size]?=some (.cells #[.pointer none] 79)):=H5.out
    obtain ⟨z1,z2⟩:=cl1 H6.out
    have z3:=qac H6.out 0
    clear hF
    go_wp2_with fail
    refine ⟨qaj HF.out.be (fun z hz=>by
     refine Nat.lt_of_lt_of_le ?_ (qaa w1.drew (.cells #[.pointer none] 79)).size
     rcases hz with rfl|rfl <;> assumption),?_⟩
    refine qil 19 _ rfl (by kernel_rfl) ?_
    simp only [qkj,qkk,qkl]
    go_wp2_with fail
    refine qir (by kernel_rfl) ?_ _
    go_wp2_with fail
    go_meet
    case rel=>
     refine ⟨w1.drew.heap.size,bf,vl,vf,vg,rs,_,rfl,heap_setCell_same w3 _ 0 _ _ _ H5.out,?_,by
      show FdM _ _ _ _ _ _ _ _ _ _ _ _ _ _ _ _ _
      rw [HMI.out]
      exact HF.out.reset H4.out _⟩
     exact BD1.out.trans ((qaa w1.drew _).mono BD1.out.size |>.setCell (Nat.le_refl _) _)
  ·have hm2:decide (R<s.length)=false:=qko hm
   have hm3:decide ((R:Int)<(s.length:Int))=false:=qko (by omega)
   have HMI:Hid (min s.length R=s.length):=show _=_ by omega
   have HSB:Hid (RdB w (.slice sa (s.length) sc) (qb8 P s)):=by
    have h:=HS.out
    obtain ⟨a,c,e,h1,h2,h3⟩:=h
    simp only [Value.slice.injEq] at e
    obtain ⟨rfl, -,rfl⟩:=e
    have hl:(qb8 P s).length=s.length:=by unfold qb8;rw [List.length_take,HR.out];simp;omega
    refine ⟨sa,sc,by rw [hl],by omega,h2,fun i hi=>?_⟩
    obtain ⟨b,o,e1,e2⟩:=h3 i (by omega)
    refine ⟨b,o,e1,?_⟩
    have eg:(qb8 P s).getD i false=s.getD i false:=by
     unfold qb8
     simp only [List.getD,List.getElem?_take]
     rw [if_pos (by rw [HR.out];simp;omega)]
    show w.cell? _=some (.bool ((qb8 P s).getD i false))
    rw [eg];exact e2
   have HPV:Hid (PrV w (.agg #[.string nm,.bool P.void,.int .i64 P.params,.int .i64 P.regs,.slice ao P.objs.length co,.slice ab P.blks.length cb]) P):=⟨nm,_,_,rfl,HVO.out,HVB.out⟩
   have HNF:=qkm (fun W (hW:Ext w W)=>qww nm P (.slice ao P.objs.length co) (.slice ab P.blks.length cb) (.slice sa (s.length) sc) k.bv (qb8 P s) W (HPV.out.ext hW) (HSB.out.ext hW) (by omega) (fun b hb=>(HIL.out b hb).1) (by omega))
   rw [HR.out] at HNF
   have hlp:bp<w1.drew.heap.size:=lbp
   have hly:w.heap.size<w1.drew.heap.size:=ly
   have BD1:Hid (Below w1.heap.size w1 w1.drew):=Below.drew (Below.refl _ _)
   refine qfn [0,1,2,3,4,5,6,7,8,9,10,11,12,13,14,16] (fun z=>z=w.heap.size∨z=bp) (by kernel_rfl) ?_
   show wpH _ _ _ _ _ _ _ _ w1.drew
   refine qh2 [0,1,2,3,4,5,6,7,8,9,10,11,12,13,14] _ _ _ _ (by kernel_rfl) ?_
   simp only [qka,qkb,qkc,qkd,qke,qkf,qkg,qkh,qki,Nat.reduceAdd,Nat.reduceSub]
   repeat (go_big_quiet_step (fail))
   refine wpQuiet_nil ?_
   refine qje 15 18 _ _ rfl rfl (by kernel_rfl) ?_ ?_
   all_goals try simp only [qkj,qkk,qkl]
   ·go_wp2_with fail
    refine ⟨fun _ _ _=>rfl,?_⟩
    refine qh2 [16] _ _ _ _ (by kernel_rfl) ?_
    simp only [qka,qkb,qkc,qkd,qke,qkf,qkg,qkh,qki,Nat.reduceAdd,Nat.reduceSub]
    repeat (go_big_quiet_step (fail))
    refine wpQuiet_nil ?_
    refine qje 17 18 _ _ rfl rfl (by kernel_rfl) ?_ ?_
    all_goals try simp only [qkj,qkk,qkl]
    ·go_wp2_with fail
     refine (HNF.out w1.drew (Ext.below (B1.out.trans (BD1.out.mono B1.out.size)))).mono ?_
     rintro e w3 ⟨bf,vl,vf,vg,rs,rfl,hF⟩
     have HF:=qkm hF
     go_wp2_with fail
     refine ⟨qaj hF.be (fun z hz=>by rcases hz with rfl|rfl;exact hly;exact hlp),?_⟩
     clear hF
     refine qew 18 _ rfl (by kernel_rfl) ?_
     simp only [qkj,qkk,qkl]
     go_wp2_with fail
     refine ⟨qaj (qaa _ _) (fun z hz=>by have:=HF.out.be.size;rcases hz with rfl|rfl <;> omega),?_⟩
     refine qil 19 _ rfl (by kernel_rfl) ?_
     simp only [qkj,qkk,qkl]
     go_wp2_with fail
     refine qir (by kernel_rfl) ?_ _
     go_wp2_with fail
     go_meet
     case rel=>
      exact ⟨w3.heap.size,bf,vl,vf,vg,rs,w1.drew,rfl,heap_alloc_new w3 _,BD1,by
       show FdM _ _ _ _ _ _ _ _ _ _ _ _ _ _ _ _ _
       rw [HMI.out]
       exact HF.out.below (qaa w3 _)⟩
    ·go_wp2_with fail
     refine ⟨qaj (qaa _ _) (fun z hz=>by rcases hz with rfl|rfl <;> assumption),?_⟩
     refine qew 17 _ rfl (by kernel_rfl) ?_
     simp only [qkj,qkk,qkl]
     go_wp2_with fail
     have B4:Hid (Below w1.heap.size w1 (w1.drew.alloc (.cells #[.pointer none] 79))):=BD1.out.trans ((qaa w1.drew _).mono BD1.out.size)
     refine (HNF.out (w1.drew.alloc (.cells #[.pointer none] 79)) (Ext.below (B1.out.trans (B4.out.mono B1.out.size)))).mono ?_
     rintro e w3 ⟨bf,vl,vf,vg,rs,rfl,hF⟩
     have HF:=qkm hF
     have H4:=qkm (heap_alloc_new w1.drew (.cells #[.pointer none] 79))
     have H5:=qkm ((hF.be.block _ (qkp H4.out).1).trans H4.out)
     have H6:Hid (w3.heap[w1.heap.size]?=some (.cells #[.pointer none] 79)):=H5.out
     obtain ⟨z1,z2⟩:=cl1 H6.out
     have z3:=qac H6.out 0
     clear hF
     go_wp2_with fail
     refine ⟨qaj HF.out.be (fun z hz=>by
      refine Nat.lt_of_lt_of_le ?_ (qaa w1.drew (.cells #[.pointer none] 79)).size
      rcases hz with rfl|rfl <;> assumption),?_⟩
     refine qil 19 _ rfl (by kernel_rfl) ?_
     simp only [qkj,qkk,qkl]
     go_wp2_with fail
     refine qir (by kernel_rfl) ?_ _
     go_wp2_with fail
     go_meet
     case rel=>
      refine ⟨w1.drew.heap.size,bf,vl,vf,vg,rs,_,rfl,heap_setCell_same w3 _ 0 _ _ _ H5.out,?_,by
       show FdM _ _ _ _ _ _ _ _ _ _ _ _ _ _ _ _ _
       rw [HMI.out]
       exact HF.out.reset H4.out _⟩
      exact BD1.out.trans ((qaa w1.drew _).mono BD1.out.size |>.setCell (Nat.le_refl _) _)
   ·go_wp2_with fail
    refine ⟨qaj (qaa _ _) (fun z hz=>by rcases hz with rfl|rfl <;> assumption),?_⟩
    refine qew 15 _ rfl (by kernel_rfl) ?_
    simp only [qkj,qkk,qkl]
    go_wp2_with fail
    refine ⟨fun _ _ _=>rfl,?_⟩
    refine qh2 [16] _ _ _ _ (by kernel_rfl) ?_
    simp only [qka,qkb,qkc,qkd,qke,qkf,qkg,qkh,qki,Nat.reduceAdd,Nat.reduceSub]
    repeat (go_big_quiet_step (fail))
    refine wpQuiet_nil ?_
    refine qew 17 _ rfl (by kernel_rfl) ?_
    simp only [qkj,qkk,qkl]
    go_wp2_with fail
    have B4:Hid (Below w1.heap.size w1 (w1.drew.alloc (.cells #[.pointer none] 79))):=BD1.out.trans ((qaa w1.drew _).mono BD1.out.size)
    refine (HNF.out (w1.drew.alloc (.cells #[.pointer none] 79)) (Ext.below (B1.out.trans (B4.out.mono B1.out.size)))).mono ?_
    rintro e w3 ⟨bf,vl,vf,vg,rs,rfl,hF⟩
    have HF:=qkm hF
    have H4:=qkm (heap_alloc_new w1.drew (.cells #[.pointer none] 79))
    have H5:=qkm ((hF.be.block _ (qkp H4.out).1).trans H4.out)
    have H6:Hid (w3.heap[w1.heap.size]?=some (.cells #[.pointer none] 79)):=H5.out
    obtain ⟨z1,z2⟩:=cl1 H6.out
    have z3:=qac H6.out 0
    clear hF
    go_wp2_with fail
    refine ⟨qaj HF.out.be (fun z hz=>by
     refine Nat.lt_of_lt_of_le ?_ (qaa w1.drew (.cells #[.pointer none] 79)).size
     rcases hz with rfl|rfl <;> assumption),?_⟩
    refine qil 19 _ rfl (by kernel_rfl) ?_
    simp only [qkj,qkk,qkl]
    go_wp2_with fail
    refine qir (by kernel_rfl) ?_ _
    go_wp2_with fail
    go_meet
    case rel=>
     refine ⟨w1.drew.heap.size,bf,vl,vf,vg,rs,_,rfl,heap_setCell_same w3 _ 0 _ _ _ H5.out,?_,by
      show FdM _ _ _ _ _ _ _ _ _ _ _ _ _ _ _ _ _
      rw [HMI.out]
      exact HF.out.reset H4.out _⟩
     exact BD1.out.trans ((qaa w1.drew _).mono BD1.out.size |>.setCell (Nat.le_refl _) _)
 case rest=>
  obtain ⟨b10,bf,vl,vf,vg,rs,wf,rfl,HB,BF,HF⟩:=hcut
  obtain ⟨al,cl,rfl⟩:=HF.out.slice
  have HVW:Hid (VwM W0 wf k x sp):=HV.out.grow BF.out
  have BW:Hid (Below w.heap.size w wf):=B1.out.trans (BF.out.mono B1.out.size)
  have HPV:Hid (PrV wf (.agg #[.string nm,.bool P.void,.int .i64 P.params,.int .i64 P.regs,.slice ao P.objs.length co,.slice ab P.blks.length cb]) P):=⟨nm,_,_,rfl,HVO.out.ext (Ext.below BW.out),HVB.out.ext (Ext.below BW.out)⟩
  have HBK:=qkm (HVB.out.ext (Ext.below BW.out))
  have HSW:Hid (RdB wf (.slice sa (min s.length R) sc) (qb8 P s)):=RdB.cut22 (HS.out.ext (Ext.below BW.out)) (by rw [HR.out];simp)
  have HFX:Hid (FdP wf bf nm P (.slice ao P.objs.length co) (.slice ab P.blks.length cb) k.bv (.slice sa (min s.length R) sc) al cl vf vg rs (qdk P.blks.length) wc):=HF.out
  have HORD:=qkm (fun W (hW:Ext wf W)=>quv P (.agg #[.string nm,.bool P.void,.int .i64 P.params,.int .i64 P.regs,.slice ao P.objs.length co,.slice ab P.blks.length cb]) W (HPV.out.ext hW) (by omega) hb0)
  have HMEMB:Hid (∀ q,q<P.blks.length→P.blks.getD q default∈P.blks):=fun q hq=>by simp [List.getD,hq]
  have HSPR:=qkm (fun (X:List Nat) (q:Nat) (W:World) (hF:FdP wf bf nm P (.slice ao P.objs.length co) (.slice ab P.blks.length cb) k.bv (.slice sa (min s.length R) sc) al cl vf vg rs X W) (hX:X.length=P.blks.length) (hq:q<P.blks.length) (hlow:qma (64*lwN P) X)=>qqj wf W bf nm P (.slice ao P.objs.length co) (.slice ab P.blks.length cb) k.bv (.slice sa (min s.length R) sc) al cl vf vg rs X (qb8 P s) q hF HBK.out HSW.out (qhd P s) hX hq (by omega) (HIL.out _ (HMEMB.out q hq)).1 (fun i hi=>Nat.le_trans ((HIL.out _ (HMEMB.out q hq)).2 i hi) (by decide)) ⟨hr0,by omega⟩ (by omega) hlow (HOU.out q hq))
  have HIN:=qkm (qxw P)
  have HALL:Hid (∀ X,(∀ n:Nat,(n:Int)∈qt4 P→qzc (qb8 P s) (qad P).length P X n)→qg5 (qb8 P s) (qad P).length P X):=fun X h n hn=>h n (qu0 P hb0 n hn)
  have hE:=Ext.below HF.out.be
  obtain ⟨z1,z2⟩:=cl1 HB.out
  obtain ⟨u0,u1,u2,u3,u4,u5,u6,u7,u8,u9,u10,lu⟩:=qau HF.out.box
  have HBE:=qkm HF.out.be
  clear HV H1 y0 y1 y2 y3 ly t0 t1 t2 t3 t4 t5 lbp HF
  go_wp2_with fail
  refine (HORD.out wc (Ext.below HBE.out)).mono ?_
  clear HORD
  rintro e w4 ⟨v4,rfl,ho4,hb4⟩
  have HF4:Hid (FdP wf bf nm P (.slice ao P.objs.length co) (.slice ab P.blks.length cb) k.bv (.slice sa (min s.length R) sc) al cl vf vg rs (qdk P.blks.length) w4):=FdM.below HFX.out hb4
  have HB4:=qkm ((hb4.block _ (qkp HB.out).1).trans HB.out)
  have HO4:Hid (qa8 w4 0 v4 (qt4 P)):=qeq ho4 (Nat.zero_le _)
  obtain ⟨aO,cO,rfl,hO1,hO2, -⟩:=qa8.rd HO4.out
  unfold maxLen at hO2
  clear ho4 hb4 HFX HB z1 z2 u0 u1 u2 u3 u4 u5 u6 u7 u8 u9 u10 lu
  generalize qt4 P=od at *
  go_wp2_with fail
  go_loopg [12] (2*muH P (qdk P.blks.length)+1) (fun mm b wr=>∃ (X:List Nat) (g:Bool),b=.bool g∧X.length=P.blks.length∧Hid (mm=2*muH P X+(if g then 1 else 0))∧Hid (FdP wf bf nm P (.slice ao P.objs.length co) (.slice ab P.blks.length cb) k.bv (.slice sa (min s.length R) sc) al cl vf vg rs X wr)∧Hid (qma (64*lwN P) X)∧Hid (qcf (qb8 P s) (qad P).length P X)∧Hid (g=false→qg5 (qb8 P s) (qad P).length P X)∧Hid (wr.heap[b10]?=some (.cells #[.pointer (some ⟨bf,0,none⟩)] 79))∧Hid (qa8 wr 0 (.slice aO od.length cO) od))
  case atStart=>exact ⟨qdk P.blks.length,true,rfl,by simp [qdk],rfl,HF4,qma.zero _ _,qcf.zero _ _ _ _,(fun h=>by cases h),HB4,HO4⟩
  case round=>
   clear HF4 HB4 HO4
   obtain ⟨X,g,rfl,hX,Hm,HFX,HLO,HSO,HST,HB,HO⟩:=hrel
   cases g
   ·rename World=>w5
    have HSI:=qkm (HST.out rfl)
    obtain ⟨z1,z2⟩:=cl1 HB.out
    obtain ⟨u0,u1,u2,u3,u4,u5,u6,u7,u8,u9,u10,lu⟩:=qau HFX.out.box
    have hmk:=run_make_row' (P:=Try.prog) 38 45 (.slice none 0 0) 24 Try.underlying38 qyp rfl .i64 .i64 P.blks.length (by omega) (by omega)
    have HB5:Hid (Below wf.heap.size wf w5):=HFX.out.be
    clear HST HO Hm HSPR HIN HALL
    go_wp2_with fail
    clear hmk
    have M0:Hid (PT w5 (w5.alloc (.cells (madeCells #[.slice none 0 0] P.blks.length) 45)) w5.heap.size (w5.heap.size+1) P.blks.length (List.replicate P.blks.length (.slice none 0 0)) (qhc P.blks.length (FiF (qb8 P s) P (qbe k x sp) X) 0 [])):=by
     refine ⟨qaa _ _,q2a w5 _ (by unfold maxLen;omega),fun j hj=>?_,fun i j hi hj hij=>.inl ?_,Nat.le_refl _,Nat.lt_succ_self _,by simp,qvi _ _ _ _⟩
     ·rw [q1o]
      have e1:(List.replicate P.blks.length (Value.slice none 0 0)).getD j undef=.slice none 0 0:=by simp [List.getD,List.getElem?_replicate,hj]
      have e2:(List.replicate P.blks.length ([]:List Int)).getD j []=[]:=by simp only [List.getD,List.getElem?_replicate];split <;> rfl
      rw [e1,e2]
      exact qa8.nil _ _
     ·have e1:(List.replicate P.blks.length (Value.slice none 0 0)).getD i undef=.slice none 0 0:=by simp [List.getD,List.getElem?_replicate,hi]
      rw [e1];rfl
    obtain ⟨WA,hWA⟩:∃ WA,WA=(w5.alloc (.cells (madeCells #[.slice none 0 0] P.blks.length) 45)).alloc (.cells #[.slice (some ⟨w5.heap.size,0,none⟩) P.blks.length P.blks.length] 38):=⟨_,rfl⟩
    have MA:Hid (PT w5 WA w5.heap.size (w5.heap.size+2) P.blks.length (List.replicate P.blks.length (.slice none 0 0)) (qhc P.blks.length (FiF (qb8 P s) P (qbe k x sp) X) 0 [])):=by
     have h:=M0.out.grow (qaa (w5.alloc (.cells (madeCells #[.slice none 0 0] P.blks.length) 45)) (.cells #[.slice (some ⟨w5.heap.size,0,none⟩) P.blks.length P.blks.length] 38))
     rw [←hWA] at h
     refine ⟨h.below,h.tab,fun j hj=>?_,h.ne,h.g0,by have:=h.gB;omega,by rw [hWA];simp,h.len⟩
     have e1:(List.replicate P.blks.length (Value.slice none 0 0)).getD j undef=.slice none 0 0:=by simp [List.getD,List.getElem?_replicate,hj]
     have e2:(qhc P.blks.length (FiF (qb8 P s) P (qbe k x sp) X) 0 []).getD j []=[]:=by rw [qon _ _ _ _ hj];simp
     rw [e1,e2]
     exact qa8.nil _ _
    have HBA:Hid (WA.heap[w5.heap.size+1]?=some (.cells #[.slice (some ⟨w5.heap.size,0,none⟩) P.blks.length P.blks.length] 38)):=by
     show WA.heap[w5.heap.size+1]?=_
     rw [hWA]
     have:=heap_alloc_new (w5.alloc (.cells (madeCells #[.slice none 0 0] P.blks.length) 45)) (.cells #[.slice (some ⟨w5.heap.size,0,none⟩) P.blks.length P.blks.length] 38)
     simpa using this
    have HB0:=qkm HB.out
    have lb10:b10<w5.heap.size:=z2
    rw [←hWA]
    clear hWA M0 z1 z2 u0 u1 u2 u3 u4 u5 u6 u7 u8 u9 u10 lu
    have HHZ:=qkm (fun (q:Nat) (j:Nat) (hq:q<P.blks.length) (hj:j<(P.blks.getD q default).ins.length)=>(⟨HVW.out,rfl,by rw [HKK.out.1];omega,fun r=>by rw [qit HKK.out.1 hr0 HKK.out.2.2.2.2.1 r];exact HOF.out r,fun l hl=>by
     obtain ⟨b,hb,hlb⟩:=qpc hl
     rw [HKK.out.1];exact HAC.out b hb l hlb,by
     rw [HKK.out.1];exact HAC.out _ (HMEMB.out q hq) _ (qa5 hj)⟩:HzA W0 wf k x sp k.bv P ((P.blks.getD q default).ins.getD j default)))
    go_loopw [76] (fun i wr=>∃ (kk:Nat) (vs:List Value),kk≤P.blks.length∧i=.int .i64 (kk:Int)∧Hid (PT w5 wr w5.heap.size (w5.heap.size+2) P.blks.length vs (qhc P.blks.length (FiF (qb8 P s) P (qbe k x sp) X) kk []))∧Hid (wr.heap[w5.heap.size+1]?=some (.cells #[.slice (some ⟨w5.heap.size,0,none⟩) P.blks.length P.blks.length] 38))) (fun i _=>P.blks.length-(intOf i).toNat)
    case atStart=>exact ⟨0,_,Nat.zero_le _,rfl,MA,HBA⟩
    case round=>
     clear MA HBA
     obtain ⟨kk,vs,hk,rfl,HM,HBA⟩:=hrel
     have HB7:=qkm ((HM.out.below.block _ lb10).trans HB.out)
     obtain ⟨z1,z2⟩:=cl1 HB7.out
     obtain ⟨y1,y2⟩:=cl1 HBA.out
     by_cases hlt:kk<P.blks.length
     ·have g1:decide (kk<P.blks.length)=true:=qkn hlt
      have g2:decide ((kk:Int)<(P.blks.length:Int))=true:=qkn (by omega)
      obtain ⟨W7,hW7⟩:∃ W7,W7=wr.alloc (.cells #[.int .i64 (kk:Int)] 3):=⟨_,rfl⟩
      have B7:Below wr.heap.size wr W7:=by rw [hW7];exact qaa wr _
      have HM7:Hid (FiM w5 w5.heap.size (w5.heap.size+1) wr.heap.size b10 bf P.blks.length kk (qhc P.blks.length (FiF (qb8 P s) P (qbe k x sp) X) kk (FiP (qb8 P s) P (qbe k x sp) X kk 0)) W7) :=
       ⟨⟨vs,HM.out.grow B7,fun j hj e=>by have:=(World.ownsRow.lt (HM.out.row j hj) _ e).2;omega⟩,(B7.block _ y2).trans HBA.out,by rw [hW7];exact heap_alloc_new wr _,(B7.block _ z2).trans HB7.out,by omega,by omega⟩
      have hz7:wr.heap.size<W7.heap.size:=by rw [hW7];simp
      have HF7:Hid (FdP wf bf nm P (.slice ao P.objs.length co) (.slice ab P.blks.length cb) k.bv (.slice sa (min s.length R) sc) al cl vf vg rs X W7):=FdM.below (FdM.below HFX.out HM.out.below) B7
      have HEA:=qkm (quu wf W7 bf nm P (.slice ao P.objs.length co) (.slice ab P.blks.length cb) k.bv (.slice sa (min s.length R) sc) al cl vf vg rs X (qb8 P s) kk b10 wr.heap.size (w5.heap.size+1) (fun j W=>FiM w5 w5.heap.size (w5.heap.size+1) wr.heap.size b10 bf P.blks.length kk (qhc P.blks.length (FiF (qb8 P s) P (qbe k x sp) X) kk (FiP (qb8 P s) P (qbe k x sp) X kk j)) W) HF7.out HBK.out HSW.out (qhd P s) hX hlt (by omega) (HIL.out _ (HMEMB.out kk hlt)).1 (fun i hi=>Nat.le_trans ((HIL.out _ (HMEMB.out kk hlt)).2 i hi) (by decide)) ⟨hr0,by omega⟩ (by omega)
       (fun j A B hI hb hka=>FiM.pass hI hb hka (by omega) (by omega) (Nat.le_trans HM.out.below.size B7.size)) HM7.out
       (fun j W gh ch hj hI hf _ _ hrow=>(qyh W0 wf w5 W k x sp bf nm P (.slice ao P.objs.length co) (.slice ab P.blks.length cb) k.bv (.slice sa (min s.length R) sc) al cl vf vg rs X (qb8 P s) gh ch _ w5.heap.size (w5.heap.size+1) wr.heap.size b10 kk j _ (HHZ.out kk j hlt hj) HFX.out HBK.out HSW.out (qhd P s) (by omega) ⟨hr0,by omega⟩ (by omega) hlt hj (HIL.out _ (HMEMB.out kk hlt)).1 hrow hI (by
         rw [qrn _ _ _ _ hlt]
         have:=qya (qb8 P s) P (qbe k x sp) X kk j
         have:=(HIL.out _ (HMEMB.out kk hlt)).1
         omega)).mono fun e w' ⟨h1,h2,h3⟩=>⟨h1,by
          rw [qrn _ _ _ _ hlt,que] at h2
          show FiM _ _ _ _ _ _ _ _ _ _
          rw [quc]
          split <;> rename_i hh
          ·rw [if_pos hh] at h2;exact h2
          ·rw [if_neg hh] at h2;exact h2,by
          obtain ⟨vt,hp, -⟩:=h2.pt
          exact FdM.below HFX.out hp.below,h3⟩))
      clear HM HBA HM7
      go_wp2_with fail
      rw [←hW7]
      clear hW7 z1 z2 y1 y2
      refine HEA.out.mono ?_
      clear HEA
      rintro e w8 ⟨gh,ch,rfl, -, -,hI8,hF8,hsz8⟩
      obtain ⟨vt,hp8, -⟩:=hI8.pt
      have HM8:=qkm hp8
      have HBA8:=qkm hI8.hbo
      clear hI8 hF8 hp8
      go_wp2_with fail
      go_roundw
      case rel=>exact ⟨kk+1,vt,hlt,by go_num,by
       show PT _ _ _ _ _ _ _
       rw [←qs0,←qw8]
       exact HM8.out,HBA8⟩
      case measure=>simp [intOf];omega
     ·obtain rfl:kk=P.blks.length:=by omega
      go_wp2_with fail
      go_ret2
      obtain ⟨hkl,hkT,hxe,hxc,hsp,hkp,hkN⟩:=HKK.out
      refine ⟨w5.heap.size,vs,X,k,x,sp,rfl,?_,HSO.out,HSI.out,hkl,hkT,hxe,hxc,hsp,hkp,hkN⟩
      have:=HM.out
      rw [qvd] at this
      exact this.base22 (BW.out.trans (HB5.out.mono BW.out.size))
   ·clear HST
    go_wp2_with fail
    go_loopw [12,52] (fun b i wr=>∃ (kk:Nat) (X2:List Nat) (g:Bool),kk≤od.length∧i=.int .i64 (kk:Int)∧b=.bool g∧X2.length=P.blks.length∧Hid (g=true→muH P X2<muH P X)∧Hid (g=false→X2=X∧∀ n:Nat,(n:Int)∈od.take kk→qzc (qb8 P s) (qad P).length P X n)∧Hid (FdP wf bf nm P (.slice ao P.objs.length co) (.slice ab P.blks.length cb) k.bv (.slice sa (min s.length R) sc) al cl vf vg rs X2 wr)∧Hid (qma (64*lwN P) X2)∧Hid (qcf (qb8 P s) (qad P).length P X2)∧Hid (wr.heap[b10]?=some (.cells #[.pointer (some ⟨bf,0,none⟩)] 79))∧Hid (qa8 wr 0 (.slice aO od.length cO) od)) (fun _ i _=>od.length-(intOf i).toNat)
    case atStart=>exact ⟨0,X,false,Nat.zero_le _,rfl,rfl,hX,(fun h=>by cases h),(fun _=>⟨rfl,fun n hn=>by simp at hn⟩),HFX,HLO,HSO,HB,HO⟩
    case round=>
     clear HFX HLO HSO HB HO
     obtain ⟨kk,X2,g,hk,rfl,rfl,hX2,HM1,HM2,HFX,HLO,HSO,HB,HO⟩:=hrel
     by_cases hlt:kk<od.length
     ·have g1:decide (kk<od.length)=true:=qkn hlt
      have g2:decide ((kk:Int)<(od.length:Int))=true:=qkn (by omega)
      have hmem:od.getD kk 0∈od:=by simp [List.getD,hlt]
      obtain ⟨q0,q1⟩:=HIN.out _ hmem
      obtain ⟨aO',cO',eO, -, -,hcl⟩:=qa8.rd HO.out
      obtain ⟨bl,ol,hbl,hcell⟩:=hcl kk hlt
      simp only [Value.slice.injEq] at eO
      obtain ⟨rfl, -,rfl⟩:=eO
      subst hbl
      simp only [Nat.mul_one,Nat.add_zero] at hcell
      have HTK:Hid (od.take (kk+1)=od.take kk++[od.getD kk 0]):=by
       show _=_
       rw [List.take_succ,List.getElem?_eq_getElem hlt];simp [List.getD,hlt]
      generalize od.getD kk 0=Q at *
      obtain ⟨q,rfl⟩:=Int.eq_ofNat_of_zero_le q0
      have hq:q<P.blks.length:=by omega
      obtain ⟨z1,z2⟩:=cl1 HB.out
      clear hcl q0 q1 hmem
      go_wp2_with fail
      refine (HSPR.out X2 q wr HFX.out hX2 hq HLO.out).mono ?_
      rintro e w6 ⟨rfl,hf6,hk6⟩
      have hSP:=qvh HLO.out (qln (qhd P s) hq (HLO.out q)) (qbr (P.blks.getD q default)) (fun t ht=>by have:=HOU.out q hq t ht;omega)
      have HSO3:=qkm (qpj HSO.out hq (qbr (P.blks.getD q default)) (fun t ht=>⟨(HOU.out q hq t ht).1,ht⟩))
      have HSL:=qkm (fun h=>qqa hSP h)
      have HSP:=qkm hSP
      have HF6:=qkm hf6
      have HB6:=qkm (hk6.cells HB.out (by decide))
      have HO6:=qkm (show qa8 w6 0 _ od from hk6.own HO.out (by decide))
      clear hSP hf6 hk6 HFX HSO HLO HB HO z1 z2 hcell
      generalize qm3 (qci (qb8 P s) (qad P).length (P.blks.getD q default) (qar P q) (X2.getD q 0)) (qbr (P.blks.getD q default)) X2=st at *
      obtain ⟨X3,g3⟩:=st
      have hX3:X3.length=P.blks.length:=HSP.out.len.trans hX2
      have HQ:Hid (((g3 || g)=true→muH P X3<muH P X)∧((g3 || g)=false→X3=X∧∀ n:Nat,(n:Int)∈od.take (kk+1)→qzc (qb8 P s) (qad P).length P X n)):=by
       constructor
       ·intro h
        cases g3 with
        | true=>
         have h1:=q0y HSP.out.low hX3 (HSP.out.news rfl)
         cases g with
         | true=>exact Nat.lt_trans h1 (HM1.out rfl)
         | false=>rw [(HM2.out rfl).1] at h1;exact h1
        | false=>
         obtain ⟨e1, -⟩:=HSP.out.same rfl
         rw [show X3=X2 from e1]
         exact HM1.out h
       ·intro h
        rw [Bool.or_eq_false_iff] at h
        obtain ⟨rfl,rfl⟩:=h
        obtain ⟨e1,e2⟩:=HM2.out rfl
        obtain ⟨e3, -⟩:=HSP.out.same rfl
        refine ⟨Eq.trans e3 e1,fun n hn=>?_⟩
        rw [HTK.out,List.mem_append] at hn
        rcases hn with hn|hn
        ·exact e2 n hn
        ·obtain rfl:n=q:=by have:=List.mem_singleton.1 hn;omega
         rw [←e1]
         exact HSL.out rfl
      have HLO3:Hid (qma (64*lwN P) X3):=HSP.out.low
      have HSO4:Hid (qcf (qb8 P s) (qad P).length P X3):=HSO3.out
      have HF7:Hid (FdP wf bf nm P (.slice ao P.objs.length co) (.slice ab P.blks.length cb) k.bv (.slice sa (min s.length R) sc) al cl vf vg rs X3 w6):=HF6.out
      clear HSP HSL HM1 HM2 HSO3 HF6
      cases g3 <;> cases g
      all_goals
       go_wp2_with fail
       go_roundw
       case rel=>exact ⟨kk+1,X3,_,hlt,by go_num,rfl,hX3,HQ.out.1,HQ.out.2,HF7,HLO3,HSO4,HB6,HO6⟩
       case measure=>simp [intOf];omega
     ·obtain rfl:kk=od.length:=by omega
      go_wp2_with fail
      go_roundg (2*muH P X2+(if g then 1 else 0))
      case rel=>
       refine ⟨X2,g,rfl,hX2,rfl,HFX,HLO,HSO,fun h=>?_,HB,HO⟩
       obtain ⟨e1,e2⟩:=HM2.out h
       rw [List.take_length] at e2
       rw [e1]
       exact HALL.out X e2
      case measure=>
       rw [Hm.out]
       cases g with
       | true=>have:=HM1.out rfl;simp;omega
       | false=>have:=(HM2.out rfl).1;rw [this];simp
end Go.Proofs.Ytmcddolkpcgddaa
