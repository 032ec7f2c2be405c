/-
 hazard: a finder is made (newFinder).
-/
import Derived.Test.YtmcddolkpcgddaaZHazardFinds24
set_option maxHeartbeats 4000000
set_option maxRecDepth 100000
set_option linter.all false
namespace Go.Proofs.Ytmcddolkpcgddaa
open Go.ChangeShapes Go.WideShapes Go.ChangeAt Go.RowKit
def lwN (p:Pr):Nat:=((qad p).length+p.regs.toNat+63) / 64
def qdv (p:Pr) (k:Nat):List In:=(p.blks.take k).flatMap fun b=>qa7 b.ins
def qaw (p:Pr) (k:Nat):List Int:=(List.range k).map fun n=>((qar p n:Nat):Int)
theorem qip (p:Pr) (k:Nat):(qdv p k).length=qar p k:=rfl
theorem qmg (p:Pr) (k:Nat):qaw p (k+1)=qaw p k++[((qar p k:Nat):Int)]:=by unfold qaw;rw [List.range_succ,List.map_append];rfl
theorem qnl (p:Pr) (k:Nat) (h:k<p.blks.length):qdv p (k+1)=qdv p k++qa7 (p.blks.getD k default).ins:=by
 unfold qdv
 have e:p.blks.getD k default=p.blks[k]:=by simp [List.getD,h]
 rw [e,List.take_succ_eq_append_getElem h,List.flatMap_append]
 simp
theorem qik (p:Pr):qdv p p.blks.length=qad p:=by unfold qdv qad;rw [List.take_length]
theorem qm4 (l:List In) (k:Nat) (h:k<l.length):qa7 (l.take (k+1))=qa7 (l.take k)++(if (l.getD k default).op=5 then [l.getD k default] else []):=by
 have e:l.getD k default=l[k]:=by simp [List.getD,h]
 rw [e,List.take_succ_eq_append_getElem h]
 unfold qa7
 rw [List.filter_append]
 congr 1
 by_cases h5:l[k].op=5
 ·simp [h5]
 ·simp [h5]
theorem qli (l:List In):(qa7 l).length≤l.length:=List.length_filter_le ..
theorem qiv (l:List Bk) (n:Nat) (h:∀ b∈l,b.ins.length≤n):(l.flatMap fun b=>qa7 b.ins).length≤l.length*n:=by
 induction l with
 | nil=>simp
 | cons a l ih=>
  have h1:=ih fun b hb=>h b (List.mem_cons_of_mem _ hb)
  have h2:=h a (List.mem_cons_self ..)
  have h3:=qli a.ins
  rw [List.flatMap_cons,List.length_append,List.length_cons,Nat.succ_mul]
  omega
def qdk (k:Nat):List Nat:=List.replicate k 0
def qmf (nm:ByteArray) (p:Pr) (vo vb:Value):Obj:=.cells #[.string nm,.bool p.void,.int .i64 p.params,.int .i64 p.regs,vo,vb] 32
structure NfS (w:World) (nm:ByteArray) (p:Pr) (vo vb:Value) (bv:Nat) (vs vl vf vg:Value) (LL:List In) (F:List Int) (rs:List (Nat×Nat)) (X:List Nat) (L:Nat) (W:World):Prop where
 fd:FdM w (w.heap.size+1) nm p vo vb bv vs vl vf vg LL F rs X L W
 pr:W.heap[w.heap.size]?=some (qmf nm p vo vb)
section
variable {w W W':World} {bv L:Nat} {nm:ByteArray} {p:Pr} {vo vb vs vl vf vg v':Value} {LL:List In} {F:List Int} {rs:List (Nat×Nat)} {X:List Nat}
theorem NfS.below (h:NfS w nm p vo vb bv vs vl vf vg LL F rs X L W) (hb:Below W.heap.size W W'):NfS w nm p vo vb bv vs vl vf vg LL F rs X L W' :=
 ⟨h.fd.below hb,(hb.block _ (qkp h.pr).1).trans h.pr⟩
theorem NfS.keepPr (h:NfS w nm p vo vb bv vs vl vf vg LL F rs X L W) {row:Option Nat} (hg:W.grownBy W' row) (hr:∀ b,row=some b→w.heap.size+2≤b) (j:Nat) (u:Value):(W'.setCell ⟨w.heap.size+1,j,none⟩ u).heap[w.heap.size]?=some (qmf nm p vo vb) :=
 (Below.heap_setCell W' ⟨w.heap.size+1,j,none⟩ u w.heap.size (by simp)).trans ((hg.block _ (qkp h.pr).1 fun e=>by have:=hr _ e.symm;omega).trans h.pr)
theorem NfS.from (h:NfS w nm p vo vb bv vs vl vf vg LL F rs X L W) {x:Int} (hg:W.grownBy W' vf.ownBlock) (ho:W'.ownsRow (w.heap.size+2) 3 1 v' (F.length+1) (F.map (Value.int .i64)++[.int .i64 x])):NfS w nm p vo vb bv vs vl v' vg LL (F++[x]) rs X L (W'.setCell ⟨w.heap.size+1,9,none⟩ v') :=
 ⟨h.fd.from hg ho,h.keepPr hg (fun b e=>(qdt h.fd.fr e).1) 9 v'⟩
theorem NfS.load (h:NfS w nm p vo vb bv vs vl vf vg LL F rs X L W) {K:List (In×Value)} (hK:InA w (w.heap.size+2) W vl K) (hL:K.map Prod.fst=LL) {y:In×Value} (hy:RdI w y.2 y.1.args) (hg:W.grownBy W' vl.ownBlock) (ho:W'.ownsRow (w.heap.size+2) 58 11 v' (K.length+1) (K.flatMap qbg++qbg y)):NfS w nm p vo vb bv vs v' vf vg (LL++[y.1]) F rs X L (W'.setCell ⟨w.heap.size+1,8,none⟩ v') :=
 ⟨h.fd.load hK hL hy hg ho,h.keepPr hg (fun b e=>(qdt hK.own e).1) 8 v'⟩
theorem NfS.row (h:NfS w nm p vo vb bv vs vl vf vg LL F rs X L W) {g c R:Nat} (hr:qb3 W g c L R) (hgB:w.heap.size+2≤g) (hn:∀ i,i<X.length→(rs.getD i (0,0)).1≠g) (hg:W.grownBy W' vg.ownBlock) (ho:W'.ownsRow (w.heap.size+2) 87 1 v' (X.length+1) (rs.map (qft L)++[qft L (g,c)])):NfS w nm p vo vb bv vs vl vf v' LL F (rs++[(g,c)]) (X++[R]) L (W'.setCell ⟨w.heap.size+1,10,none⟩ v') :=
 ⟨h.fd.row hr hgB hn hg ho,h.keepPr hg (fun b e=>(qdt h.fd.tb.tab e).1) 10 v'⟩
end
theorem qs4:(Try.prog.info? 87).map (fun i=>(i.zero,i.size,i.bytes))=some (some (.slice none 0 0),1,24):=by kernel_rfl
theorem qh3:(Try.prog.info? 134).map (fun i=>(i.zero,i.size,i.bytes))=some (some (.int .u64 0),1,8):=by kernel_rfl
theorem qu2 (X:Int) (N:Nat) (hX:X=(N:Int)) (hN:N≤1000000) (w:World):(Instr.makeSlice 87 (.int .i64 X) (.int .i64 X)).run Try.prog w=.ok (.slice (some ⟨w.heap.size,0,none⟩) N N) (w.alloc (.cells (madeCells #[.int .u64 0] N) 134)):=by
 subst hX
 have hi:=qh3
 cases hx:Try.prog.info? 134 with
 | none=>rw [hx] at hi;cases hi
 | some i=>
  rw [hx] at hi
  simp only [Option.map_some,Option.some.injEq,Prod.mk.injEq] at hi
  obtain ⟨h1,h2,h3⟩:=hi
  have:=run_make (P:=Try.prog) w 87 134 i _ Try.underlying87 hx h1 .i64 .i64 (N:Int) (N:Int) (by omega) (by omega) (by rw [h3];omega) (by omega)
  simp only [Int.toNat_natCast,h2,Nat.mul_one] at this
  exact this
theorem qb3.made (w:World) (n:Nat) (hn:n≤1000000):qb3 (w.alloc (.cells (madeCells #[.int .u64 0] n) 134)) w.heap.size n n 0:=by
 unfold qb3
 refine ⟨by rw [qcq];omega,.inr ⟨w.heap.size,n,_,rfl,Nat.zero_le _,heap_alloc_new w _,Nat.le_refl _,by unfold maxLen;omega,by rw [size_madeCells];omega,?_⟩⟩
 have:(madeCells #[.int .u64 0] n).toList=qb7 n 0:=by
  apply List.ext_getElem?
  intro j
  by_cases hj:j<n
  ·rw [qh7 n 0 j hj,qsr]
   simp only [madeCells,Array.toList_map,List.getElem?_map,Array.toList_range,List.getElem?_range hj,Option.map_some]
   have hz:j % (#[Value.int .u64 0]:Array Value).size=0:=by
    show j % 1=0;omega
   rw [hz];rfl
  ·rw [List.getElem?_eq_none (by simp [size_madeCells];omega),List.getElem?_eq_none (by rw [qcq];omega)]
 rw [this]
 exact List.take_of_length_le (by rw [qcq];omega)
theorem q1f (y:In) (a:Option Addr) (n c:Nat):∀ u∈qbg (y,Value.slice a n c),u.oneCell'=true:=fun u hu=>by
 simp only [qbg,List.mem_cons,List.not_mem_nil,or_false] at hu
 rcases hu with rfl|rfl|rfl|rfl|rfl|rfl|rfl|rfl|rfl|rfl|rfl <;> rfl
def NfQ (w:World) (nm:ByteArray) (p:Pr) (vo vb:Value) (bv:Nat) (vs:Value) (e:Ending) (w':World):Prop:=∃ bf vl vf vg rs,e=.returned (.pointer (some ⟨bf,0,none⟩))∧FdM w bf nm p vo vb bv vs vl vf vg (qad p) (qaw p p.blks.length) rs (qdk p.blks.length) (lwN p) w'
theorem qww (nm:ByteArray) (p:Pr) (vo vb vs:Value) (bv:Nat) (s:List Bool) (w:World) (hP:PrV w (.agg #[.string nm,.bool p.void,.int .i64 p.params,.int .i64 p.regs,vo,vb]) p) (hs:RdB w vs s) (hbl:p.blks.length≤1000) (hil:∀ b∈p.blks,b.ins.length≤1000) (hr:0≤p.regs∧p.regs≤10000) :
  Calls Try.prog 34 #[.agg #[.string nm,.bool p.void,.int .i64 p.params,.int .i64 p.regs,vo,vb],.pointer (some ⟨bv,0,none⟩),vs] w (NfQ w nm p vo vb bv vs):=by
 obtain ⟨nm',vo',vb',he,hvo,hvb⟩:=hP
 simp only [Value.agg.injEq,Array.mk.injEq,List.cons.injEq,Value.string.injEq,and_true,true_and] at he
 obtain ⟨rfl,rfl,rfl⟩:=he
 obtain ⟨ao,co,rfl, -⟩:=hvo
 have hvb':=hvb
 obtain ⟨ab,cb,rfl,b1,b2, -⟩:=hvb'
 unfold maxLen at b2
 obtain ⟨sa,sc,rfl, -⟩:=hs
 have HBK:=qkm (qbl.at hvb).2
 have HIL:=qkm hil
 have HPL:Hid ((qad p).length≤1000000):=by
  show _≤_
  have:=qiv p.blks 1000 hil
  unfold qad
  have h2:p.blks.length*1000≤1000*1000:=Nat.mul_le_mul_right _ hbl
  omega
 clear hvb hil
 obtain ⟨LW,hLW⟩:∃ LW,LW=lwN p:=⟨_,rfl⟩
 obtain ⟨NL,hNL⟩:∃ NL,NL=(qad p).length:=⟨_,rfl⟩
 have HLV:Hid (LW=(NL+p.regs.toNat+63) / 64):=by
  show _=_
  rw [hLW,hNL];rfl
 have HQ:Hid (∀ e w',NfQ w nm p (.slice ao p.objs.length co) (.slice ab p.blks.length cb) bv (.slice sa s.length sc) e w'=∃ bf vl vf vg rs,e=.returned (.pointer (some ⟨bf,0,none⟩))∧FdM w bf nm p (.slice ao p.objs.length co) (.slice ab p.blks.length cb) bv (.slice sa s.length sc) vl vf vg (qad p) (qaw p p.blks.length) rs (qdk p.blks.length) LW w'):=fun e w'=>by rw [hLW];rfl
 have HNL:=qkm hNL
 rw [←hNL] at HPL
 clear hLW hNL
 obtain ⟨W0,hW0⟩:∃ W0,W0=qbj w [qmf nm p (.slice ao p.objs.length co) (.slice ab p.blks.length cb),fdO nm p (.slice ao p.objs.length co) (.slice ab p.blks.length cb) bv (.slice sa s.length sc) (.slice none 0 0) (.slice none 0 0) (.slice none 0 0)]:=⟨_,rfl⟩
 have S0:Hid (NfS w nm p (.slice ao p.objs.length co) (.slice ab p.blks.length cb) bv (.slice sa s.length sc) (.slice none 0 0) (.slice none 0 0) (.slice none 0 0) (qdv p 0) (qaw p 0) [] (qdk 0) LW W0):=by
  have h0:=qai [qmf nm p (.slice ao p.objs.length co) (.slice ab p.blks.length cb),fdO nm p (.slice ao p.objs.length co) (.slice ab p.blks.length cb) bv (.slice sa s.length sc) (.slice none 0 0) (.slice none 0 0) (.slice none 0 0)] w 0 (by simp)
  have h1:=qai [qmf nm p (.slice ao p.objs.length co) (.slice ab p.blks.length cb),fdO nm p (.slice ao p.objs.length co) (.slice ab p.blks.length cb) bv (.slice sa s.length sc) (.slice none 0 0) (.slice none 0 0) (.slice none 0 0)] w 1 (by simp)
  have h2:=qa0 [qmf nm p (.slice ao p.objs.length co) (.slice ab p.blks.length cb),fdO nm p (.slice ao p.objs.length co) (.slice ab p.blks.length cb) bv (.slice sa s.length sc) (.slice none 0 0) (.slice none 0 0) (.slice none 0 0)] w
  rw [←hW0] at h0 h1 h2
  exact ⟨⟨h1,⟨[],InA.nil _ _ _,rfl⟩,qa8.nil _ _,TbV.nil _ _ _,h2,Nat.le_succ _⟩,h0⟩
 unfold qbj qmf fdO at hW0
 simp only [List.foldl_cons,List.foldl_nil] at hW0
 have HW0:=qkm hW0.symm
 clear hW0
 go_enter Try.func34,Try.ntmps34
 go_wp2_with fail
 rw [HW0.out]
 clear HW0
 go_loopw [20] (fun i wr=>∃ (k:Nat) (vl vf:Value),k≤p.blks.length∧i=.int .i64 (k:Int)∧Hid (NfS w nm p (.slice ao p.objs.length co) (.slice ab p.blks.length cb) bv (.slice sa s.length sc) vl vf (.slice none 0 0) (qdv p k) (qaw p k) [] (qdk 0) LW wr)) (fun i _=>p.blks.length-(intOf i).toNat)
 case atStart=>exact ⟨0,_,_,Nat.zero_le _,rfl,S0⟩
 case round=>
  clear S0
  obtain ⟨k,vl,vf,hk,rfl,S⟩:=hrel
  obtain ⟨x0,x1,x2,x3,x4,x5,lx⟩:=cl6 S.out.pr
  by_cases hlt:k<p.blks.length
  ·have g1:decide (k<p.blks.length)=true:=qkn hlt
   have g2:decide ((k:Int)<(p.blks.length:Int))=true:=qkn (by omega)
   obtain ⟨b,o,vi,hab,hvi,c0,c1,c2,c3,c4⟩:=HBK.out k hlt
   subst hab
   have hE:=Ext.below S.out.fd.be
   replace c0:=hE _ _ c0
   replace c1:=hE _ _ c1
   replace c2:=hE _ _ c2
   replace c3:=hE _ _ c3
   replace c4:=hE _ _ c4
   have lb:=World.block_lt_of_cell? wr _ c0
   have HVI:=qkm hvi
   obtain ⟨ai,ci,rfl,i1,i2, -⟩:=hvi
   unfold maxLen at i2
   obtain ⟨al,cl,rfl⟩:∃ al cl,vl=.slice al (qar p k) cl:=by
    obtain ⟨K,hK,hL⟩:=S.out.fd.lo
    obtain ⟨a,c,e⟩:=hK.form
    have:K.length=qar p k:=by rw [←qip p k,←hL,List.length_map]
    exact ⟨a,c,by rw [e,this]⟩
   obtain ⟨af,cf,rfl⟩:=qa6 S.out.fd.fr
   have HFS:=qkm (qmg p k)
   have HLS:=qkm (qnl p k hlt)
   have HIN:=qkm (HIL.out (p.blks.getD k default) (qch hlt))
   have hfl:qar p k≤1000000:=by
    have h1:=qiv (p.blks.take k) 1000 (fun b hb=>HIL.out b (List.mem_of_mem_take hb))
    have h2:(p.blks.take k).length*1000≤1000*1000:=Nat.mul_le_mul_right _ (by rw [List.length_take];omega)
    unfold qar;omega
   have hfl2:(qaw p k).length≤1000:=by unfold qaw;rw [List.length_map,List.length_range];omega
   generalize p.blks.getD k default=K at *
   go_wp2_with fail
   obtain ⟨W5,hW5⟩:∃ W5,W5=(wr.alloc (.cells #[.slice ai K.ins.length ci,.int .i64 K.fin,.int .i64 K.a,.int .i64 K.to,.int .i64 K.els] 51)).drew:=⟨_,rfl⟩
   have B5:Hid (Below wr.heap.size wr W5):=by
    show Below _ _ _
    rw [hW5];exact (qaa wr _).drew
   have H9:Hid (W5.heap[wr.heap.size]?=some (.cells #[.slice ai K.ins.length ci,.int .i64 K.fin,.int .i64 K.a,.int .i64 K.to,.int .i64 K.els] 51)):=by
    show _=_
    rw [hW5];exact heap_alloc_new wr _
   refine qae (fun b=>b=w.heap.size+1) (by kernel_rfl) ?_
   show wpE _ _ _ _ _ _ _ (World.drew _)
   rw [←hW5]
   clear hW5 x0 x1 x2 x3 x4 x5 lx c0 c1 c2 c3 c4 lb hE
   have hfo:∀ b,(Value.slice af (qaw p k).length cf).ownBlock=some b→b<wr.heap.size:=fun b e=>(qdt S.out.fd.fr e).2
   have S5:=qkm (S.out.below B5.out)
   have hsz:=S.out.fd.lt
   clear S
   obtain ⟨-, -, -, -, -, -, -, -,y8,y9, -,ly⟩:=qau S5.out.fd.box
   refine qaf [0,1,2,3,4,5,6,7,8,9] _ _ _ _ (by kernel_rfl) ?_
   simp only [qka,qkb,qkc,qkd,qke,qkf,qkg,qkh,qki,Nat.reduceAdd,Nat.reduceSub]
   repeat (go_big_quiet_step (fail))
   refine wpQuiet_nil ?_
   refine qag 10 _ rfl (by kernel_rfl) ?_
   simp only [qkj,qkk,qkl]
   go_wp2_with fail
   refine ⟨qaj (qaa W5 _) (fun b hb=>by rw [hb];exact ly),?_⟩
   have S6:=qkm (S5.out.below (qaa W5 (.cells #[.int .i64 ((qar p k:Nat):Int)] 3)))
   have H9:=qkm (((qaa W5 (.cells #[.int .i64 ((qar p k:Nat):Int)] 3)).block _ (qkp H9.out).1).trans H9.out)
   have hcx:(W5.alloc (.cells #[.int .i64 ((qar p k:Nat):Int)] 3)).cell? ⟨W5.heap.size,0,none⟩=some (.int .i64 ((qar p k:Nat):Int)):=qab (heap_alloc_new W5 _) 0
   clear S5 y8 y9 ly
   obtain ⟨-, -, -, -, -, -, -, -, -,y9, -,ly⟩:=qau S6.out.fd.box
   have f9:=qac S6.out.fd.box 9
   generalize W5.alloc (.cells #[.int .i64 ((qar p k:Nat):Int)] 3)=W6 at *
   refine qag 11 _ rfl (by kernel_rfl) ?_
   simp only [qkj,qkk,qkl]
   refine qz3 (n:=((qar p k:Nat):Int)) S6.out.fd.fr rfl rfl rfl rfl hcx (by omega) (by omega) ?_
   intro v3 w3 h3 hg3 ha3
   have qn:(Value.slice af (qaw p k).length cf).ownBlock≠some (w.heap.size+1):=qat S6.out.fd.fr (Nat.lt_succ_self _)
   refine ⟨fun b o hb=>by subst hb;exact qaq hg3 ly qn,?_⟩
   have S7:=qkm (S6.out.from hg3 h3)
   have y9:=(qaq hg3 ly qn).trans y9
   have f9:=(qa9 hg3 ly qn).trans f9
   have H9:Hid ((w3.setCell ⟨w.heap.size+1,9,none⟩ v3).heap[wr.heap.size]?=_):=(Below.heap_setCell _ _ _ _ (by simp only;omega)).trans ((hg3.block _ (qkp H9.out).1 (fun e=>by have:=hfo _ e.symm;omega)).trans H9.out)
   have l3:w.heap.size+1<w3.heap.size:=Nat.lt_of_lt_of_le ly hg3.size
   obtain ⟨a3,c3,rfl⟩:=qa6 h3
   clear h3 hg3 ha3 qn S6 hcx ly hfo B5
   simp only [Act.put,List.setIfInBounds_toArray,List.set_cons_succ,List.set_cons_zero]
   refine qaf [12,13] _ _ _ _ (by kernel_rfl) ?_
   simp only [qka,qkb,qkc,qkd,qke,qkf,qkg,qkh,qki,Nat.reduceAdd,Nat.reduceSub]
   repeat (go_big_quiet_step (fail))
   refine wpQuiet_nil ?_
   refine qbq 14 _ rfl (by kernel_rfl) ?_
   simp only [qkj,qkk,qkl]
   go_wp2_with fail
   refine qao (by kernel_rfl) ?_ _
   rw [←HFS.out] at S7
   clear y9 f9
   generalize w3.setCell ⟨w.heap.size+1,9,none⟩ (.slice a3 ((qaw p k).length+1) c3)=W8 at *
   have z0:=qab H9.out 0
   simp only [qkc,qke] at z0
   have lz:=World.block_lt_of_cell? W8 _ z0
   have S8:Hid (NfS w nm p (.slice ao p.objs.length co) (.slice (some ⟨b,o,none⟩) p.blks.length cb) bv (.slice sa s.length sc) (.slice al (qar p k) cl) (.slice a3 ((qaw p k).length+1) c3) (.slice none 0 0) (qdv p k++qa7 (K.ins.take 0)) (qaw p (k+1)) [] (qdk 0) LW W8):=by
    show NfS _ _ _ _ _ _ _ _ _ _ _ _ _ _ _ _
    rw [List.take_zero,show qa7 []=[] from rfl,List.append_nil];exact S7.out
   clear S7 l3
   go_wp2_with fail
   clear z0 lz H9
   go_loopw [41] (fun j wr=>∃ (l:Nat) (vl:Value),l≤K.ins.length∧j=.int .i64 (l:Int)∧Hid (NfS w nm p (.slice ao p.objs.length co) (.slice (some ⟨b,o,none⟩) p.blks.length cb) bv (.slice sa s.length sc) vl (.slice a3 ((qaw p k).length+1) c3) (.slice none 0 0) (qdv p k++qa7 (K.ins.take l)) (qaw p (k+1)) [] (qdk 0) LW wr)) (fun j _=>K.ins.length-(intOf j).toNat)
   case atStart=>exact ⟨0,_,Nat.zero_le _,rfl,S8⟩
   case round=>
    clear S8
    obtain ⟨l,vl,hl,rfl,S⟩:=hrel
    by_cases hll:l<K.ins.length
    ·have q1:decide (l<K.ins.length)=true:=qkn hll
     have q2:decide ((l:Int)<(K.ins.length:Int))=true:=qkn (by omega)
     obtain ⟨bi,oi,v9,hai,lbi,hva,d0,d1,d2,d3,d4,d5,d6,d7,d8,d9,d10⟩:=(qbd.at HVI.out).2 l hll
     subst hai
     have hE:=Ext.below S.out.fd.be
     replace d0:=hE _ _ d0
     replace d1:=hE _ _ d1
     replace d2:=hE _ _ d2
     replace d3:=hE _ _ d3
     replace d4:=hE _ _ d4
     replace d5:=hE _ _ d5
     replace d6:=hE _ _ d6
     replace d7:=hE _ _ d7
     replace d8:=hE _ _ d8
     replace d9:=hE _ _ d9
     replace d10:=hE _ _ d10
     replace lbi:=Nat.lt_of_lt_of_le lbi S.out.fd.be.size
     have HVA:=qkm hva
     obtain ⟨va,vc,rfl, -⟩:=hva
     have HLL:=qkm (qm4 K.ins l hll)
     have hfl3:(qdv p k++qa7 (K.ins.take l)).length≤1001000:=by
      rw [List.length_append,qip]
      have h1:=qli (K.ins.take l)
      rw [List.length_take] at h1
      have:=HIN.out
      omega
     generalize K.ins.getD l default=i at *
     cases h5:(i.op ==5)
     ·have HLN:Hid (qa7 (K.ins.take (l+1))=qa7 (K.ins.take l)):=by
       show _=_
       rw [HLL.out,if_neg (by simpa using h5),List.append_nil]
      go_wp2_with fail
      go_roundw
      case rel=>exact ⟨l+1,vl,hll,by go_num,by rw [HLN.out];exact S.out.below (qaa _ _)⟩
      case measure=>simp [intOf];omega
     ·have HLN:Hid (qdv p k++qa7 (K.ins.take (l+1))=(qdv p k++qa7 (K.ins.take l))++[i]):=by
       show _=_
       rw [HLL.out,if_pos (by simpa using h5),List.append_assoc]
      obtain ⟨Kq,hK,hKL⟩:=S.out.fd.lo
      obtain ⟨al2,cl2,rfl⟩:=hK.form
      have hkl:Kq.length≤1001000:=by rw [←hKL,List.length_map] at hfl3;exact hfl3
      clear hfl3
      go_wp2_with fail
      obtain ⟨W5,hW5⟩:∃ W5,W5=(wr.alloc (.cells #[.int .i64 i.op,.int .i64 i.d,.int .i64 i.a,.int .i64 i.b,.int .i64 i.fn,.int .i64 i.obj,.int .i64 i.off,.int .i64 i.size,.int .u32 i.num,.slice va i.args.length vc,.bool i.log] 58)).drew:=⟨_,rfl⟩
      have B5:Hid (Below wr.heap.size wr W5):=by
       show Below _ _ _
       rw [hW5];exact (qaa wr _).drew
      have H9:Hid (W5.heap[wr.heap.size]?=some (.cells #[.int .i64 i.op,.int .i64 i.d,.int .i64 i.a,.int .i64 i.b,.int .i64 i.fn,.int .i64 i.obj,.int .i64 i.off,.int .i64 i.size,.int .u32 i.num,.slice va i.args.length vc,.bool i.log] 58)):=by
       show _=_
       rw [hW5];exact heap_alloc_new wr _
      refine qae (fun b=>b=w.heap.size+1∨b=wr.heap.size) (by kernel_rfl) ?_
      show wpE _ _ _ _ _ _ _ (World.drew _)
      rw [←hW5]
      clear hW5 d0 d1 d2 d3 d4 d5 d6 d7 d8 d9 d10 lbi hE
      have S5:=qkm (S.out.below B5.out)
      have HK5:=qkm (hK.below B5.out)
      have hko:∀ b,(Value.slice al2 Kq.length cl2).ownBlock=some b→b<wr.heap.size:=fun b e=>(qdt hK.own e).2
      have hsz:=S.out.fd.lt
      clear S hK
      obtain ⟨-, -, -, -, -, -, -, -,y8, -, -,ly⟩:=qau S5.out.fd.box
      obtain ⟨d0,d1,d2,d3,d4,d5,d6,d7,d8,d9,d10,ld⟩:=qau H9.out
      refine qaf [0,1,2,3,4,5] _ _ _ _ (by kernel_rfl) ?_
      simp only [qka,qkb,qkc,qkd,qke,qkf,qkg,qkh,qki,Nat.reduceAdd,Nat.reduceSub]
      repeat (go_big_quiet_step (fail))
      refine wpQuiet_nil ?_
      refine qag 6 _ rfl (by kernel_rfl) ?_
      simp only [qkj,qkk,qkl]
      go_wp2_with fail
      refine ⟨qaj (qaa W5 _) (fun b hb=>by rcases hb with rfl|rfl <;> omega),?_⟩
      have S6:=qkm (S5.out.below (qaa W5 (.cells #[.int .i64 i.op,.int .i64 i.d,.int .i64 i.a,.int .i64 i.b,.int .i64 i.fn,.int .i64 i.obj,.int .i64 i.off,.int .i64 i.size,.int .u32 i.num,.slice va i.args.length vc,.bool i.log] 58)))
      have HK6:=qkm (HK5.out.below (qaa W5 (.cells #[.int .i64 i.op,.int .i64 i.d,.int .i64 i.a,.int .i64 i.b,.int .i64 i.fn,.int .i64 i.obj,.int .i64 i.off,.int .i64 i.size,.int .u32 i.num,.slice va i.args.length vc,.bool i.log] 58)))
      have H9:=qkm (((qaa W5 (.cells #[.int .i64 i.op,.int .i64 i.d,.int .i64 i.a,.int .i64 i.b,.int .i64 i.fn,.int .i64 i.obj,.int .i64 i.off,.int .i64 i.size,.int .u32 i.num,.slice va i.args.length vc,.bool i.log] 58)).block _ ld).trans H9.out)
      have HCX:Hid (∀ jj u,(qbg (i,Value.slice va i.args.length vc))[jj]?=some u→(W5.alloc (.cells #[.int .i64 i.op,.int .i64 i.d,.int .i64 i.a,.int .i64 i.b,.int .i64 i.fn,.int .i64 i.obj,.int .i64 i.off,.int .i64 i.size,.int .u32 i.num,.slice va i.args.length vc,.bool i.log] 58)).cell? ⟨W5.heap.size,jj,none⟩=some u):=qho W5 (qbg (i,Value.slice va i.args.length vc)) 58 _ rfl
      clear S5 HK5 y8 ly d0 d1 d2 d3 d4 d5 d6 d7 d8 d9 d10 ld
      obtain ⟨-, -, -, -, -, -, -, -,y8, -, -,ly⟩:=qau S6.out.fd.box
      have f8:=qac S6.out.fd.box 8
      generalize W5.alloc (.cells #[.int .i64 i.op,.int .i64 i.d,.int .i64 i.a,.int .i64 i.b,.int .i64 i.fn,.int .i64 i.obj,.int .i64 i.off,.int .i64 i.size,.int .u32 i.num,.slice va i.args.length vc,.bool i.log] 58)=W6 at *
      refine qag 7 _ rfl (by kernel_rfl) ?_
      simp only [qkj,qkk,qkl]
      refine q12 49 58 qyu Try.underlying49 rfl (by decide) (by decide) (qbg (i,Value.slice va i.args.length vc)) rfl (q1f i va i.args.length vc) HK6.out.own rfl rfl rfl rfl HCX.out (by omega) (by omega) ?_
      intro v3 w3 h3 hg3 ha3
      have qn:(Value.slice al2 Kq.length cl2).ownBlock≠some (w.heap.size+1):=qat HK6.out.own (Nat.lt_succ_self _)
      have qm:(Value.slice al2 Kq.length cl2).ownBlock≠some wr.heap.size:=fun e=>by have:=hko _ e;omega
      have lq:wr.heap.size<W6.heap.size:=(qkp H9.out).1
      refine ⟨fun b o hb=>by rcases hb with rfl|rfl;exact qaq hg3 ly qn;exact qaq hg3 lq qm,?_⟩
      have S7:=qkm (S6.out.load HK6.out hKL HVA.out hg3 h3)
      have y8:=(qaq hg3 ly qn).trans y8
      have f8:=(qa9 hg3 ly qn).trans f8
      have l3:w.heap.size+1<w3.heap.size:=Nat.lt_of_lt_of_le ly hg3.size
      obtain ⟨a4,c4,rfl⟩:=qa6 h3
      clear h3 hg3 ha3 qn qm S6 HK6 HCX ly hko B5
      simp only [Act.put,List.setIfInBounds_toArray,List.set_cons_succ,List.set_cons_zero]
      refine qaf [8,9] _ _ _ _ (by kernel_rfl) ?_
      simp only [qka,qkb,qkc,qkd,qke,qkf,qkg,qkh,qki,Nat.reduceAdd,Nat.reduceSub]
      repeat (go_big_quiet_step (fail))
      refine wpQuiet_nil ?_
      refine qbq 10 _ rfl (by kernel_rfl) ?_
      simp only [qkj,qkk,qkl]
      go_wp2_with fail
      refine qao (by kernel_rfl) ?_ _
      rw [←HLN.out] at S7
      go_wp2_with fail
      go_roundw
      case rel=>exact ⟨l+1,_,hll,by go_num,S7⟩
      case measure=>simp [intOf];omega
    ·obtain rfl:l=K.ins.length:=by omega
     rw [List.take_length,←HLS.out] at S
     go_wp2_with fail
     go_roundw
     case rel=>exact ⟨k+1,vl,_,hlt,by go_num,S⟩
     case measure=>simp [intOf];omega
  ·obtain rfl:k=p.blks.length:=by omega
   obtain ⟨al,cl,rfl⟩:∃ al cl,vl=.slice al NL cl:=by
    obtain ⟨K,hK,hL⟩:=S.out.fd.lo
    obtain ⟨a,c,e⟩:=hK.form
    have:K.length=NL:=by rw [HNL.out,←qik p,←hL,List.length_map]
    exact ⟨a,c,by rw [e,this]⟩
   rw [qik] at S
   have S8:Hid (NfS w nm p (.slice ao p.objs.length co) (.slice ab p.blks.length cb) bv (.slice sa s.length sc) (.slice al NL cl) vf (.slice none 0 0) (qad p) (qaw p p.blks.length) [] (qdk 0) LW wr):=S.out
   clear S
   go_wp2_with fail
   clear x0 x1 x2 x3 x4 x5 lx
   go_loopw [63] (fun i wr=>∃ (k:Nat) (vg:Value) (rs:List (Nat×Nat)),k≤p.blks.length∧i=.int .i64 (k:Int)∧Hid (NfS w nm p (.slice ao p.objs.length co) (.slice ab p.blks.length cb) bv (.slice sa s.length sc) (.slice al NL cl) vf vg (qad p) (qaw p p.blks.length) rs (qdk k) LW wr)) (fun i _=>p.blks.length-(intOf i).toNat)
   case atStart=>exact ⟨0,_,[],Nat.zero_le _,rfl,S8⟩
   case round=>
    clear S8
    obtain ⟨k,vg,rs,hk,rfl,S⟩:=hrel
    by_cases hlt:k<p.blks.length
    ·have q1:decide (k<p.blks.length)=true:=qkn hlt
     have q2:decide ((k:Int)<(p.blks.length:Int))=true:=qkn (by omega)
     obtain ⟨x0,x1,x2,x3,x4,x5,lx⟩:=cl6 S.out.pr
     obtain ⟨R,hR⟩:=Int.eq_ofNat_of_zero_le hr.1
     rw [hR] at x3
     have hRb:R≤10000:=by omega
     have HRR:=qkm hR
     have hpl:=HPL.out
     clear hR hr
     have HLW:Hid (LW=(NL+R+63) / 64):=by
      show _=_
      rw [HLV.out,HRR.out];simp
     go_wp2_with fail
     obtain ⟨W5,hW5⟩:∃ W5,W5=wr.drew:=⟨_,rfl⟩
     have B5:Hid (Below wr.heap.size wr W5):=by
      show Below _ _ _
      rw [hW5];exact Below.drew (Below.refl _ _)
     refine qae (fun b=>b=w.heap.size+1∨b=w.heap.size) (by kernel_rfl) ?_
     show wpE _ _ _ _ _ _ _ (World.drew _)
     rw [←hW5]
     clear hW5 x0 x1 x2 x4 x5
     have x3:=(B5.out.cell (p:=⟨w.heap.size,3,none⟩) lx).trans x3
     have S5:=qkm (S.out.below B5.out)
     have hsz:=S.out.fd.lt
     obtain ⟨-, -, -, -, -, -, -, -,y8, -,y10,ly⟩:=qau S5.out.fd.box
     have hmk:=fun W=>qu2 (((NL:Int)+(R:Int)+64-1) / 64) LW (by rw [HLW.out];omega) (by rw [HLW.out];omega) W
     have hLb:LW≤1000000:=by rw [HLW.out];omega
     have hRX:(qdk k).length≤1000:=by unfold qdk;rw [List.length_replicate];omega
     have HRZ:Hid (qdk (k+1)=qdk k++[0]):=by
      show _=_
      unfold qdk;rw [List.replicate_succ']
     clear HLW
     refine qaf [0,1,2,3,4,5,6,7,8,9,10,11,12,13,14,15] _ _ _ _ (by kernel_rfl) ?_
     simp only [qka,qkb,qkc,qkd,qke,qkf,qkg,qkh,qki,Nat.reduceAdd,Nat.reduceSub]
     repeat (go_big_quiet_step (fail))
     refine wpQuiet_nil ?_
     refine qag 16 _ rfl (by kernel_rfl) ?_
     simp only [qkj,qkk,qkl]
     go_wp2_with fail
     have B6:=qaa W5 (.cells (madeCells #[.int .u64 0] LW) 134)
     refine ⟨qaj B6 (fun b hb=>by rcases hb with rfl|rfl <;> omega),?_⟩
     have S6:=qkm (S5.out.below B6)
     have HRW:=qkm (qb3.made W5 LW hLb)
     have hrs:∀ i,i<(qdk k).length→(rs.getD i (0,0)).1≠W5.heap.size:=fun i hi e=>by have:=S5.out.fd.tb.old hi;omega
     have hgB:w.heap.size+2≤W5.heap.size:=by omega
     clear S5 y8 y10 hmk S B5
     generalize hW6:W5.alloc (.cells (madeCells #[.int .u64 0] LW) 134)=W6 at *
     clear hW6
     generalize W5.heap.size=g6 at *
     refine qag 17 _ rfl (by kernel_rfl) ?_
     simp only [qkj,qkk,qkl]
     go_wp2_with fail
     have B7:=qaa W6 (.cells #[.slice (some ⟨g6,0,none⟩) LW LW] 87)
     refine ⟨qaj B7 (fun b hb=>by have:=S6.out.fd.lt;rcases hb with rfl|rfl <;> omega),?_⟩
     have S7:=qkm (S6.out.below B7)
     have HRW:=qkm (HRW.out.below B7)
     have HCX:Hid (∀ jj u,[qft LW (g6,LW)][jj]?=some u→(W6.alloc (.cells #[.slice (some ⟨g6,0,none⟩) LW LW] 87)).cell? ⟨W6.heap.size,jj,none⟩=some u):=qho W6 [qft LW (g6,LW)] 87 _ rfl
     clear S6 B6 B7
     obtain ⟨-, -, -, -, -, -, -, -, -, -,y10,ly⟩:=qau S7.out.fd.box
     have f10:=qac S7.out.fd.box 10
     generalize W6.alloc (.cells #[.slice (some ⟨g6,0,none⟩) LW LW] 87)=W7 at *
     refine qag 18 _ rfl (by kernel_rfl) ?_
     simp only [qkj,qkk,qkl]
     refine q12 82 87 qs4 Try.underlying82 rfl (by decide) (by decide) [qft LW (g6,LW)] rfl (fun u hu=>by simp at hu;subst hu;rfl) S7.out.fd.tb.tab rfl rfl rfl rfl HCX.out (by omega) (by omega) ?_
     intro v3 w3 h3 hg3 ha3
     have qn:vg.ownBlock≠some (w.heap.size+1):=qat S7.out.fd.tb.tab (Nat.lt_succ_self _)
     have qm:vg.ownBlock≠some w.heap.size:=qat S7.out.fd.tb.tab (by omega)
     refine ⟨fun b o hb=>by rcases hb with rfl|rfl;exact qaq hg3 ly qn;exact qaq hg3 (by omega) qm,?_⟩
     have S8:=qkm (S7.out.row HRW.out hgB hrs hg3 h3)
     have y10:=(qaq hg3 ly qn).trans y10
     have f10:=(qa9 hg3 ly qn).trans f10
     have l3:w.heap.size+1<w3.heap.size:=Nat.lt_of_lt_of_le ly hg3.size
     obtain ⟨a4,c4,rfl⟩:=qa6 h3
     clear h3 hg3 ha3 qn qm S7 HRW HCX ly
     rw [←HRZ.out] at S8
     simp only [Act.put,List.setIfInBounds_toArray,List.set_cons_succ,List.set_cons_zero]
     refine qaf [19,20] _ _ _ _ (by kernel_rfl) ?_
     simp only [qka,qkb,qkc,qkd,qke,qkf,qkg,qkh,qki,Nat.reduceAdd,Nat.reduceSub]
     repeat (go_big_quiet_step (fail))
     refine wpQuiet_nil ?_
     refine qbq 21 _ rfl (by kernel_rfl) ?_
     simp only [qkj,qkk,qkl]
     go_wp2_with fail
     refine qao (by kernel_rfl) ?_ _
     go_wp2_with fail
     go_roundw
     case rel=>exact ⟨k+1,_,_,hlt,by go_num,S8⟩
     case measure=>simp [intOf];omega
    ·obtain rfl:k=p.blks.length:=by omega
     go_wp2_with fail
     go_ret
     rw [HQ.out]
     exact ⟨_,_,_,_,_,rfl,S.out.fd⟩
end Go.Proofs.Ytmcddolkpcgddaa
