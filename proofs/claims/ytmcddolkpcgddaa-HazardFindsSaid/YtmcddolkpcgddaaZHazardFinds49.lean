/-
law 22's document: through.
-/
import Derived.Test.YtmcddolkpcgddaaZHazardFinds48
set_option maxHeartbeats 4000000
set_option maxRecDepth 100000
set_option linter.all false
namespace Go.Proofs.Ytmcddolkpcgddaa
open Go.ChangeShapes Go.WideShapes Go.ChangeAt Go.RowKit
section
structure FoK where
 bF:Nat
 gA:Nat
 cA:Nat
 gs:Nat→Nat
 nm:ByteArray
 vo:Value
 vb:Value
 k:AlK
def qc1 (f:Nat→Bool) (n:Nat):Array Value:=((List.range n).map fun j=>Value.bool (f j)).toArray
def lenI (p:Pr) (i:Nat):Nat:=(p.blks.getD i default).ins.length
theorem qlk (f:Nat→Bool) {n j:Nat} (h:j<n):(qc1 f n)[j]?=some (.bool (f j)):=by
 unfold qc1
 rw [List.getElem?_toArray,List.getElem?_map,List.getElem?_range h];rfl
theorem qpg (f:Nat→Bool) (n j:Nat) (h:j<n):(qc1 f n).setIfInBounds j (.bool true)=qc1 (fun i=>f i || i ==j) n:=by
 unfold qc1
 rw [List.setIfInBounds_toArray]
 congr 1
 apply List.ext_getElem (by simp)
 intro i h1 h2
 rw [List.getElem_set]
 simp only [List.getElem_map,List.getElem_range]
 split
 ·rename_i e;subst e;simp
 ·rename_i e
  have e2:(i ==j)=false:=beq_eq_false_iff_ne.2 (Ne.symm e)
  simp [e2]
theorem qgx {f g:Nat→Bool} {n:Nat} (h:∀ j,j<n→f j=g j):qc1 f n=qc1 g n:=by
 unfold qc1
 congr 1
 exact List.map_congr_left fun j hj=>by rw [h j (List.mem_range.1 hj)]
structure FoS (w1 W:World) (K:FoK) (p:Pr) (F:Nat→Nat→Bool):Prop where
 below:Below w1.heap.size w1 W
 bx:W.heap[K.bF]?=some (qnq K.nm p K.vo K.vb K.k (.slice (some ⟨K.gA,0,none⟩) p.blks.length K.cA))
 tab:∀ i,i<p.blks.length→W.cell? ⟨K.gA,i,none⟩=some (.slice (some ⟨K.gs i,0,none⟩) (lenI p i) (lenI p i))
 row:∀ i,i<p.blks.length→W.heap[K.gs i]?=some (.cells (qc1 (F i) (lenI p i)) 4)
 ge:w1.heap.size≤K.bF∧w1.heap.size≤K.gA∧∀ i,i<p.blks.length→w1.heap.size≤K.gs i
 ne:∀ i,i<p.blks.length→K.gs i≠K.bF∧K.gs i≠K.gA
 inj:∀ i j,i<p.blks.length→j<p.blks.length→K.gs i=K.gs j→i=j
structure FoL (K:FoK) (n N:Nat):Prop where
 bF:K.bF<N
 gA:K.gA<N
 gs:∀ i,i<n→K.gs i<N
theorem FoL.le {K:FoK} {n N N':Nat} (h:FoL K n N) (hN:N≤N'):FoL K n N':=⟨Nat.lt_of_lt_of_le h.bF hN,Nat.lt_of_lt_of_le h.gA hN,fun i hi=>Nat.lt_of_lt_of_le (h.gs i hi) hN⟩
structure FoR (K:FoK) (n:Nat) (w w':World):Prop where
 os:w'.os=w.os
 tape:w'.tape=w.tape
 output:w'.output=w.output
 size:w.heap.size≤w'.heap.size
 block:∀ z,z<w.heap.size→(∀ i,i<n→K.gs i≠z)→w'.heap[z]?=w.heap[z]?
section
variable {w1 W W' W2:World} {K:FoK} {p:Pr} {F:Nat→Nat→Bool} {n:Nat}
theorem FoR.refl (K:FoK) (n:Nat) (w:World):FoR K n w w:=⟨rfl,rfl,rfl,Nat.le_refl _,fun _ _ _=>rfl⟩
theorem FoR.trans (h:FoR K n W W') (k:FoR K n W' W2):FoR K n W W2 :=
 ⟨k.os.trans h.os,k.tape.trans h.tape,k.output.trans h.output,Nat.le_trans h.size k.size,fun z hz hn=>(k.block z (Nat.lt_of_lt_of_le hz h.size) hn).trans (h.block z hz hn)⟩
theorem FoR.of (h:Below W.heap.size W W'):FoR K n W W':=⟨h.os,h.tape,h.output,h.size,fun z hz _=>h.block z hz⟩
theorem FoR.below {B:Nat} (h:FoR K n W W') (hB:B≤W.heap.size) (hg:∀ i,i<n→B≤K.gs i):Below B W W' :=
 ⟨h.os,h.tape,h.output,h.size,fun z hz=>h.block z (by omega) fun i hi=>by have:=hg i hi;omega⟩
theorem FoR.set (i j:Nat) (v:Value) (hi:i<n):FoR K n W (W.setCell ⟨K.gs i,j,none⟩ v) :=
 ⟨rfl,rfl,rfl,by simp [World.setCell],fun z hz hn=>Below.heap_setCell W ⟨K.gs i,j,none⟩ v z (fun e=>hn i hi (by rw [show z=K.gs i from e]))⟩
theorem FoS.bxlt (h:FoS w1 W K p F):K.bF<W.heap.size:=(qkp h.bx).1
theorem FoS.rlt (h:FoS w1 W K p F) {i:Nat} (hi:i<p.blks.length):K.gs i<W.heap.size:=(qkp (h.row i hi)).1
theorem FoS.tlt (h:FoS w1 W K p F) (hn:0<p.blks.length):K.gA<W.heap.size:=World.block_lt_of_cell? W _ (h.tab 0 hn)
theorem FoS.low (h:FoS w1 W K p F) (hn:0<p.blks.length):FoL K p.blks.length W.heap.size:=⟨h.bxlt,h.tlt hn,fun i hi=>h.rlt hi⟩
theorem FoS.keep {N:Nat} (h:FoS w1 W K p F) (hL:FoL K p.blks.length N) (hb:Below N W W') (hN:w1.heap.size≤N):FoS w1 W' K p F :=
 ⟨h.below.trans (hb.mono hN),(hb.block _ hL.bF).trans h.bx,fun i hi=>(hb.cell (p:=⟨K.gA,i,none⟩) hL.gA).trans (h.tab i hi),fun i hi=>(hb.block _ (hL.gs i hi)).trans (h.row i hi),h.ge,h.ne,h.inj⟩
theorem FoS.grow (h:FoS w1 W K p F) (hn:0<p.blks.length) (hb:Below W.heap.size W W'):FoS w1 W' K p F:=h.keep (h.low hn) hb h.below.size
theorem FoS.set (h:FoS w1 W K p F) {i j:Nat} (hi:i<p.blks.length) (hj:j<lenI p i):FoS w1 (W.setCell ⟨K.gs i,j,none⟩ (.bool true)) K p (orF F i j):=by
 have hne:=h.ne i hi
 refine ⟨h.below.setCell (p:=⟨K.gs i,j,none⟩) (h.ge.2.2 i hi) _,(Below.heap_setCell W ⟨K.gs i,j,none⟩ _ K.bF (fun e=>hne.1 e.symm)).trans h.bx,fun q hq=>?_,fun q hq=>?_,h.ge,h.ne,h.inj⟩
 ·have e:=Below.heap_setCell W ⟨K.gs i,j,none⟩ (.bool true) K.gA (fun e=>hne.2 e.symm)
  rw [←h.tab q hq]
  unfold World.cell?
  dsimp only
  rw [e]
 ·by_cases e:q=i
  ·subst e
   rw [heap_setCell_same W (K.gs q) j _ _ _ (h.row q hq),qpg _ _ _ hj]
   congr 2
   refine qgx fun x hx=>?_
   unfold orF;simp
  ·have e2:K.gs q≠K.gs i:=fun e'=>e (h.inj q i hq hi e')
   rw [Below.heap_setCell W ⟨K.gs i,j,none⟩ _ (K.gs q) e2,h.row q hq]
   congr 2
   refine qgx fun x hx=>?_
   unfold orF
   have e3:(q ==i)=false:=beq_eq_false_iff_ne.2 e
   rw [e3];simp
theorem FoS.cell (h:FoS w1 W K p F) {i j:Nat} (hi:i<p.blks.length) (hj:j<lenI p i):W.cell? ⟨K.gs i,j,none⟩=some (.bool (F i j)):=by
 rw [qab (h.row i hi),qlk _ hj]
end
theorem qoe {w w':World} {B sz n:Nat} {e:TypeId} {v:Value} {xs:List Value} (h:w.ownsRow B e sz v n xs) (hk:∀ b,v.ownBlock=some b→w'.heap[b]?=w.heap[b]?):w'.ownsRow B e sz v n xs:=by
 obtain ⟨h1,h2|⟨g',cap,cur,rfl,h4,h5,r⟩⟩:=h
 ·exact ⟨h1,.inl h2⟩
 ·exact ⟨h1,.inr ⟨g',cap,cur,rfl,h4,(hk g' rfl).trans h5,r⟩⟩
structure OnM (K:FoK) (nb:Nat) (W0 w:World) (gs B n:Nat) (seen:List Bool) (tv:Value) (qa2:List Int):Prop where
 rel:FoR K nb W0 w
 row:qcn w gs n n seen
 own:qa8 w B tv qa2
 g0:W0.heap.size≤gs
 gB:gs<B
 Bw:B≤w.heap.size
 kl:∀ i,i<nb→K.gs i<W0.heap.size
section
variable {K:FoK} {nb:Nat} {W0 w:World} {gs B n:Nat} {seen:List Bool} {tv:Value} {qa2:List Int}
theorem OnM.foR {w':World} (h:OnM K nb W0 w gs B n seen tv qa2) (hr:FoR K nb w w'):OnM K nb W0 w' gs B n seen tv qa2:=by
 have h1:=h.g0
 have h2:=h.gB
 have h3:=h.Bw
 have hgs:w'.heap[gs]?=w.heap[gs]?:=hr.block gs (by omega) fun i hi e=>by have:=h.kl i hi;omega
 have fr:∀ b,tv.ownBlock=some b→B≤b∧b<w.heap.size:=fun b e=>World.ownsRow.lt h.own b e
 refine ⟨h.rel.trans hr,qoe h.row (fun b e=>?_),qoe h.own fun b e=>?_,h.g0,h.gB,Nat.le_trans h3 hr.size,h.kl⟩
 ·simp only [qbf,Value.ownBlock,Option.some.injEq] at e
  subst e;exact hgs
 ·have:=fr b e
  exact hr.block b this.2 fun i hi e=>by have:=h.kl i hi;omega
theorem OnM.grow {w':World} (h:OnM K nb W0 w gs B n seen tv qa2) (hb:Below w.heap.size w w'):OnM K nb W0 w' gs B n seen tv qa2:=h.foR (FoR.of hb)
theorem OnM.outs {w1:World} {v:Value} {l:List Int} (h:OnM K nb W0 w gs B n seen tv qa2) (hr:RdF w1 w.heap.size v l):qbt w1 B tv (.slice none 0 0) (.slice none 0 0) v l:=by
 obtain ⟨⟨a,c,rfl,h2,h3,h4⟩,hf⟩:=hr
 refine ⟨a,c,rfl,h2,h3,fun i hi=>?_⟩
 obtain ⟨b,o,rfl,hc⟩:=h4 i hi
 have hb:w.heap.size≤b:=hf _ _ _ rfl
 refine ⟨b,o,rfl,Nat.le_trans h.Bw hb,fun e=>?_,by simp [Value.ownBlock],by simp [Value.ownBlock],by simpa using hc⟩
 have:=(World.ownsRow.lt h.own b e).2
 omega
theorem OnM.low (h:OnM K nb W0 w gs B n seen tv qa2):W0.heap.size≤w.heap.size:=h.rel.size
theorem OnM.set (h:OnM K nb W0 w gs B n seen tv qa2) (i:Nat):OnM K nb W0 (w.setCell ⟨gs,i,none⟩ (.bool true)) gs B n (seen.set i true) tv qa2:=by
 have h1:=h.g0
 have h2:=h.gB
 have hg:w.grownBy (w.setCell ⟨gs,i,none⟩ (.bool true)) (some gs):=⟨rfl,rfl,rfl,by simp,fun k _ hk=>Below.heap_setCell w ⟨gs,i,none⟩ _ k (fun e=>hk (by rw [show k=gs from e]))⟩
 refine ⟨⟨h.rel.os,h.rel.tape,h.rel.output,by simpa [World.setCell] using h.rel.size,fun z hz hn=>?_⟩,qfh.set h.row i true,World.ownsRow.kept h.own hg (qj9 (qev h.own h.gB)),h.g0,h.gB,by simpa using h.Bw,h.kl⟩
 exact (Below.heap_setCell w ⟨gs,i,none⟩ _ z (by show z≠gs;omega)).trans (h.rel.block z hz hn)
theorem OnM.setB (h:OnM K nb W0 w gs B n seen tv qa2) (i:Nat):Below W0.heap.size w (w.setCell ⟨gs,i,none⟩ (.bool true)):=(Below.refl _ _).setCell (p:=⟨gs,i,none⟩) h.g0 _
theorem OnM.appB {w':World} (h:OnM K nb W0 w gs B n seen tv qa2) (hg:w.grownBy w' tv.ownBlock):Below W0.heap.size w w':=by
 have h1:=h.g0
 have h2:=h.gB
 have h3:=h.Bw
 exact qba (Below.refl _ _) (by omega) hg (fun b e=>by have:=(World.ownsRow.lt h.own b e).1;omega)
theorem OnM.app {w':World} {tv':Value} {x:Int} (h:OnM K nb W0 w gs B n seen tv qa2) (hg:w.grownBy w' tv.ownBlock) (ho:w'.ownsRow B 3 1 tv' (qa2.length+1) (qa2.map (Value.int .i64)++[.int .i64 x])):OnM K nb W0 w' gs B n seen tv' (qa2++[x]):=by
 have fr:∀ b,tv.ownBlock=some b→B≤b:=fun b e=>(World.ownsRow.lt h.own b e).1
 have h1:=h.g0
 have h2:=h.gB
 have hb:=h.appB hg
 refine ⟨⟨hb.os.trans h.rel.os,hb.tape.trans h.rel.tape,hb.output.trans h.rel.output,Nat.le_trans h.rel.size hb.size,fun z hz hn=>(hb.block z hz).trans (h.rel.block z hz hn)⟩,World.ownsRow.kept h.row hg (.inr (fun e=>by have:=fr gs e.symm;omega)),?_,h.g0,h.gB,Nat.le_trans h.Bw hg.size,h.kl⟩
 unfold qa8
 simpa using ho
end
end
section
def qz5 (l:In) (vl:Value):Obj:=.cells #[.int .i64 l.op,.int .i64 l.d,.int .i64 l.a,.int .i64 l.b,.int .i64 l.fn,.int .i64 l.obj,.int .i64 l.off,.int .i64 l.size,.int .u32 l.num,vl,.bool l.log] 58
structure FoG (w0 w1:World) (K:FoK) (p:Pr) (x:AR):Prop where
 al:AlM w0 w1 K.k x
 pr:PrV w1 (.agg #[.string K.nm,.bool p.void,.int .i64 p.params,.int .i64 p.regs,K.vo,K.vb]) p
 mt:MtA K.k p
 acc:∀ b∈p.blks,∀ i∈b.ins,qen i=true→qsf K.k.n i
 b0:0<p.blks.length
theorem FoG.bks {w0 w1:World} {K:FoK} {p:Pr} {x:AR} (h:FoG w0 w1 K p x):qbl w1 K.vb p.blks:=by
 obtain ⟨nm',vo',vb',e, -,h⟩:=h.pr
 cases e
 exact h
def qy3 (w1 W:World) (K:FoK) (p:Pr) (MT:In→In→Bool) (ld:In) (r:Int) (n fr:Nat) (F:Nat→Nat→Bool) (e:Ending) (w':World):Prop :=
 e=.returned (.bool (qbc ((p.blks.getD n default).ins.drop fr)))∧∃ F',FoS w1 w' K p F'∧FoR K p.blks.length W w'∧∀ i j,j<(p.blks.getD i default).ins.length→(F' i j=true↔F i j=true∨qfg p MT ld r n fr i j)
theorem qy3.mk {w1 W:World} {K:FoK} {p:Pr} {MT:In→In→Bool} {ld:In} {r:Int} {n fr:Nat} {F:Nat→Nat→Bool} {e:Ending} {w':World} {F':Nat→Nat→Bool} {b:Bool} (h1:e=.returned (.bool b)) (h2:qbc ((p.blks.getD n default).ins.drop fr)=b) (h3:FoS w1 w' K p F') (h4:FoR K p.blks.length W w') (h5:∀ i j,j<(p.blks.getD i default).ins.length→(F' i j=true↔F i j=true∨qfg p MT ld r n fr i j)):qy3 w1 W K p MT ld r n fr F e w' :=
 ⟨by rw [h1,h2],F',h3,h4,h5⟩
theorem qst (w0 w1 W:World) (K:FoK) (p:Pr) (x:AR) (F:Nat→Nat→Bool) (ld:In) (vl:Value) (n fr:Nat) (r:Int) (hS:FoS w1 W K p F) (hG:FoG w0 w1 K p x) (hld:qen ld=true→qsf K.k.n ld) (hvl:RdI w1 vl ld.args) (hn:n<p.blks.length) (hfr:fr≤(p.blks.getD n default).ins.length) :
  Calls Try.prog 81 #[.pointer (some ⟨K.bF,0,none⟩),.int .i64 (n:Int),.int .i64 (fr:Int),qbu ld vl,.int .i64 r] W (qy3 w1 W K p (qc0 x K.k.T p) ld r n fr F):=by
 have hbl:=hG.mt.bl
 have hil:=hG.mt.il _ (qa5 hn)
 have HH:Hid (∀ (wr:World) (F':Nat→Nat→Bool) (k:Nat) (vi:Value),FoS w1 wr K p F'→k<(p.blks.getD n default).ins.length→RdI wr vi ((p.blks.getD n default).ins.getD k default).args→Calls Try.prog 104 #[.pointer (some ⟨K.bF,0,none⟩),qbu ld vl,.int .i64 r,qbu ((p.blks.getD n default).ins.getD k default) vi] wr fun e w'=>e=.returned (.bool (qde (qc0 x K.k.T p) ld r ((p.blks.getD n default).ins.getD k default)))∧Below wr.heap.size wr w') :=
  fun wr F' k vi hS hk hvi=>qzw w0 wr K.bF K.nm p K.vo K.vb K.k x _ ld _ vl vi r hS.bx (hG.al.grow hS.below) (hG.pr.ext (Ext.below hS.below)) hG.mt hld (hG.acc _ (qa5 hn) _ (qa5 hk)) (hvl.ext (Ext.below hS.below)) hvi
 have hvb:=hG.bks
 obtain ⟨ab,cb,evb,hcb1,hcb2, -⟩:=id hvb
 unfold maxLen at hcb2
 rw [evb] at hvb
 obtain ⟨bb,ob,vi,hab,hvi,c0,c1,c2,c3,c4⟩:=(qbl.at hvb).2 n hn
 subst hab
 obtain ⟨al,cl,rfl, -⟩:=hvl
 obtain ⟨W0,hW0⟩:∃ W0,W0=W.alloc (qz5 ld (.slice al ld.args.length cl)):=⟨_,rfl⟩
 have B0:Hid (Below W.heap.size W W0):=by rw [hW0];exact qaa W _
 have H0:Hid (W0.heap[W.heap.size]?=some (qz5 ld (.slice al ld.args.length cl))):=by rw [hW0];exact heap_alloc_new W _
 have S0:=qkm (hS.grow hG.b0 B0.out)
 have R0:Hid (FoR K p.blks.length W W0):=FoR.of B0.out
 have LG:Hid (∀ i,i<p.blks.length→K.gs i≠W.heap.size):=fun i hi e=>by have:=hS.rlt hi;omega
 have lW0:Hid (W.heap.size<W0.heap.size):=(qkp H0.out).1
 have Q0:Hid (ThQ p (qc0 x K.k.T p) ld r n fr F fr F):=ThQ.start hfr
 have HW0:=qkm hW0.symm
 have HEV:=qkm evb
 have HC0:=qkm c0
 have Hn:=qkm hn
 have Hb0:=qkm hG.b0
 clear hW0 c0 c1 c2 c3 c4 hvb hS hG hld evb
 unfold qz5 at *
 obtain ⟨L,hL⟩:∃ L,L=(p.blks.getD n default).ins:=⟨_,rfl⟩
 rw [←hL] at hvi hil HH hfr
 have HL:=qkm hL
 clear hL
 have HVI:=qkm hvi
 obtain ⟨ai,ci,rfl,hi1,hi2, -⟩:=hvi
 unfold qbu at *
 generalize qc0 x K.k.T p=MT at *
 go_enter Try.func81,Try.ntmps81
 go_upto_region 1 with (fail)
 rw [HW0.out]
 have HB2:Hid (W0.heap[K.bF]?=some (.cells #[.string K.nm,.bool p.void,.int .i64 p.params,.int .i64 p.regs,K.vo,.slice (some ⟨bb,ob,none⟩) p.blks.length cb,K.k.vr,.slice (some ⟨K.k.ro.1,0,none⟩) K.k.T K.k.ro.2,.slice (some ⟨K.gA,0,none⟩) p.blks.length K.cA] 99)):=by
  have h:=S0.out.bx
  rw [HEV.out] at h
  exact h
 obtain ⟨z0,z1,z2,z3,z4,z5,z6,z7,z8,k0⟩:=qz7 HB2.out
 have c0:=Ext.below S0.out.below _ _ HC0.out
 have g1:decide (n<p.blks.length)=true:=qkn hn
 have g2:decide ((n:Int)<(p.blks.length:Int))=true:=qkn (by omega)
 go_wp2_with fail
 clear z0 z1 z2 z3 z4 z5 z6 z7 z8 k0 c0 HB2 g1 g2
 go_loopw [12] (fun kv wr=>∃ (k:Nat) (F':Nat→Nat→Bool),kv=.int .i64 (k:Int)∧Hid (ThQ p MT ld r n fr F k F')∧Hid (FoS w1 wr K p F')∧Hid (FoR K p.blks.length W0 wr)) (fun kv _=>L.length-(intOf kv).toNat)
 case atStart=>exact ⟨fr,F,rfl,Q0,S0,FoR.refl _ _ _⟩
 case round=>
  clear Q0 S0
  obtain ⟨k,F',rfl,Q,S,R⟩:=hrel
  by_cases hlt:k<L.length
  ·have g3:decide (k<L.length)=true:=qkn hlt
   have g4:decide ((k:Int)<(L.length:Int))=true:=qkn (by omega)
   obtain ⟨bi,oi,vx,hai,hbw,hva,d0,d1,d2,d3,d4,d5,d6,d7,d8,d9,d10⟩:=(qbd.at HVI.out).2 k hlt
   subst hai
   obtain ⟨aa,ca,rfl, -⟩:=id hva
   have HCALL:=qkm (fun wj (hj:Below wr.heap.size wr wj)=>HH.out wj F' k _ (S.out.grow Hb0.out hj) hlt (hva.ext (Ext.below (S.out.grow Hb0.out hj).below)))
   have hlt2:Hid (k<(p.blks.getD n default).ins.length):=by have e:=HL.out;show _ < _;rw [←e];exact hlt
   have HNO:Hid (qgt (L.getD k default)=false→qde MT ld r (L.getD k default)=false→ThQ p MT ld r n fr F (k+1) F'):=by
    have e:=HL.out
    show _→_→_
    rw [e];exact Q.out.no hlt2.out
   have HYES:Hid (qgt (L.getD k default)=false→qde MT ld r (L.getD k default)=true→ThQ p MT ld r n fr F (k+1) (orF F' n k)):=by
    have e:=HL.out
    show _→_→_
    rw [e];exact Q.out.yes hlt2.out
   have HSTOP:Hid (qgt (L.getD k default)=true→qbc ((p.blks.getD n default).ins.drop fr)=false∧∀ i j,F' i j=true↔F i j=true∨qfg p MT ld r n fr i j):=by
    have e:=HL.out
    show _→_
    rw [e];exact Q.out.stop hlt2.out
   have HBN:Hid (qgt (L.getD k default)=((L.getD k default).op ==12 || (L.getD k default).op ==9)):=rfl
   have hE:=Ext.below S.out.below
   replace d0:=hE _ _ d0
   replace d1:=hE _ _ d1
   replace d2:=hE _ _ d2
   replace d3:=hE _ _ d3
   replace d4:=hE _ _ d4
   replace d5:=hE _ _ d5
   replace d6:=hE _ _ d6
   replace d7:=hE _ _ d7
   replace d8:=hE _ _ d8
   replace d9:=hE _ _ d9
   replace d10:=hE _ _ d10
   have Hbx:=(R.out.block _ lW0.out LG.out).trans H0.out
   obtain ⟨x0,x1,x2,x3,x4,x5,x6,x7,x8,x9,x10,l0⟩:=qau Hbx
   clear hE hva Hbx HH
   generalize qde MT ld r (L.getD k default)=hu at *
   generalize qgt (L.getD k default)=bn at *
   generalize L.getD k default=y at *
   rcases qie (y.op ==12) with h12|h12
   ·rcases qie (y.op ==9) with h9|h9
    ·have hbn:bn=false:=by rw [HBN.out,h12,h9];rfl
     subst hbn
     go_wp2_with fail
     refine qak (fun _=>True) (by kernel_rfl) ?_
     refine qan [0,1,2,3,4,5,6] _ _ _ _ (by kernel_rfl) ?_
     simp only [qka,qkb,qkc,qkd,qke,qkf,qkg,qkh,qki,Nat.reduceAdd,Nat.reduceSub]
     repeat (go_big_quiet_step (fail))
     refine wpQuiet_nil ?_
     clear x0 x1 x2 x3 x4 x5 x6 x7 x8 x9 x10 d0 d1 d2 d3 d4 d5 d6 d7 d8 d9 d10
     refine qay 7 _ rfl (by kernel_rfl) ?_
     simp only [qkj,qkk,qkl]
     intro wj hj
     go_wp2_with fail
     refine (HCALL.out wj hj).mono ?_
     rintro e w2 ⟨rfl,hb2⟩
     go_wp2_with fail
     refine ⟨qa3.below hb2,?_⟩
     have B2:=qkm (hj.trans (hb2.mono hj.size))
     clear hj hb2
     refine qbh (by kernel_rfl) (fun wm hm=>?_) _
     have BM:=qkm (B2.out.trans (hm.mono B2.out.size))
     have S2:=qkm (S.out.grow Hb0.out BM.out)
     have R2:Hid (FoR K p.blks.length W0 wm):=R.out.trans (FoR.of BM.out)
     clear hm B2 BM HCALL
     cases hu
     ·have Q2:=qkm (HNO.out (by first|rfl|trivial) (by first|rfl|trivial))
      clear HNO HYES HSTOP HBN
      go_wp2_with fail
      go_roundw
      case rel=>exact ⟨k+1,F',by go_num,Q2,S2,R2⟩
      case measure=>simp [intOf];omega
     ·have Q2:=qkm (HYES.out (by first|rfl|trivial) (by first|rfl|trivial))
      have S3:=qkm (S2.out.set Hn.out (j:=k) hlt2.out)
      have R3:Hid (FoR K p.blks.length W0 (wm.setCell ⟨K.gs n,k,none⟩ (.bool true))):=R2.out.trans (FoR.set n k _ Hn.out)
      have t0:=S2.out.tab n Hn.out
      have t1:=S2.out.cell Hn.out (j:=k) hlt2.out
      have t2:=qac (S2.out.row n Hn.out) k
      have elen:lenI p n=L.length:=by rw [HL.out];rfl
      rw [elen] at t0
      have HB3:=S2.out.bx
      unfold qnq at HB3
      have z8:=qab HB3 8
      simp only [qkc,qkd,qke] at z8
      have g5:decide (n<p.blks.length)=true:=qkn Hn.out
      have g6:decide ((n:Int)<(p.blks.length:Int))=true:=qkn (by have:=Hn.out;omega)
      generalize F' n k=old at t1
      clear HNO HYES HSTOP HBN elen HB3
      go_wp2_with fail
      go_roundw
      case rel=>exact ⟨k+1,orF F' n k,by go_num,Q2,S3,R3⟩
      case measure=>simp [intOf];omega
    ·have hbn:bn=true:=by rw [HBN.out,h12,h9];rfl
     subst hbn
     obtain ⟨hf1,hf2⟩:=HSTOP.out rfl
     have HF1:=qkm hf1
     have HF2:=qkm hf2
     clear HNO HYES HSTOP HBN hf1 hf2 HCALL
     go_wp2_with fail
     go_ret
     exact qy3.mk rfl HF1.out S.out (R0.out.trans R.out) (fun i j _=>HF2.out i j)
   ·have hbn:bn=true:=by rw [HBN.out,h12];rfl
    subst hbn
    obtain ⟨hf1,hf2⟩:=HSTOP.out rfl
    have HF1:=qkm hf1
    have HF2:=qkm hf2
    clear HNO HYES HSTOP HBN hf1 hf2 HCALL
    go_wp2_with fail
    go_ret
    exact qy3.mk rfl HF1.out S.out (R0.out.trans R.out) (fun i j _=>HF2.out i j)
  ·have g3:decide (k<L.length)=false:=qko hlt
   have g4:decide ((k:Int)<(L.length:Int))=false:=qko (by omega)
   obtain ⟨hf1,hf2⟩:=Q.out.done (by rw [←HL.out];exact hlt)
   have HF1:=qkm hf1
   have HF2:=qkm hf2
   clear hf1 hf2
   go_wp2_with fail
   go_ret
   exact qy3.mk rfl HF1.out S.out (R0.out.trans R.out) HF2.out
end
end Go.Proofs.Ytmcddolkpcgddaa
