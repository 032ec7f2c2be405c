/-
 The document's answer for alias: Of, the walk.
-/
import Derived.Test.YtmcddolkpcgddaaZHazardFinds41
import Derived.Test.YtmcddolkpcgddaaZHazardFinds18
set_option maxHeartbeats 4000000
set_option maxRecDepth 100000
set_option linter.all false
namespace Go.Proofs.Ytmcddolkpcgddaa
open Go.ChangeShapes Go.WideShapes Go.ChangeAt Go.RowKit
theorem qtk (w:World) (A B C D E:Obj) (W:World) (hW:W=(((((w.alloc A).alloc B).alloc C).alloc D).alloc E)):W.heap[w.heap.size]?=some A∧W.heap[w.heap.size+1]?=some B∧W.heap[w.heap.size+1+1]?=some C∧W.heap[w.heap.size+1+1+1]?=some D∧W.heap[w.heap.size+1+1+1+1]?=some E:=by
 subst hW
 refine ⟨?_,?_,?_,?_,?_⟩
 ·rw [heap_alloc,if_neg (by simp;omega),heap_alloc,if_neg (by simp;omega)];exact (qc6 w A B C).1
 ·rw [heap_alloc,if_neg (by simp),heap_alloc,if_neg (by simp)];exact (qc6 w A B C).2.1
 ·rw [heap_alloc,if_neg (by simp),heap_alloc,if_neg (by simp)];exact (qc6 w A B C).2.2
 ·rw [heap_alloc,if_neg (by simp),heap_alloc,if_pos (by simp)]
 ·rw [heap_alloc,if_pos (by simp)]
theorem qjv {W:World} {g R:Nat} (h:W.heap[g]?=some (.cells (madeCells #[.bool false] R) 4)) (hR:R≤maxLen):qcn W g R R (List.replicate R false):=by
 have hl:(madeCells #[Value.bool false] R).toList=(List.replicate R false).map Value.bool:=by
  apply List.ext_getElem
  ·simp [madeCells]
  ·intro i h1 h2
   simp [madeCells,Nat.mod_one]
 refine ⟨by simp,.inr ⟨g,R,_,by simp,Nat.zero_le _,h,by simp,hR,by simp [madeCells],?_⟩⟩
 rw [hl]
 simp [List.take_of_length_le]
structure OfB (w w3 wr:World) (T:Nat) (l:List Bool):Prop where
 h3:qcn wr (w.heap.size+1+1+1) T T l
 h4:wr.heap[w.heap.size+1+1+1+1]?=some (.cells #[.slice none 0 0,.slice (some ⟨w.heap.size+1+1+1,0,none⟩) T T] 96)
 hz:w3.heap.size=w.heap.size+1+1+1
 below:Below w3.heap.size w3 wr
theorem OfB.set {w w3 wr:World} {T:Nat} {l:List Bool} (h:OfB w w3 wr T l) (t:Nat):OfB w w3 (wr.setCell ⟨w.heap.size+1+1+1,t,none⟩ (.bool true)) T (l.set t true) :=
 ⟨qfh.set h.h3 t true,(Below.heap_setCell _ ⟨_,t,none⟩ _ _ (by dsimp only;omega)).trans h.h4,h.hz,h.below.setCell (p:=⟨w.heap.size+1+1+1,t,none⟩) (by dsimp only;have:=h.hz;omega) _⟩
theorem OfB.al {w w3 wr:World} {T:Nat} {l:List Bool} (h:OfB w w3 wr T l) (hl:l.length=T):AlM w3 wr ⟨w.heap.size+1+1+1+1,.slice none 0 0,[],(w.heap.size+1+1+1,T),T,0⟩ ⟨[],l⟩ :=
 ⟨by dsimp only;have:=h.hz;omega,h.h4,World.ownsRow_nil _ _ _ _,rfl,fun r hr=>absurd hr (Nat.not_lt_zero r),h.h3,⟨rfl,fun l' h'=>absurd h' List.not_mem_nil,hl⟩,h.below⟩
theorem AlM.base {w0 w w':World} {k:AlK} {x:AR} (h:AlM w0 w' k x) (hb:Below w.heap.size w w0):AlM w w' k x :=
 ⟨Nat.le_trans hb.size h.bx,h.hv,h.tab.base hb.size,h.rl,h.row,h.out,h.ok,hb.trans (h.below.mono hb.size)⟩
theorem AlM.other {w0 w:World} {k:AlK} {x:AR} (h:AlM w0 w k x) {b i:Nat} (v:Value) (hb:w0.heap.size≤b) (hne:k.bx≠b) {cc:Array Value} (hh:w.heap[b]?=some (.cells cc 96)):AlM w0 (w.setCell ⟨b,i,none⟩ v) k x:=by
 have hrow:∀ {g n c:Nat} {l:List Bool},qcn w g n c l→b≠g:=fun hr e=>by
  obtain ⟨cur,h2⟩:=hr.heap
  rw [e,h2] at hh
  simp at hh
 refine ⟨h.bx,(Below.heap_setCell w ⟨b,i,none⟩ v k.bx hne).trans h.hv,h.tab.set_other _ ?_,h.rl,fun r hr=>(h.row r hr).set_other _ (hrow (h.row r hr)),h.out.set_other _ (hrow h.out),h.ok,?_⟩
 ·intro e
  obtain ⟨cur,h2⟩:=h.tab.heap e
  rw [h2] at hh
  simp at hh
 ·exact ⟨h.below.os,h.below.tape,h.below.output,by simpa [World.setCell] using h.below.size,fun j hj=>(Below.heap_setCell w ⟨b,i,none⟩ _ j (by show j≠b;omega)).trans (h.below.block j hj)⟩
def AR.mid (p:Pr) (T r:Nat):AR:=⟨(List.range r).map fun r:Nat=>if (r:Int)<p.params then ql8 p.objs.length T else List.replicate T false,ql8 p.objs.length T⟩
theorem AR.mid_succ (p:Pr) (T r:Nat):AR.mid p T (r+1)=⟨(AR.mid p T r).regs++[if (r:Int)<p.params then ql8 p.objs.length T else List.replicate T false],(AR.mid p T r).out⟩:=by
 unfold AR.mid;rw [List.range_succ,List.map_append];rfl
theorem AR.mid_all (p:Pr) (T:Nat):AR.mid p T p.regs.toNat=AR.start p T:=rfl
theorem qow (o T:Nat):(ql8 o T).length=T:=by simp [ql8]
theorem AlM.pushAt {w0 w w1:World} {k:AlK} {x:AR} (h:AlM w0 w k x) (hg:w.grownBy w1 k.vr.ownBlock):w1.heap[k.bx]?=some (.cells #[k.vr,qbf k.ro.1 k.T k.ro.2] 96):=(hg.block k.bx h.lt (fun e=>h.bx_ne_tab e.symm)).trans h.hv
theorem qlj {w:World} {B n sz:Nat} {e:TypeId} {v:Value} {xs:List Value} (h:w.ownsRow B e sz v n xs):∃ a c,v=.slice a n c:=by
 obtain ⟨-,⟨rfl,rfl⟩|⟨g,cap,cur,rfl, -⟩⟩:=h
 ·exact ⟨_,_,rfl⟩
 ·exact ⟨_,_,rfl⟩
theorem qc9 {w:World} {B n k sz:Nat} {e:TypeId} {v:Value} {xs:List Value} (h:w.ownsRow B e sz v n xs) (hk:n=k):∃ a c,v=.slice a k c:=hk ▸ qlj h
theorem q2y {w3 a b:World} {S:Nat→Prop} (ha:Below w3.heap.size w3 a) (hb:Below w3.heap.size w3 b) (hS:∀ z,S z→z<w3.heap.size):qcl S a b:=fun z o hs=>(hb.cell (p:=⟨z,o,none⟩) (hS z hs)).trans (ha.cell (p:=⟨z,o,none⟩) (hS z hs)).symm
theorem qti {w:World} {b:Nat} {x0 x1:Value} {t:TypeId} (h:w.heap[b]?=some (.cells #[x0,x1] t)) (u v:Value):((w.setCell ⟨b,0,none⟩ u).setCell ⟨b,1,none⟩ v).heap[b]?=some (.cells #[u,v] t):=heap_setCell_same _ _ 1 _ _ _ (heap_setCell_same _ _ 0 _ _ _ h)
def OfP (p:Pr) (T:Nat) (w:World) (e:Ending) (w':World):Prop:=∃ (k:AlK) (x:AR),e=.returned (.agg #[k.vr,qbf k.ro.1 k.T k.ro.2])∧AlM w w' k x∧k.n=p.regs.toNat∧k.T=T∧x.End p T∧∀ c∈qeh p,c.holds fun o t=>(∀ r,o=some r→r<p.regs.toNat)∧x.sem o t
theorem qlt {α:Type} (x:AR) (l:List α) (f:α→List Con) (j:Nat) (h:j<l.length) (d:α):x.pass ((l.take (j+1)).flatMap f)=(x.pass ((l.take j).flatMap f)).pass (f (l.getD j d)):=by
 rw [List.take_succ,List.getElem?_eq_getElem h,Option.toList_some,List.flatMap_append,AR.pass_append]
 simp [List.getD,List.getElem?_eq_getElem h]
structure OfW (w w3 wr:World) (T n:Nat) (vr:Value) (x:AR):Prop where
 al:∃ rs ro,AlM w3 wr ⟨w.heap.size+1+1+1+1,vr,rs,ro,T,n⟩ x
theorem OfW.of {w w3 wr:World} {T n:Nat} {vr:Value} {x:AR} {k:AlK} (h:AlM w3 wr k x) (h1:k.bx=w.heap.size+1+1+1+1) (h2:k.vr=vr) (h3:k.T=T) (h4:k.n=n):OfW w w3 wr T n vr x:=by
 obtain ⟨bx,vr',rs,ro,T',n'⟩:=k
 dsimp only at h1 h2 h3 h4
 subst h1 h2 h3 h4
 exact ⟨rs,ro,h⟩
theorem OfW.below {w w3 wr:World} {T n:Nat} {vr:Value} {x:AR} (h:OfW w w3 wr T n vr x):Below w3.heap.size w3 wr:=by
 obtain ⟨rs,ro,h⟩:=h.al
 exact h.below
theorem OfW.lt {w w3 wr:World} {T n:Nat} {vr:Value} {x:AR} (h:OfW w w3 wr T n vr x):w.heap.size+1+1+1+1<wr.heap.size:=by
 obtain ⟨rs,ro,h⟩:=h.al
 exact h.lt
theorem OfW.grow {w w3 wr w':World} {T n:Nat} {vr:Value} {x:AR} (h:OfW w w3 wr T n vr x) (hb:Below wr.heap.size wr w'):OfW w w3 w' T n vr x:=by
 obtain ⟨rs,ro,h⟩:=h.al
 exact ⟨rs,ro,h.grow hb⟩
theorem q05 (m:Md) (p:Pr) (V U:Value) (w:World) (hm:MdV w V m) (hp:PrV w U p) (ho:p.objs.length≤400) (hg:m.globs.length≤400) (hr0:0≤p.regs) (hr1:p.regs≤1000) (hok:p.blks.all (okB m p)=true) (hbl:p.blks.length≤1000) (hil:∀ b∈p.blks,b.ins.length≤1000∧∀ i∈b.ins,i.args.length≤1000) :
  Calls Try.prog 40 #[V,U] w (OfP p (p.objs.length+m.globs.length+1) w):=by
 have HCO:Hid (qfp p (p.objs.length+m.globs.length+1)):=by
  have h:=qme (m:=m) hok
  exact ⟨fun c hc=>(h c hc).1,fun c hc=>(h c hc).2⟩
 have HOK:=qkm hok
 have HIL:=qkm hil
 clear hok hil
 obtain ⟨vg,vd,vp,rfl,hvg,hvd,hvp⟩:=hm
 obtain ⟨nm,vo,vb,rfl,hvo,hvb⟩:=hp
 obtain ⟨ag,cg,rfl,g1,g2, -⟩:=hvg
 obtain ⟨ao,co,rfl,o1,o2, -⟩:=hvo
 obtain ⟨ab,cb,rfl,hb1,hb2,hb3⟩:=hvb
 have HBK:=qkm (qbl.at (w:=w) (a:=ab) (n:=p.blks.length) (c:=cb) (l:=p.blks) ⟨ab,cb,rfl,hb1,hb2,hb3⟩).2
 clear hb3 hvd hvp
 unfold maxLen at g2 o2 hb2
 have hmk:=run_make_row' (P:=Try.prog) 37 4 (.bool false) 1 Try.underlying37 qgr rfl .i64 .i64 (p.objs.length+m.globs.length+1) (by omega) (by omega)
 obtain ⟨w3,hw3⟩:∃ w3:World,w3=((w.alloc (.cells #[.slice ag m.globs.length cg,vd,vp,.int .i64 m.main] 26)).alloc (.cells #[.string nm,.bool p.void,.int .i64 p.params,.int .i64 p.regs,.slice ao p.objs.length co,.slice ab p.blks.length cb] 32)).alloc (.cells #[.slice none 0 0,.slice none 0 0] 96):=⟨_,rfl⟩
 have B3:Hid (Below w.heap.size w w3):=by
  show Below _ _ _
  rw [hw3]
  exact Below.alloc (Below.alloc (qaa w _) (by simp) _) (by simp;omega) _
 have H3:Hid (w3.heap[w.heap.size+1]?=some (.cells #[.string nm,.bool p.void,.int .i64 p.params,.int .i64 p.regs,.slice ao p.objs.length co,.slice ab p.blks.length cb] 32)∧w3.heap[w.heap.size+1+1]?=some (.cells #[.slice none 0 0,.slice none 0 0] 96)∧w3.heap.size=w.heap.size+1+1+1):=by
  show _∧_∧_
  rw [hw3]
  exact ⟨(qc6 w _ _ _).2.1,(qc6 w _ _ _).2.2,by simp⟩
 have HW3:Hid (((w.alloc (.cells #[.slice ag m.globs.length cg,vd,vp,.int .i64 m.main] 26)).alloc (.cells #[.string nm,.bool p.void,.int .i64 p.params,.int .i64 p.regs,.slice ao p.objs.length co,.slice ab p.blks.length cb] 32)).alloc (.cells #[.slice none 0 0,.slice none 0 0] 96)=w3):=hw3.symm
 clear hw3
 obtain ⟨T,hT⟩:∃ T:Nat,p.objs.length+m.globs.length+1=T:=⟨_,rfl⟩
 rw [hT] at HCO ⊢
 have hT2:(p.objs.length:Int)+(m.globs.length:Int)+1=(T:Int):=by omega
 have HT2:=qkm hT2
 rw [hT] at hmk
 go_enter Try.func40,Try.ntmps40
 go_wp2_with fail
 have hTl:T≤1000∧p.objs.length<T:=by omega
 rw [HW3.out]
 have hz3:Hid (w3.heap.size=w.heap.size+1+1+1):=H3.out.2.2
 clear hT hT2 hmk
 have hoT:=hTl.2
 have H3a:=qkm H3.out.1
 have H3b:=qkm H3.out.2.1
 have A0:Hid (AlM w3 w3 ⟨0,.slice none 0 0,[],(0,T),T,0⟩ ⟨[],[]⟩→True):=fun _=>trivial
 clear A0 H3
 go_loopw [7] (fun i wr=>∃ t:Nat,p.objs.length≤t∧t≤T∧i=.int .i64 (t:Int)∧Hid (OfB w w3 wr T (qo1 p.objs.length T t))) (fun i _=>T-(intOf i).toNat)
 case atStart=>
  have h5:=qtk w (.cells #[.slice ag m.globs.length cg,vd,vp,.int .i64 m.main] 26) (.cells #[.string nm,.bool p.void,.int .i64 p.params,.int .i64 p.regs,.slice ao p.objs.length co,.slice ab p.blks.length cb] 32) (.cells #[.slice none 0 0,.slice none 0 0] 96) (.cells (madeCells #[.bool false] T) 4) (.cells #[.slice none 0 0,.slice (some ⟨w.heap.size+1+1+1,0,none⟩) T T] 96) _ rfl
  rw [HW3.out] at h5
  obtain ⟨-, -, -,a3,a4⟩:=h5
  have hz:=hz3.out
  exact ⟨p.objs.length,Nat.le_refl _,by omega,rfl,⟨by rw [qs2];exact qjv a3 (by unfold maxLen;omega),a4,hz,Below.alloc (qaa w3 _) (by simp) _⟩⟩
 case round=>
  obtain ⟨t,ht1,ht2,rfl,HO⟩:=hrel
  by_cases hlt:t<T
  ·have gt:decide ((t:Int)<(T:Int))=true:=qkn (by omega)
   have gt2:decide (t<T)=true:=qkn hlt
   obtain ⟨-, -, -, -,q1,q2,q3⟩:=HO.out.h3.cellAt
   have q1:=q1 t hlt
   have q2:=q2 t
   have x1:=qab HO.out.h4 1
   simp only [qkc,qke,qkd] at x1
   have lx:=(qkp HO.out.h4).1
   have HS:=qkm (HO.out.set t)
   rw [qrt _ _ _ ht1 hlt] at HS
   generalize (qo1 p.objs.length T t).getD t false=Z at *
   go_wp2_with fail
   go_roundw
   case rel=>exact ⟨t+1,by omega,by omega,by go_num,HS⟩
   case measure=>simp [intOf];omega
  ·obtain rfl:T=t:=by omega
   have gt:decide ((T:Int)<(T:Int))=false:=qko (by omega)
   rw [qwk] at HO
   have A0:=qkm (HO.out.al (qow _ _))
   clear HO
   obtain ⟨N,hN⟩:∃ N:Nat,p.regs=(N:Int):=⟨p.regs.toNat,by omega⟩
   have HN:=qkm hN
   have hN1:N≤1000:=by omega
   rw [hN] at H3a
   have hNt:p.regs.toNat=N:=by omega
   have HNt:=qkm hNt
   clear hN hNt hr0 hr1
   go_wp2_with fail
   go_loopw [8] (fun i wr=>∃ (r:Nat) (vr:Value) (rs:List (Nat×Nat)),r≤N∧i=.int .i64 (r:Int)∧Hid (AlM w3 wr ⟨w.heap.size+1+1+1+1,vr,rs,(w.heap.size+1+1+1,T),T,r⟩ (AR.mid p T r))) (fun i _=>N-(intOf i).toNat)
   case atStart=>exact ⟨0,_,[],Nat.zero_le _,rfl,A0⟩
   case round=>
    clear A0
    obtain ⟨r,vr,rs,hr,rfl,HA⟩:=hrel
    have HPX:Hid (wr.heap[w.heap.size+1]?=some (.cells #[.string nm,.bool p.void,.int .i64 p.params,.int .i64 (N:Int),.slice ao p.objs.length co,.slice ab p.blks.length cb] 32)):=(HA.out.below.block _ (by have:=hz3.out;omega)).trans H3a.out
    obtain ⟨p0,p1,p2,p3,p4,p5,lp⟩:=cl6 HPX.out
    have hsz:w.heap.size+1+1+1+1<wr.heap.size:=HA.out.lt
    by_cases hlt:r<N
    ·have gr:decide ((r:Int)<(N:Int))=true:=qkn (by omega)
     have gr2:decide (r<N)=true:=qkn hlt
     obtain ⟨av,cv,hvr⟩:∃ a c,vr=.slice a r c:=by
      have h:=HA.out.tab
      have e:(rs.map fun z=>qbf z.1 T z.2).length=r:=by rw [List.length_map];exact HA.out.rl
      unfold qed at h
      dsimp only at h
      rw [e] at h
      exact qlj h
     subst hvr
     have HRL:Hid (rs.length=r):=HA.out.rl
     have c0:wr.cell? ⟨w.heap.size+1+1+1+1,0,none⟩=some (.slice av r cv):=by rw [qab HA.out.hv 0];rfl
     have c1:wr.cell? ⟨w.heap.size+1+1+1+1,1,none⟩=some (.slice (some ⟨w.heap.size+1+1+1,0,none⟩) T T):=by rw [qab HA.out.hv 1];rfl
     have hmk:=run_make_row' (P:=Try.prog) 37 4 (.bool false) 1 Try.underlying37 qgr rfl .i64 .i64 T (by omega) (by omega)
     have HM:=qkm (AR.mid_succ p T r)
     have HB1:=qkm (qaa wr (.cells (madeCells #[.bool false] T) 4))
     by_cases hp:(r:Int)<p.params
     ·have gp:decide ((r:Int)<p.params)=true:=qkn hp
      rw [if_pos hp] at HM
      clear hp
      have HB2:=qkm (qaa (wr.alloc (.cells (madeCells #[.bool false] T) 4)) (.cells #[.slice (some ⟨w.heap.size+1+1+1,0,none⟩) T T] 37))
      have A3:=qkm ((HA.out.grow HB1.out).grow HB2.out)
      have HRW:Hid (qcn ((wr.alloc (.cells (madeCells #[.bool false] T) 4)).alloc (.cells #[.slice (some ⟨w.heap.size+1+1+1,0,none⟩) T T] 37)) (w.heap.size+1+1+1) T T (ql8 p.objs.length T)):=(HA.out.out.below HB1.out).below HB2.out
      have TT:=A3.out.tab
      have CC:=qgb (wr.alloc (.cells (madeCells #[.bool false] T) 4)) (.slice (some ⟨w.heap.size+1+1+1,0,none⟩) T T) 37 (wr.heap.size+1) (by simp) 0 _ rfl
      have HQ9:(rs.map fun z=>qbf z.1 T z.2).length≤1000000000:=by rw [List.length_map,HRL.out];omega
      have HB9:w3.heap.size≤((wr.alloc (.cells (madeCells #[.bool false] T) 4)).alloc (.cells #[.slice (some ⟨w.heap.size+1+1+1,0,none⟩) T T] 37)).heap.size:=A3.out.below.size
      go_wp2_with (at_builtin;refine q2t TT rfl rfl rfl rfl CC rfl HQ9 HB9 ?_;intro v1 w5 T5 G5;have z5:=A3.out.pushAt G5;have c5:=qab z5 0;have f5:=qac z5 0;have A5:=qkm (A3.out.push HRW.out (qow _ _) T5 G5);clear z5 G5 TT CC;simp only [qkc,qke] at c5;obtain ⟨a1,k1,rfl⟩:=qc9 (k:=r+1) T5 (by simp [HRL.out]);clear T5;dsimp only at A5)
      go_roundw
      case rel=>exact ⟨r+1,_,_,hlt,by go_num,by rw [HM.out];exact A5⟩
      case measure=>simp [intOf];omega
     ·have gp:decide ((r:Int)<p.params)=false:=qko hp
      rw [if_neg hp] at HM
      clear hp
      have HB2:=qkm (qaa (wr.alloc (.cells (madeCells #[.bool false] T) 4)) (.cells #[.slice (some ⟨wr.heap.size,0,none⟩) T T] 37))
      have A3:=qkm ((HA.out.grow HB1.out).grow HB2.out)
      have HRW:Hid (qcn ((wr.alloc (.cells (madeCells #[.bool false] T) 4)).alloc (.cells #[.slice (some ⟨wr.heap.size,0,none⟩) T T] 37)) (wr.heap.size) T T (List.replicate T false)):=(qjv (heap_alloc_new wr _) (by unfold maxLen;omega)).below HB2.out
      have TT:=A3.out.tab
      have CC:=qgb (wr.alloc (.cells (madeCells #[.bool false] T) 4)) (.slice (some ⟨wr.heap.size,0,none⟩) T T) 37 (wr.heap.size+1) (by simp) 0 _ rfl
      have HQ9:(rs.map fun z=>qbf z.1 T z.2).length≤1000000000:=by rw [List.length_map,HRL.out];omega
      have HB9:w3.heap.size≤((wr.alloc (.cells (madeCells #[.bool false] T) 4)).alloc (.cells #[.slice (some ⟨wr.heap.size,0,none⟩) T T] 37)).heap.size:=A3.out.below.size
      go_wp2_with (at_builtin;refine q2t TT rfl rfl rfl rfl CC rfl HQ9 HB9 ?_;intro v1 w5 T5 G5;have z5:=A3.out.pushAt G5;have c5:=qab z5 0;have f5:=qac z5 0;have A5:=qkm (A3.out.push HRW.out (List.length_replicate) T5 G5);clear z5 G5 TT CC;simp only [qkc,qke] at c5;obtain ⟨a1,k1,rfl⟩:=qc9 (k:=r+1) T5 (by simp [HRL.out]);clear T5;dsimp only at A5)
      go_roundw
      case rel=>exact ⟨r+1,_,_,hlt,by go_num,by rw [HM.out];exact A5⟩
      case measure=>simp [intOf];omega
    ·obtain rfl:N=r:=by omega
     obtain ⟨av,cv,hvr⟩:∃ a c,vr=.slice a N c:=by
      have e:(rs.map fun z=>qbf z.1 T z.2).length=N:=by rw [List.length_map];exact HA.out.rl
      exact qc9 HA.out.tab e
     subst hvr
     have HW0:Hid (OfW w w3 wr T N (.slice av N cv) (AR.start p T)):=⟨rs,_,by rw [←AR.mid_all,HNt.out];exact HA.out⟩
     have HE0:=qkm (AR.End.start p T)
     have grr:decide ((N:Int)<(N:Int))=false:=qko (by omega)
     have HBKL:Hid (∀ j,j<p.blks.length→okB m p (p.blks.getD j default)=true∧(p.blks.getD j default).ins.length≤1000∧∀ i∈(p.blks.getD j default).ins,i.args.length≤1000):=fun j hj=>by
      have hm:p.blks.getD j default∈p.blks:=by simp [List.getD,hj]
      exact ⟨List.all_eq_true.1 HOK.out _ hm,HIL.out _ hm⟩
     clear HA hsz
     go_wp2_with fail
     clear p0 p1 p2 p3 p4 p5 lp HPX
     go_loopw [10] (fun z wr=>∃ (wz:Int) (x:AR),z=.int .i64 wz∧Hid (x.End p T)∧Hid (OfW w w3 wr T N (.slice av N cv) x)∧Hid (wz= -1∨∃ y:AR,y.End p T∧x=y.pass (qic p)∧wz=(y.count:Int))) (fun z _=>((((N+1)*T+1:Nat):Int)-intOf z).toNat)
     case atStart=>exact ⟨-1,_,rfl,HE0,HW0,.inl rfl⟩
     case round=>
      clear HW0 HE0
      obtain ⟨wz,x,rfl,HE,HW,HZ⟩:=hrel
      obtain ⟨rs',ro',HA⟩:=HW.out.al
      have HA:=qkm HA
      have HC:=qkm (qsj w3 wr _ x HA.out hN1 hTl.1)
      have hCle:Hid (x.count≤(N+1)*T∧(x.count≤1001000)):=by
       have h1:=AR.count_le HE.out.ok
       rw [HNt.out] at h1
       exact ⟨h1,Nat.le_trans h1 (Nat.le_trans (Nat.mul_le_mul (Nat.succ_le_succ hN1) hTl.1) (by decide))⟩
      have hCle2:=hCle.out.2
      have HCM:Hid (∀ y:AR,y.End p T→x=y.pass (qic p)→y.count≤x.count):=fun y h1 h2=>by rw [h2];exact h1.more HCO.out
      have HWB:=qkm HW.out.below
      generalize hCC:x.count=C at *
      have HCC:=qkm hCC
      clear hCC
      by_cases hwz:(C:Int)=wz
      ·have hx2:Hid (∀ c∈qeh p,c.holds fun o t=>(∀ r,o=some r→r<p.regs.toNat)∧x.sem o t):=by
        rcases HZ.out with h|⟨y,h1,h2,h3⟩
        ·omega
        ·have h4:x.count=y.count:=by have:=HCC.out;omega
         have h5:=h1.rest HCO.out (by rw [←h2];exact h4)
         show ∀ c∈qeh p,_
         rw [h2,h5.1]
         exact h5.2
       have gz1:((C:Int) !=wz)=false:=by rw [bne_eq_false_iff_eq];exact hwz
       have gz2:(wz !=(C:Int))=false:=by rw [bne_eq_false_iff_eq];exact hwz.symm
       clear hwz HZ HCM HCC hCle hCle2
       have c0:wr.cell? ⟨w.heap.size+1+1+1+1,0,none⟩=some (.slice av N cv):=by rw [qab HA.out.hv 0];rfl
       have c1:wr.cell? ⟨w.heap.size+1+1+1+1,1,none⟩=some (.slice (some ⟨ro'.1,0,none⟩) T ro'.2):=by rw [qab HA.out.hv 1];rfl
       have hb:=qkm ((HWB.out.block _ (by have:=hz3.out;omega)).trans H3b.out)
       have b0:=qab hb.out 0
       have b1:=qab hb.out 1
       have f0:=qac hb.out 0
       have f1:=qac hb.out 1
       simp only [qkc,qke,qkd] at b0 b1
       have hsz:=HW.out.lt
       have HA3:=qkm (HA.out.base B3.out)
       have h1:=HA3.out.other (b:=w.heap.size+1+1) (i:=0) (.slice av N cv) (by omega) (by dsimp only;omega) hb.out
       have h2:=qkm (h1.other (b:=w.heap.size+1+1) (i:=1) (.slice (some ⟨ro'.1,0,none⟩) T ro'.2) (by omega) (by dsimp only;omega) (heap_setCell_same _ _ 0 _ _ _ hb.out))
       have hR:=qti hb.out (.slice av N cv) (.slice (some ⟨ro'.1,0,none⟩) T ro'.2)
       have r0:=qab hR 0
       have r1:=qab hR 1
       simp only [qkc,qke,qkd] at r0 r1
       clear h1 HA3 hR
       go_wp2_with fail
       refine HC.out.mono ?_
       clear HC
       rintro e w1 ⟨rfl,rfl⟩
       go_wp2_with fail
       refine bodyPost_ret (v:=.agg #[.slice av N cv,.slice (some ⟨ro'.1,0,none⟩) T ro'.2]) (by simp [results,Try.results40,go_sem,r0,r1]) rfl ?_
       exact ⟨_,x,rfl,h2.out,HNt.out.symm,rfl,HE.out,hx2.out⟩
      ·have gz1:((C:Int) !=wz)=true:=by rw [bne_iff_ne];exact hwz
       have gz2:(wz !=(C:Int))=true:=by rw [bne_iff_ne];exact fun e=>hwz e.symm
       have HMS:Hid (((((N+1)*T+1:Nat):Int)-(C:Int)).toNat<((((N+1)*T+1:Nat):Int)-wz).toNat):=by
        have h1:=hCle.out.1
        have h2:wz<(C:Int):=by
         rcases HZ.out with h|⟨y,q1,q2,q3⟩
         ·omega
         ·have:=HCM.out y q1 q2
          omega
        show _ < _
        generalize (N+1)*T=Q at *
        omega
       clear hwz HZ HCM hCle
       have HW00:Hid (OfW w w3 wr T N (.slice av N cv) (x.pass ((p.blks.take 0).flatMap (qju p.objs.length)))):=HW.out
       go_wp2_with fail
       refine HC.out.mono ?_
       rintro e w1 ⟨rfl,rfl⟩
       go_wp2_with fail
       refine HC.out.mono ?_
       clear HC
       rintro e w1 ⟨rfl,rfl⟩
       clear HA
       have HCX:=HCC
       clear HCC HW
       go_wp2_with fail
       go_loopw [11] (fun i wr=>∃ j:Nat,j≤p.blks.length∧i=.int .i64 (j:Int)∧Hid (OfW w w3 wr T N (.slice av N cv) (x.pass ((p.blks.take j).flatMap (qju p.objs.length))))) (fun i _=>p.blks.length-(intOf i).toNat)
       case atStart=>exact ⟨0,Nat.zero_le _,rfl,HW00⟩
       case round=>
        clear HW00 HWB
        obtain ⟨j,hj,rfl,HW⟩:=hrel
        have HWB:=qkm HW.out.below
        have HPX:Hid (wr.heap[w.heap.size+1]?=some (.cells #[.string nm,.bool p.void,.int .i64 p.params,.int .i64 (N:Int),.slice ao p.objs.length co,.slice ab p.blks.length cb] 32)):=(HWB.out.block _ (by have:=hz3.out;omega)).trans H3a.out
        obtain ⟨p0,p1,p2,p3,p4,p5,lp⟩:=cl6 HPX.out
        by_cases hlt:j<p.blks.length
        ·obtain ⟨bb,bo,vi,rfl,hvi,y0,y1,y2, -, -⟩:=HBK.out j hlt
         have gj:decide ((j:Int)<(p.blks.length:Int))=true:=qkn (by omega)
         have gj2:decide (j<p.blks.length)=true:=qkn hlt
         obtain ⟨ai,ci,rfl,i1,i2,i3⟩:=hvi
         have HIN:=qkm (qbd.at (w:=w) (a:=ai) (c:=ci) (l:=(p.blks.getD j default).ins) ⟨ai,ci,rfl,i1,i2,i3⟩).2
         have lbb:=World.block_lt_of_cell? _ _ y0
         have HY:Hid (w.cell? ⟨bb,bo+j*5,none⟩=some (.slice ai (p.blks.getD j default).ins.length ci)):=y0
         have HY1:Hid (w.cell? ⟨bb,bo+j*5+1,none⟩=some (.int .i64 (p.blks.getD j default).fin)):=y1
         have HY2:Hid (w.cell? ⟨bb,bo+j*5+2,none⟩=some (.int .i64 (p.blks.getD j default).a)):=y2
         have z0:wr.cell? ⟨bb,bo+j*5,none⟩=some (.slice ai (p.blks.getD j default).ins.length ci):=((B3.out.trans (HWB.out.mono B3.out.size)).cell (p:=⟨bb,bo+j*5,none⟩) lbb).trans y0
         have hL:=(HBKL.out j hlt).2.1
         have HAL:=qkm (HBKL.out j hlt).2.2
         have HOB:=qkm (HBKL.out j hlt).1
         have HPT:=qkm (qlt x p.blks (qju p.objs.length) j hlt default)
         unfold maxLen at i2
         clear i3 y0 y1 y2
         generalize hX:x.pass ((p.blks.take j).flatMap (qju p.objs.length))=X at *
         clear hX
         have HBr:Hid (qju p.objs.length (p.blks.getD j default)=(p.blks.getD j default).ins.flatMap (qep p.objs.length)++qjr (p.blks.getD j default)):=rfl
         have HOI:Hid (∀ k,k<(p.blks.getD j default).ins.length→okI m p ((p.blks.getD j default).ins.getD k default)=true):=fun k hk=>qgw HOB.out hk
         have HOE:Hid (qha p (p.blks.getD j default)=true):=qi9 HOB.out
         clear HOB
         generalize p.blks.getD j default=BK at *
         obtain ⟨B,fin,ba,bto,bel⟩:=BK
         dsimp only at i1 z0 hL HY HY1 HY2 HIN HAL HBr HOI HOE
         have HW0:Hid (OfW w w3 wr T N (.slice av N cv) (X.pass ((B.take 0).flatMap (qep p.objs.length)))):=HW.out
         clear HW
         go_wp2_with fail
         go_loopw [12] (fun i wr=>∃ t:Nat,t≤B.length∧i=.int .i64 (t:Int)∧Hid (OfW w w3 wr T N (.slice av N cv) (X.pass ((B.take t).flatMap (qep p.objs.length))))) (fun i _=>B.length-(intOf i).toNat)
         case atStart=>exact ⟨0,Nat.zero_le _,rfl,HW0⟩
         case round=>
          clear HW0 HWB p0 p1 p2 p3 p4 p5 lp HPX z0
          obtain ⟨t,ht,rfl,HW⟩:=hrel
          have HWB:=qkm HW.out.below
          have HPX:Hid (wr.heap[w.heap.size+1]?=some (.cells #[.string nm,.bool p.void,.int .i64 p.params,.int .i64 (N:Int),.slice ao p.objs.length co,.slice (some ⟨bb,bo,none⟩) p.blks.length cb] 32)):=(HWB.out.block _ (by have:=hz3.out;omega)).trans H3a.out
          obtain ⟨p0,p1,p2,p3,p4,p5,lp⟩:=cl6 HPX.out
          have z0:wr.cell? ⟨bb,bo+j*5,none⟩=some (.slice ai B.length ci):=((B3.out.trans (HWB.out.mono B3.out.size)).cell (p:=⟨bb,bo+j*5,none⟩) lbb).trans HY.out
          by_cases hlt2:t<B.length
          ·have gt3:decide ((t:Int)<(B.length:Int))=true:=qkn (by omega)
           have gt4:decide (t<B.length)=true:=qkn hlt2
           obtain ⟨ib,io,va,rfl,lib,hva,w0,w1,w2,w3',w4,w5,w6,w7,w8,w9,w10⟩:=HIN.out t hlt2
           go_wp2_with fail
           clear p0 p1 p2 p3 p4 p5 lp HPX z0
           refine qae (fun z=>z=w.heap.size+1∨z=bb∨z=ib) (by kernel_rfl) ?_
           obtain ⟨W2,hW2⟩:∃ W2:World,W2=wr.drew:=⟨_,rfl⟩
           first|rw [←hW2]|rw [show (⟨wr.heap,wr.tape,wr.drawn+1,wr.os,wr.output⟩:World)=W2 from hW2.symm]
           have HW:=qkm (HW.out.grow (w':=W2) (by rw [hW2];exact (Below.refl _ _).drew))
           clear hW2
           have HWB:=qkm HW.out.below
           have HPX:Hid (W2.heap[w.heap.size+1]?=some (.cells #[.string nm,.bool p.void,.int .i64 p.params,.int .i64 (N:Int),.slice ao p.objs.length co,.slice (some ⟨bb,bo,none⟩) p.blks.length cb] 32)):=(HWB.out.block _ (by have:=hz3.out;omega)).trans H3a.out
           obtain ⟨p0,p1,p2,p3,p4,p5,lp⟩:=cl6 HPX.out
           have BW:=qkm (B3.out.trans (HWB.out.mono B3.out.size))
           have z0:W2.cell? ⟨bb,bo+j*5,none⟩=some (.slice (some ⟨ib,io,none⟩) B.length ci):=(BW.out.cell (p:=⟨bb,bo+j*5,none⟩) lbb).trans HY.out
           have lift:∀ {q:Nat} {u:Value},w.cell? ⟨ib,q,none⟩=some u→W2.cell? ⟨ib,q,none⟩=some u:=fun h=>(BW.out.cell (p:=⟨ib,_,none⟩) lib).trans h
           have x0:=lift w0
           have x1:=lift w1
           have x2:=lift w2
           have x3:=lift w3'
           have x4:=lift w4
           have x5:=lift w5
           have x6:=lift w6
           have x7:=lift w7
           have x8:=lift w8
           have x9:=lift w9
           have x10:=lift w10
           clear lift w0 w1 w2 w3' w4 w5 w6 w7 w8 w9 w10
           obtain ⟨rs2,ro2,HA2⟩:=HW.out.al
           have hI:=HOI.out t hlt2
           have hIA:(B.getD t default).args.length≤1000:=HAL.out _ (by simp [List.getD,hlt2])
           have HPS:=qkm (qlt X B (qep p.objs.length) t hlt2 default)
           generalize X.pass ((B.take t).flatMap (qep p.objs.length))=X2 at *
           generalize B.getD t default=I at *
           have HC:=qkm (qxa w3 W2 _ X2 m p I (qbu I va) HA2 ⟨va,rfl,hva.ext (Ext.below B3.out)⟩ hI HNt.out.symm (by omega) (by omega) hIA hTl.1 (by show 0<T;omega))
           clear HA2 hva hI hIA
           unfold qbu at HC
           refine qaf [0,1,2,3,4,5,6,7,8,9,10,11,12] _ _ _ _ (by kernel_rfl) ?_
           simp only [qka,qkb,qkc,qkd,qke,qkf,qkg,qkh,qki,Nat.reduceAdd,Nat.reduceSub]
           repeat (go_big_quiet_step (fail))
           refine wpQuiet_nil ?_
           refine qag 13 _ rfl (by kernel_rfl) ?_
           simp only [qkj,qkk,qkl]
           go_wp2_with fail
           refine HC.out.mono ?_
           rintro e w5 ⟨rfl,k',hA5,q1,q2,q3,q4⟩
           have H5:=qkm (OfW.of (w:=w) hA5 q1 q2 q3 q4)
           clear hA5 q1 q2 q3 q4
           go_wp2_with fail
           refine ⟨q2y HWB.out H5.out.below (fun z hz=>by have h1:=hz3.out;have h2:=B3.out.size;rcases hz with rfl|rfl|rfl <;> omega),?_⟩
           refine qao (by kernel_rfl) ?_ _
           go_wp2_with fail
           go_roundw
           case rel=>exact ⟨t+1,hlt2,by go_num,by rw [HPS.out];exact H5⟩
           case measure=>simp [intOf];omega
          ·obtain rfl:t=B.length:=by omega
           have z1:wr.cell? ⟨bb,bo+j*5+1,none⟩=some (.int .i64 fin):=((B3.out.trans (HWB.out.mono B3.out.size)).cell (p:=⟨bb,bo+j*5+1,none⟩) lbb).trans HY1.out
           have z2:wr.cell? ⟨bb,bo+j*5+2,none⟩=some (.int .i64 ba):=((B3.out.trans (HWB.out.mono B3.out.size)).cell (p:=⟨bb,bo+j*5+2,none⟩) lbb).trans HY2.out
           rw [List.take_length] at HW
           rw [HBr.out,AR.pass_append] at HPT
           have gB:decide ((B.length:Int)<(B.length:Int))=false:=qko (by omega)
           generalize X.pass (B.flatMap (qep p.objs.length))=X2 at *
           by_cases h3:fin=3
           ·by_cases h4:ba= -1
            ·have HC:Hid (qjr ⟨B,fin,ba,bto,bel⟩=[]):=if_neg (fun h=>h.2 h4)
             rw [HC.out] at HPT
             subst h3 h4
             go_wp2_with fail
             go_roundw
             case rel=>exact ⟨j+1,hlt,by go_num,by rw [HPT.out];exact HW⟩
             case measure=>simp [intOf];omega
            ·have hbe:=HOE.out
             obtain ⟨A,hA,hAN⟩:∃ A:Nat,ba=(A:Int)∧A<N:=by
              have h5:=qh6 hbe
              have h6:=HNt.out
              have h7:=HN.out
              dsimp only at h5
              exact ⟨ba.toNat,by omega,by omega⟩
             subst h3 hA
             have HC:Hid (qjr ⟨B,3,(A:Int),bto,bel⟩=[.sub (some A) none]):=(if_pos ⟨rfl,h4⟩)
             rw [HC.out] at HPT
             have gA:((A:Int) != -1)=true:=by rw [bne_iff_ne];exact h4
             clear h4 hbe HC HBr HOE
             obtain ⟨rs2,ro2,HA2⟩:=HW.out.al
             obtain ⟨br,cp,hvr,e1,e2,e3, -, -, -⟩:=HA2.at (d:=A) hAN
             simp only [Value.slice.injEq] at hvr
             obtain ⟨rfl, -,rfl⟩:=hvr
             clear HA2 e3
             go_wp2_with fail
             clear p0 p1 p2 p3 p4 p5 lp HPX z0 z1 z2
             refine qae (fun z=>z=w.heap.size+1+1+1+1∨z=br∨z=w.heap.size+1∨z=bb) (by kernel_rfl) ?_
             obtain ⟨W2,hW2⟩:∃ W2:World,W2=wr.drew:=⟨_,rfl⟩
             first|rw [←hW2]|rw [show (⟨wr.heap,wr.tape,wr.drawn+1,wr.os,wr.output⟩:World)=W2 from hW2.symm]
             have HW:=qkm (HW.out.grow (w':=W2) (by rw [hW2];exact (Below.refl _ _).drew))
             clear hW2
             have HWB:=qkm HW.out.below
             have HPX:Hid (W2.heap[w.heap.size+1]?=some (.cells #[.string nm,.bool p.void,.int .i64 p.params,.int .i64 (N:Int),.slice ao p.objs.length co,.slice (some ⟨bb,bo,none⟩) p.blks.length cb] 32)):=(HWB.out.block _ (by have:=hz3.out;omega)).trans H3a.out
             obtain ⟨p0,p1,p2,p3,p4,p5,lp⟩:=cl6 HPX.out
             have BW:=qkm (B3.out.trans (HWB.out.mono B3.out.size))
             have z2:W2.cell? ⟨bb,bo+j*5+2,none⟩=some (.int .i64 (A:Int)):=(BW.out.cell (p:=⟨bb,bo+j*5+2,none⟩) lbb).trans HY2.out
             obtain ⟨rs2,ro2,HA2⟩:=HW.out.al
             obtain ⟨br',cp',hvr, -, -,e3, -,e4, -⟩:=HA2.at (d:=A) hAN
             simp only [Value.slice.injEq,Option.some.injEq,Addr.mk.injEq,and_true,true_and] at hvr
             obtain ⟨rfl,rfl⟩:=hvr
             have y:=e4 A hAN
             have HRr:=qkm (HA2.row A hAN)
             have HLr:Hid ((X2.regs.getD A []).length=T):=HA2.ok.get (some A) fun q e=>by cases e;exact hAN
             have HRo:=qkm HA2.out
             have HLo:=qkm HA2.ok.out
             have hlx:w.heap.size+1+1+1+1<W2.heap.size:=HA2.lt
             have c0:W2.cell? ⟨w.heap.size+1+1+1+1,0,none⟩=some (.slice (some ⟨br,0,none⟩) N cv):=by rw [qab HA2.hv 0];rfl
             have c1:W2.cell? ⟨w.heap.size+1+1+1+1,1,none⟩=some (.slice (some ⟨ro2.1,0,none⟩) T ro2.2):=by rw [qab HA2.hv 1];rfl
             have yf:W2.frozen? ⟨w.heap.size+1+1+1+1,1,none⟩=false:=qac HA2.hv 1
             have HA2:=qkm HA2
             have lbb2:bb<W2.heap.size:=Nat.lt_of_lt_of_le lbb BW.out.size
             clear e4
             unfold maxLen at e2
             unfold qbf at y
             dsimp only at y HRr HRo
             generalize rs2.getD A (0,0)=Rr at *
             obtain ⟨gr',kr'⟩:=Rr
             obtain ⟨og,oc⟩:=ro2
             dsimp only at y HRr HRo c1
             have ga1:decide (A<N)=true:=qkn hAN
             have ga2:decide ((A:Int)<(N:Int))=true:=qkn (by omega)
             refine qaf [0,1,2,3,4,5,6,7,8,9,10,11,12,13,14,15,16] _ _ _ _ (by kernel_rfl) ?_
             simp only [qka,qkb,qkc,qkd,qke,qkf,qkg,qkh,qki,Nat.reduceAdd,Nat.reduceSub]
             repeat (go_big_quiet_step (fail))
             refine wpQuiet_nil ?_
             have HC:=qkm (qbx og T oc gr' T kr' _ _ W2 HRo.out HRr.out (by rw [HLo.out,HLr.out];exact Nat.le_refl _) (by rw [HLr.out];exact hTl.1))
             refine qag 17 _ rfl (by kernel_rfl) ?_
             simp only [qkj,qkk,qkl]
             go_wp2_with fail
             refine HC.out.mono ?_
             rintro e w5 ⟨v,rfl,ho5,hb5⟩
             obtain ⟨q1,j1,rfl,hg5,hgl,hgs⟩:=qb2 ho5 (by rw [qas,HLo.out];show 0<T;omega)
             rw [qas,HLo.out] at hg5 ⊢
             have HA5:=qkm (HA2.out.grow hb5)
             have hkeep:=qkm (qhr hb5 hlx e3 lp lbb2)
             have yf:w5.frozen? ⟨w.heap.size+1+1+1+1,1,none⟩=false:=(hb5.frozen (p:=⟨w.heap.size+1+1+1+1,1,none⟩) hlx).trans yf
             have c1:w5.cell? ⟨w.heap.size+1+1+1+1,1,none⟩=_:=(hb5.cell (p:=⟨w.heap.size+1+1+1+1,1,none⟩) hlx).trans c1
             have hlx:w.heap.size+1+1+1+1<w5.heap.size:=Nat.lt_of_lt_of_le hlx hb5.size
             have hG:=qkm hg5
             clear ho5 hg5 HC
             unfold qbf
             go_wp2_with fail
             refine ⟨hkeep.out,?_⟩
             clear hkeep
             try simp only [Act.put,List.setIfInBounds_toArray,List.set_cons_succ,List.set_cons_zero]
             refine qaf [18,19] _ _ _ _ (by kernel_rfl) ?_
             simp only [qka,qkb,qkc,qkd,qke,qkf,qkg,qkh,qki,Nat.reduceAdd,Nat.reduceSub]
             repeat (go_big_quiet_step (fail))
             refine wpQuiet_nil ?_
             refine qbq 20 _ rfl (by kernel_rfl) ?_
             simp only [qkj,qkk,qkl]
             go_wp2_with fail
             refine qao (by kernel_rfl) ?_ _
             have H4:=HA5.out.setO hG.out (by rw [qas,HLo.out])
             have H4:=qkm (OfW.of (w:=w) H4 rfl rfl rfl rfl)
             unfold qbf at H4
             dsimp only at H4
             go_wp2_with fail
             go_roundw
             case rel=>exact ⟨j+1,hlt,by go_num,by rw [HPT.out];exact H4⟩
             case measure=>simp [intOf];omega
           ·have HC:Hid (qjr ⟨B,fin,ba,bto,bel⟩=[]):=if_neg (fun h=>h3 h.1)
            rw [HC.out] at HPT
            have g3:(fin ==3)=false:=beq_eq_false_iff_ne.2 h3
            clear h3
            go_wp2_with fail
            go_roundw
            case rel=>exact ⟨j+1,hlt,by go_num,by rw [HPT.out];exact HW⟩
            case measure=>simp [intOf];omega
        ·obtain rfl:j=p.blks.length:=by omega
         rw [List.take_length] at HW
         have HE2:=qkm (HE.out.pass HCO.out)
         go_wp2_with fail
         go_roundw
         case rel=>exact ⟨C,_,rfl,HE2,HW,.inr ⟨x,HE.out,rfl,by rw [HCX.out]⟩⟩
         case measure=>exact HMS.out
end Go.Proofs.Ytmcddolkpcgddaa
