/-
Hazards, plain: what the program finds is what the document's ways find; a mark more makes none.
-/
import Derived.Test.YtmcddolkpcgddaaZHazardFinds12
set_option maxHeartbeats 4000000
set_option maxRecDepth 100000
set_option linter.all false
namespace Go.Proofs.Ytmcddolkpcgddaa
open Go.ChangeShapes Go.WideShapes Go.ChangeAt Go.RowKit
section
structure VwK where
 p:Pr
 nm:ByteArray
 vo:Value
 vb:Value
 T:Nat
 N:Nat
 bv:Nat
 bO:Nat
 bs:List Nat
 vR:Value
 vS:Value
instance:Inhabited Sp:=⟨⟨0,0,0,false⟩⟩
def qbo (s:Sp):List Value:=[.int .i64 s.thing,.int .i64 s.off,.int .i64 s.sets,.bool s.is]
def VwK.cells (k:VwK):List Value:=[.string k.nm,.bool k.p.void,.int .i64 k.p.params,.int .i64 k.p.regs,k.vo,k.vb,.int .i64 (k.T:Int),k.vR,slW k.bO,k.vS]
def VwK.mine (k:VwK) (b:Nat):Prop:=b=k.bO∨b∈k.bs∨some b=k.vS.ownBlock
structure VwM (w0 w:World) (k:VwK) (x:AS) (sp:List Sp):Prop where
 pv:PrV w0 (.agg #[.string k.nm,.bool k.p.void,.int .i64 k.p.params,.int .i64 k.p.regs,k.vo,k.vb]) k.p
 hv:w.heap[k.bv]?=some (.cells k.cells.toArray 124 (0,0))
 own:w.ownsRow w0.heap.size 122 1 k.vR k.bs.length (k.bs.map slW)
 row:∀ r,r<k.bs.length→qd4 w (k.bs.getD r 0) (x.regs.getD r 0)∧x.regs.getD r 0<2 ^ 64
 out:qd4 w k.bO x.out∧x.out<2 ^ 64
 spo:w.ownsRow w0.heap.size 128 4 k.vS k.N (sp.flatMap qbo)
 xl:x.regs.length=k.bs.length
 sl:sp.length=k.N
 pl:k.bs.length≤k.N
 inj:∀ i j,i<k.bs.length→j<k.bs.length→k.bs.getD i 0=k.bs.getD j 0→i=j
 neO:∀ i,i<k.bs.length→k.bs.getD i 0≠k.bO
 ge:w0.heap.size≤k.bv∧w0.heap.size≤k.bO∧∀ i,i<k.bs.length→w0.heap.size≤k.bs.getD i 0
 below:Below w0.heap.size w0 w
structure KpW (k:VwK) (w w':World):Prop where
 os:w'.os=w.os
 tape:w'.tape=w.tape
 output:w'.output=w.output
 size:w.heap.size≤w'.heap.size
 keep:∀ b,b<w.heap.size→¬ k.mine b→w'.heap[b]?=w.heap[b]?
section
variable {w0 w w' w1:World} {k:VwK} {x:AS} {sp:List Sp}
theorem KpW.refl (k:VwK) (w:World):KpW k w w:=⟨rfl,rfl,rfl,Nat.le_refl _,fun _ _ _=>rfl⟩
theorem KpW.trans (h:KpW k w w1) (h':KpW k w1 w'):KpW k w w':=⟨h'.os.trans h.os,h'.tape.trans h.tape,h'.output.trans h.output,Nat.le_trans h.size h'.size,fun b hb hn=>(h'.keep b (Nat.lt_of_lt_of_le hb h.size) hn).trans (h.keep b hb hn)⟩
theorem KpW.of_below (h:Below w.heap.size w w'):KpW k w w':=⟨h.os,h.tape,h.output,h.size,fun b hb _=>h.block b hb⟩
theorem KpW.of_but {b:Nat} (h:But b w w') (hb:k.mine b):KpW k w w':=⟨h.os,h.tape,h.output,h.size,fun c hc hn=>h.block c hc (fun e=>hn (e ▸ hb))⟩
theorem qap {g:Nat} {w w':World} (h:But g w w'):w.grownBy w' (some g):=⟨h.os,h.tape,h.output,h.size,fun k hk hne=>h.block k hk (fun e=>hne (by rw [e]))⟩
theorem qv0 {w:World} {B s n m c:Nat} {e:TypeId} {a:Option Addr} {xs:List Value} (h:w.ownsRow B e s (.slice a n c) m xs):n=m:=by
 obtain ⟨-,⟨h1,h2⟩|⟨g1,cap,cur,h1, -⟩⟩:=h
 ·simp only [Value.slice.injEq] at h1;omega
 ·simp only [Value.slice.injEq] at h1;exact h1.2.1
theorem ne_row {w:World} {B s n b:Nat} {e t:TypeId} {v:Value} {xs:List Value} {c:Array Value} (h:w.ownsRow B e s v n xs) (hb:w.heap[b]?=some (.cells c t (0,0))) (he:e≠t):v.ownBlock≠some b:=by
 intro hv
 obtain ⟨-,⟨rfl, -⟩|⟨g,cap,cur,rfl, -,hg, -⟩⟩:=h
 ·cases hv
 ·have e2:g=b:=by simpa [Value.ownBlock] using hv
  subst e2
  rw [hb] at hg
  simp only [Option.some.injEq,Obj.cells.injEq] at hg
  exact he hg.2.1.symm
theorem qbk {w:World} {b b':Nat} {t t':TypeId} {c c':Array Value} (h:w.heap[b]?=some (.cells c t (0,0))) (h':w.heap[b']?=some (.cells c' t' (0,0))) (he:t≠t'):b≠b':=by
 rintro rfl
 rw [h] at h'
 simp only [Option.some.injEq,Obj.cells.injEq] at h'
 exact he h'.2.1
theorem VwM.lv (h:VwM w0 w k x sp):k.bv<w.heap.size:=(qkp h.hv).1
theorem VwM.ext (h:VwM w0 w k x sp):Ext w0 w:=Ext.below h.below
theorem VwM.grow (h:VwM w0 w k x sp) (hb:Below w.heap.size w w'):VwM w0 w' k x sp :=
 ⟨h.pv,(hb.block _ h.lv).trans h.hv,qav h.own hb,fun r hr=>⟨(hb.block _ (h.row r hr).1.lt).trans (h.row r hr).1,(h.row r hr).2⟩,⟨(hb.block _ h.out.1.lt).trans h.out.1,h.out.2⟩,qav h.spo hb,h.xl,h.sl,h.pl,h.inj,h.neO,h.ge,h.below.trans (hb.mono h.below.size)⟩
theorem VwM.below1 (h:VwM w0 w k x sp) (hk:KpW k w w'):Below w0.heap.size w0 w':=by
 refine h.below.trans ⟨hk.os,hk.tape,hk.output,hk.size,fun b hb=>hk.keep b (Nat.lt_of_lt_of_le hb h.below.size) ?_⟩
 rintro (rfl | hm | he)
 ·exact absurd hb (Nat.not_lt.2 h.ge.2.1)
 ·obtain ⟨i,hi,rfl⟩:=List.getElem_of_mem hm
  have:=h.ge.2.2 i hi
  simp only [List.getD,List.getElem?_eq_getElem hi,Option.getD_some] at this
  exact absurd hb (Nat.not_lt.2 this)
 ·exact absurd hb (Nat.not_lt.2 (World.ownsRow.lt h.spo b he.symm).1)
theorem VwM.setRow (h:VwM w0 w k x sp) {r:Nat} (hr:r<k.bs.length) {y:Nat} (hy:y<2 ^ 64) (hb:But (k.bs.getD r 0) w w') (hw:qd4 w' (k.bs.getD r 0) y):VwM w0 w' k { x with regs:=x.regs.set r y } sp∧KpW k w w':=by
 have hm:k.mine (k.bs.getD r 0):=.inr (.inl (by simp [List.getD,hr]))
 have hK:KpW k w w':=KpW.of_but hb hm
 have hrow:=(h.row r hr).1
 have hg:=qap hb
 refine ⟨⟨h.pv,(hb.block _ h.lv (qbk h.hv hrow (by decide))).trans h.hv,h.own.kept hg (.inr (ne_row h.own hrow (by decide))),fun i hi=>?_,?_,h.spo.kept hg (.inr (ne_row h.spo hrow (by decide))),by simpa using h.xl,h.sl,h.pl,h.inj,h.neO,h.ge,h.below1 hK⟩,hK⟩
 ·by_cases e:i=r
  ·subst e
   rw [show (x.regs.set i y).getD i 0=y by simp [List.getD,h.xl,hi]]
   exact ⟨hw,hy⟩
  ·rw [show (x.regs.set r y).getD i 0=x.regs.getD i 0 by simp [List.getD,List.getElem?_set,Ne.symm e]]
   exact ⟨(hb.block _ (h.row i hi).1.lt (fun e2=>e (h.inj _ _ hi hr e2))).trans (h.row i hi).1,(h.row i hi).2⟩
 ·exact ⟨(hb.block _ h.out.1.lt (Ne.symm (h.neO r hr))).trans h.out.1,h.out.2⟩
theorem VwM.setOut (h:VwM w0 w k x sp) {y:Nat} (hy:y<2 ^ 64) (hb:But k.bO w w') (hw:qd4 w' k.bO y):VwM w0 w' k { x with out:=y } sp∧KpW k w w':=by
 have hK:KpW k w w':=KpW.of_but hb (.inl rfl)
 have hrow:=h.out.1
 have hg:=qap hb
 exact ⟨⟨h.pv,(hb.block _ h.lv (qbk h.hv hrow (by decide))).trans h.hv,h.own.kept hg (.inr (ne_row h.own hrow (by decide))),fun i hi=>⟨(hb.block _ (h.row i hi).1.lt (h.neO i hi)).trans (h.row i hi).1,(h.row i hi).2⟩,⟨hw,hy⟩,h.spo.kept hg (.inr (ne_row h.spo hrow (by decide))),h.xl,h.sl,h.pl,h.inj,h.neO,h.ge,h.below1 hK⟩,hK⟩
theorem VwM.at (h:VwM w0 w k x sp) {r:Nat} (hr:r<k.bs.length):∃ g c,k.vR=.slice (some ⟨g,0,none⟩) k.bs.length c∧k.bs.length≤c∧c≤maxLen∧g<w.heap.size∧w.cell? ⟨g,r,none⟩=some (slW (k.bs.getD r 0)):=by
 have h':=h.own
 obtain ⟨h1,⟨h2,h3⟩|⟨g,cap,cur,h2,hb,hg,hn,hc,hcs,ht⟩⟩:=h.own
 ·omega
 ·refine ⟨g,cap,h2,hn,hc,(qkp hg).1,?_⟩
  rw [h2] at h'
  rw [World.ownsRow.cellAt h' r (by omega)]
  simp [List.getD,hr]
theorem qtv (sp:List Sp) (r j:Nat) (hr:r<sp.length) (hj:j<4):(sp.flatMap qbo)[r*4+j]?=(qbo (sp.getD r default))[j]?:=by
 exact qi5 qbo 4 (fun _=>rfl) sp r j hr hj
theorem VwM.sat (h:VwM w0 w k x sp) {r:Nat} (hr:r<k.N):∃ g c,k.vS=.slice (some ⟨g,0,none⟩) k.N c∧k.N≤c∧c≤maxLen∧g<w.heap.size∧(∀ o,w.frozen? ⟨g,o,none⟩=false)∧∀ j,j<4→w.cell? ⟨g,r*4+j,none⟩=(qbo (sp.getD r default))[j]?:=by
 have h':=h.spo
 obtain ⟨h1,⟨h2,h3⟩|⟨g,cap,cur,h2,hb,hg,hn,hc,hcs,ht⟩⟩:=h.spo
 ·omega
 ·refine ⟨g,cap,h2,hn,hc,(qkp hg).1,fun o=>qac hg o,fun j hj=>?_⟩
  rw [h2] at h'
  have hsl:=h.sl
  rw [World.ownsRow.cellAt h' _ (by omega),qtv sp r j (by omega) hj]
theorem qop {α:Type} (f:α→List Value) (n:Nat) (hn:∀ a,(f a).length=n):∀ (l:List α) (r j:Nat) (a:α) (v:Value),r<l.length→j<n→f a=(f (l[r]?.getD a)).set j v→(l.flatMap f).set (r*n+j) v=(l.set r a).flatMap f
 | b::l,0,j,a,v,_,hj,h=>by
  simp only [Nat.zero_mul,Nat.zero_add,List.flatMap_cons,List.set_cons_zero]
  rw [List.set_append_left _ _ (by rw [hn];exact hj),h];rfl
 | b::l,r+1,j,a,v,hr,hj,h=>by
  simp only [List.flatMap_cons,List.set_cons_succ]
  rw [List.set_append_right _ _ (by rw [hn,Nat.succ_mul];omega),hn,show (r+1)*n+j-n=r*n+j by rw [Nat.succ_mul];omega]
  rw [qop f n hn l r j a v (by simpa using hr) hj (by simpa using h)]
theorem VwM.setSp (h:VwM w0 w k x sp) {g n c r j:Nat} (hg:k.vS=.slice (some ⟨g,0,none⟩) n c) (hr:r<k.N) (hj:j<4) {s:Sp} {v:Value} (hs:qbo s=(qbo (sp.getD r default)).set j v) :
  VwM w0 (w.setCell ⟨g,r*4+j,none⟩ v) k x (sp.set r s)∧KpW k w (w.setCell ⟨g,r*4+j,none⟩ v):=by
 have hb:But g w (w.setCell ⟨g,r*4+j,none⟩ v):=But.setCell g _ w v
 have hm:k.mine g:=.inr (.inr (by rw [hg];rfl))
 have hK:KpW k w (w.setCell ⟨g,r*4+j,none⟩ v):=KpW.of_but hb hm
 have hsl:=h.sl
 have hrow:=h.spo
 rw [hg] at hrow
 obtain rfl:=qv0 hrow
 obtain ⟨hst,hgr⟩:=World.ownsRow.stored hrow (r*4+j) v
 have hne:∀ {b:Nat} {t:TypeId} {cc:Array Value},w.heap[b]?=some (.cells cc t (0,0))→128≠t→b≠g:=fun hb he e=>ne_row hrow hb he (by rw [e];rfl)
 refine ⟨⟨h.pv,(hb.block _ h.lv (hne h.hv (by decide))).trans h.hv,h.own.kept hgr (qca h.own hrow (by decide)),fun i hi=>⟨(hb.block _ (h.row i hi).1.lt (hne (h.row i hi).1 (by decide))).trans (h.row i hi).1,(h.row i hi).2⟩,⟨(hb.block _ h.out.1.lt (hne h.out.1 (by decide))).trans h.out.1,h.out.2⟩,?_,h.xl,by simpa using h.sl,h.pl,h.inj,h.neO,h.ge,h.below1 hK⟩,hK⟩
 rw [hg,←qop qbo 4 (fun _=>rfl) sp r j s v (by omega) hj (by simpa [List.getD,hsl,hr] using hs)]
 exact hst
end
theorem qnc (w0:World) (k:VwK) (x:AS) (sp:List Sp) (i:In) (va:Value) (w:World) (h:VwM w0 w k x sp) (hol:k.p.objs.length≤1000) (hi:0≤i.obj∧i.obj≤100000) :
  Calls Try.prog 95 #[.pointer (some ⟨k.bv,0,none⟩),qbu i va] w fun e w'=>e=.returned (.int .i64 (if i.op=8 then (k.p.objs.length:Int)+i.obj else i.obj))∧Below w.heap.size w w':=by
 have H:=qkm h.hv
 have hlv:=h.lv
 obtain ⟨a,c,hvo, -⟩:=id (show qce w0 k.vo k.p.objs from by obtain ⟨_,_,_,e,h1, -⟩:=h.pv;simp only [Value.agg.injEq,Array.mk.injEq,List.cons.injEq,Value.string.injEq] at e;obtain ⟨-, -, -, -,e, -, -⟩:=e;rw [e];exact h1)
 clear h
 have c4:w.cell? ⟨k.bv,4,none⟩=some (.slice a k.p.objs.length c):=by rw [qab H.out 4,←hvo];rfl
 generalize k.p.objs.length=n at *
 generalize k.bv=bv at *
 unfold qbu
 by_cases h8:i.op=8
 ·have g1:(i.op ==8)=true:=by rw [h8];rfl
  rw [if_pos h8]
  clear h8
  go_enter Try.func95,Try.ntmps95
  go_wp2_with fail
  go_quiet (fail)
  go_wp2_with fail
  go_ret
  exact ⟨rfl,qm9 (qaa _ _) _⟩
 ·have g1:(i.op ==8)=false:=by simpa using h8
  rw [if_neg h8]
  clear h8
  go_enter Try.func95,Try.ntmps95
  go_wp2_with fail
  go_ret
  exact ⟨rfl,qaa _ _⟩
theorem qvf (w0:World) (k:VwK) (x:AS) (sp:List Sp) (r:Nat) (w:World) (h:VwM w0 w k x sp) (hr:r<k.bs.length) :
  Calls Try.prog 94 #[.pointer (some ⟨k.bv,0,none⟩),.int .i64 (r:Int)] w fun e w'=>e=.returned (.bool (x.news (.sub (some r) none)))∧VwM w0 w' k (x.con (.sub (some r) none)) sp∧KpW k w w':=by
 obtain ⟨g,c,hvR,hc1,hc2,hgl,hcr⟩:=h.at hr
 have hlv:=h.lv
 have c7:w.cell? ⟨k.bv,7,none⟩=some (.slice (some ⟨g,0,none⟩) k.bs.length c):=by rw [qab h.hv 7,←hvR];rfl
 have c8:w.cell? ⟨k.bv,8,none⟩=some (slW k.bO):=by rw [qab h.hv 8];rfl
 have h0:=qkm (h.row r hr)
 have h1:=qkm h.out
 have HS:=qkm (fun w' (hb:But k.bO w w') (hw:qd4 w' k.bO (x.out ||| x.regs.getD r 0))=>h.setOut (Nat.or_lt_two_pow h.out.2 (h.row r hr).2) hb hw)
 have HN:Hid (x.news (.sub (some r) none)=((x.out ||| x.regs.getD r 0) !=x.out)∧x.con (.sub (some r) none)={ x with out:=x.out ||| x.regs.getD r 0 }):=⟨rfl,rfl⟩
 rw [HN.out.1,HN.out.2]
 have hb0:=qbk h.hv h.out.1 (by decide)
 have hg0:g≠k.bO:=fun e=>ne_row h.own h.out.1 (by decide) (by rw [hvR,e];rfl)
 clear HN h hvR
 unfold maxLen at hc2
 generalize k.bs.getD r 0=br at *
 generalize x.regs.getD r 0=y at *
 generalize k.bs.length=n at *
 have g1:decide (r<n)=true:=qkn hr
 have g2:decide ((r:Int)<(n:Int))=true:=qkn (by omega)
 unfold slW at c8 hcr
 go_enter Try.func94,Try.ntmps94
 go_wp2_with fail
 refine qae (fun b=>b=k.bv∨b=g) (by kernel_rfl) ?_
 refine qaf [0,1,2,3,4,5,6,7,8,9,10] _ _ _ _ (by kernel_rfl) ?_
 simp only [qka,qkb,qkc,qkd,qke,qkf,qkg,qkh,qki,Nat.reduceAdd,Nat.reduceSub]
 repeat (go_big_quiet_step (fail))
 refine wpQuiet_nil ?_
 refine qag 11 _ rfl (by kernel_rfl) ?_
 simp only [qkj,qkk,qkl]
 go_wp2_with fail
 refine (qx9 k.bO br x.out y w.drew h1.out.1 h0.out.1 h1.out.2 h0.out.2).mono ?_
 rintro e w1 ⟨rfl,hw1,hb1⟩
 go_wp2_with fail
 refine ⟨fun b o hb=>by rcases hb with rfl|rfl;exact hb1.cell hlv hb0;exact hb1.cell hgl hg0,?_⟩
 refine qaf [12] _ _ _ _ (by kernel_rfl) ?_
 simp only [qka,qkb,qkc,qkd,qke,qkf,qkg,qkh,qki,Nat.reduceAdd,Nat.reduceSub]
 repeat (go_big_quiet_step (fail))
 refine wpQuiet_nil ?_
 refine qao (by kernel_rfl) ?_ _
 go_wp2_with fail
 go_ret
 exact ⟨rfl,HS.out _ ((qdj k.bO w 1).trans hb1) hw1⟩
end
section
def wU (R j:Nat):Nat:=R / 2 ^ (64*j) % 2 ^ 64
theorem qt5 (R j:Nat):wU R j<2 ^ 64:=Nat.mod_lt _ (Nat.two_pow_pos 64)
theorem qd3 (R j i:Nat):(wU R j).testBit i=(decide (i<64) && R.testBit (64*j+i)):=by
 unfold wU;rw [Nat.testBit_mod_two_pow,Nat.testBit_div_two_pow,Nat.add_comm]
theorem qsr (j:Nat):wU 0 j=0:=by unfold wU;simp
theorem qve (R S j:Nat):wU (R ||| S) j=wU R j ||| wU S j:=by
 apply Nat.eq_of_testBit_eq
 intro i
 rw [Nat.testBit_or,qd3,qd3,qd3,Nat.testBit_or]
 cases decide (i<64) <;> simp
theorem q1c (R n:Nat):wU (ql9 R n) (n / 64)=wU R (n / 64) ||| 1 <<< (n % 64):=by
 apply Nat.eq_of_testBit_eq
 intro i
 rw [Nat.testBit_or,Nat.one_shiftLeft,Nat.testBit_two_pow,qd3,qd3,qgd]
 by_cases hi:i<64
 ·rw [qkn hi]
  simp only [Bool.true_and]
  congr 1
  rw [Bool.eq_iff_iff,decide_eq_true_eq,decide_eq_true_eq]
  omega
 ·have:¬ n % 64=i:=by omega
  simp [hi,this]
theorem qrw (R n j:Nat) (h:j≠n / 64):wU (ql9 R n) j=wU R j:=by
 apply Nat.eq_of_testBit_eq
 intro i
 rw [qd3,qd3,qgd]
 by_cases hi:i<64
 ·have:¬ n=64*j+i:=by omega
  simp [this]
 ·simp [hi]
theorem qnr (S k j:Nat):wU (S % 2 ^ (64*k)) j=if j<k then wU S j else 0:=by
 apply Nat.eq_of_testBit_eq
 intro i
 rw [qd3,Nat.testBit_mod_two_pow]
 by_cases h:j<k
 ·rw [if_pos h,qd3]
  by_cases hi:i<64
  ·have:64*j+i<64*k:=by omega
   simp [this]
  ·simp [hi]
 ·rw [if_neg h]
  have:¬ 64*j+i<64*k:=by omega
  simp [this]
def qb7 (L R:Nat):List Value:=(List.range L).map fun j=>.int .u64 ((wU R j:Nat):Int)
theorem qcq (L R:Nat):(qb7 L R).length=L:=by simp [qb7]
theorem qh7 (L R j:Nat) (h:j<L):(qb7 L R)[j]?=some (.int .u64 ((wU R j:Nat):Int)):=by simp [qb7,h]
theorem qpf (L R R' j:Nat) (h:∀ i,i≠j→wU R' i=wU R i):(qb7 L R).set j (.int .u64 ((wU R' j:Nat):Int))=qb7 L R':=by
 apply List.ext_getElem (by simp [qb7])
 intro i h1 h2
 rw [List.getElem_set]
 by_cases e:j=i
 ·subst e;simp [qb7]
 ·rw [if_neg e];simp [qb7,h i (Ne.symm e)]
def qb3 (w:World) (g c L R:Nat):Prop:=w.ownsRow 0 134 1 (.slice (some ⟨g,0,none⟩) L c) L (qb7 L R)
theorem qb3.heap {w:World} {g c L R:Nat} (h:qb3 w g c L R):∃ cur,w.heap[g]?=some (.cells cur 134):=by
 obtain ⟨-,⟨h2, -⟩|⟨g',cap,cur,h2, -,hg, -⟩⟩:=h
 ·simp at h2
 ·simp only [Value.slice.injEq,Option.some.injEq,Addr.mk.injEq,and_true,true_and] at h2
  obtain ⟨rfl, -⟩:=h2
  exact ⟨cur,hg⟩
theorem qb3.lt {w:World} {g c L R:Nat} (h:qb3 w g c L R):g<w.heap.size:=by
 obtain ⟨cur,hg⟩:=h.heap;exact (qkp hg).1
theorem qb3.caps {w:World} {g c L R:Nat} (h:qb3 w g c L R):L≤c∧c≤maxLen:=by
 obtain ⟨-,⟨h2, -⟩|⟨g',cap,cur,h2, -,hg,hn,hc, -⟩⟩:=h
 ·simp at h2
 ·simp only [Value.slice.injEq,Option.some.injEq,Addr.mk.injEq,and_true,true_and] at h2
  obtain ⟨rfl,rfl⟩:=h2
  exact ⟨hn,hc⟩
theorem qb3.cell {w:World} {g c L R:Nat} (h:qb3 w g c L R) {j:Nat} (hj:j<L):w.cell? ⟨g,j,none⟩=some (.int .u64 ((wU R j:Nat):Int))∧w.frozen? ⟨g,j,none⟩=false:=by
 obtain ⟨cur,hg⟩:=h.heap
 refine ⟨(World.ownsRow.cellAt h j (by omega)).trans ?_,qac hg j⟩
 rw [qh7 L R j hj]
theorem qb3.below {w w':World} {g c L R:Nat} (h:qb3 w g c L R) (hb:Below w.heap.size w w'):qb3 w' g c L R:=qav h hb
theorem qb3.ne {w:World} {g c L R b:Nat} (h:qb3 w g c L R) {cs:Array Value} {ty:TypeId} (hb:w.heap[b]?=some (.cells cs ty)) (hty:ty≠134):g≠b:=by
 obtain ⟨cur,hg⟩:=h.heap
 intro e
 rw [e,hb] at hg
 simp only [Option.some.injEq,Obj.cells.injEq] at hg
 exact hty hg.2.1
theorem qb3.but {w w':World} {g c L R b:Nat} (h:qb3 w g c L R) (hb:But b w w') (hne:g≠b):qb3 w' g c L R :=
 World.ownsRow.kept h (qap hb) (.inr (by simp only [Value.ownBlock];intro e;exact hne (Option.some.inj e)))
theorem qb3.store {w:World} {g c L R R':Nat} (h:qb3 w g c L R) (j:Nat) (hw:∀ i,i≠j→wU R' i=wU R i):qb3 (w.setCell ⟨g,j,none⟩ (.int .u64 ((wU R' j:Nat):Int))) g c L R':=by
 have:=(World.ownsRow.stored h j (.int .u64 ((wU R' j:Nat):Int))).1
 rw [qpf L R R' j hw] at this
 exact this
theorem q08 (R n:Nat):(bits .and .u64 (((wU R (n / 64):Nat):Int) / 2 ^ (n % 64)) 1 ==1)=R.testBit n:=by
 have h:=q18 (x:=wU R (n / 64)) (t:=n % 64) (qt5 _ _) (by omega)
 rw [Nat.mod_mod] at h
 rw [h,qd3,qkn (by omega),Bool.true_and,show 64*(n / 64)+n % 64=n by omega]
theorem qrm (g c L R n:Nat) (w:World) (h:qb3 w g c L R) (hn:n<64*L) :
  Calls Try.prog 76 #[.slice (some ⟨g,0,none⟩) L c,.int .i64 (n:Int)] w fun e w'=>e=.returned (.bool (R.testBit n))∧w'=w:=by
 obtain ⟨c0, -⟩:=h.cell (j:=n / 64) (by omega)
 obtain ⟨hc1,hc2⟩:=h.caps
 unfold maxLen at hc2
 have HH:=qkm (q08 R n)
 have g1:decide (n / 64<L)=true:=qkn (by omega)
 have g2:decide ((n:Int) / 64<(L:Int))=true:=qkn (by omega)
 clear h
 go_enter Try.func76,Try.ntmps76
 go_wp2_with fail
 go_ret
 exact ⟨qah HH.out,rfl⟩
theorem qg0 (g c L R n:Nat) (w:World) (h:qb3 w g c L R) (hn:n<64*L) :
  Calls Try.prog 74 #[.slice (some ⟨g,0,none⟩) L c,.int .i64 (n:Int)] w fun e w'=>(∃ v,e=.returned v)∧qb3 w' g c L (ql9 R n)∧But g w w':=by
 obtain ⟨c0,f0⟩:=h.cell (j:=n / 64) (by omega)
 obtain ⟨hc1,hc2⟩:=h.caps
 unfold maxLen at hc2
 have H:=qkm h
 have g1:decide (n / 64<L)=true:=qkn (by omega)
 have g2:decide ((n:Int) / 64<(L:Int))=true:=qkn (by omega)
 have HS:Hid (IntKind.u64.wrap (2 ^ (n % 64))=((1 <<< (n % 64):Nat):Int)):=by
  have:=q1t (t:=n % 64) (by omega)
  rw [Nat.mod_mod] at this
  exact this
 have HO:Hid (bits .or .u64 ((wU R (n / 64):Nat):Int) ((1 <<< (n % 64):Nat):Int)=((wU (ql9 R n) (n / 64):Nat):Int)):=by
  show _=_
  rw [q14 (qt5 _ _) (qsl (by omega)),q1c]
 clear h
 go_enter Try.func74,Try.ntmps74
 go_region
 go_wp2_with fail
 rw [HS.out,HO.out]
 go_end0
 exact ⟨⟨_,rfl⟩,H.out.store (R':=ql9 R n) (n / 64) (fun i hi=>qrw R n i hi),(But.setCell g (n / 64) w _).trans (qdj _ _ 1)⟩
end
section
def qiq (s:List Bool) (L:List In) (meet:In→In→Bool) (had:Nat) (i:In):Bool :=
 (qam s (qbn i) && had.testBit (L.length+(qbn i).toNat)) || (i.op ==6 && (List.range L.length).any fun x=>had.testBit x && meet (L.getD x default) i)
def qv1 (s:List Bool) (p:Pr) (meet:In→In→Bool) (X:List Nat) (n:Nat):List Nat :=
 (List.range (p.blks.getD n default).ins.length).filter fun k=>qiq s (qad p) meet (qja s (qad p).length p n k (X.getD n 0)) ((p.blks.getD n default).ins.getD k default)
def qde (meet:In→In→Bool) (load:In) (r:Int) (i:In):Bool:=if 0≤r then qbn i ==r else i.op ==6 && meet load i
def qm6 (s:List Bool) (p:Pr) (b k:Nat) (load:In) (r:Int):Prop :=
 (k<(p.blks.getD b default).ins.length∧((((p.blks.getD b default).ins.getD k default).op=5∧load=(p.blks.getD b default).ins.getD k default∧r= -1)∨(r∈qbb ((p.blks.getD b default).ins.getD k default)∧qam s r=true)))∨
 (k=(p.blks.getD b default).ins.length∧qbs s (p.blks.getD b default)=true∧r=(p.blks.getD b default).a)
def atD (s:List Bool) (p:Pr) (meet:In→In→Bool) (n j:Nat):Prop :=
 ∃ b k load r,b<p.blks.length∧qm6 s p b k load r∧qg4 p b k n j∧qde meet load r ((p.blks.getD n default).ins.getD j default)=true
theorem qa4 {s:List Bool} {r:Int} (h:qam s r=true):0≤r∧r<s.length∧s.getD r.toNat false=true:=by
 unfold qam at h;simpa using h
theorem qis {α:Type} (l:List α) (n:Nat) (d:α) (h:n<l.length):l=l.take n++l.getD n d::l.drop (n+1):=by
 have e:l.getD n d=l[n]:=by simp [List.getD,h]
 rw [e,←List.drop_eq_getElem_cons h,List.take_append_drop]
theorem qch {α:Type} {l:List α} {j:Nat} {d:α} (h:j<l.length):l.getD j d∈l:=by simp [List.getD,h]
theorem qph {α:Type} (A B:List α) (a d:α):(A++a::B).getD A.length d=a:=by simp [List.getD]
theorem qhf {p:Pr} {n k:Nat} (hn:n<p.blks.length) (hk:k<(p.blks.getD n default).ins.length) (h5:((p.blks.getD n default).ins.getD k default).op=5) :
  qar p n+ldN ((p.blks.getD n default).ins.take k)<(qad p).length∧(qad p).getD (qar p n+ldN ((p.blks.getD n default).ins.take k)) default=(p.blks.getD n default).ins.getD k default:=by
 have e1:=qis p.blks n default hn
 have e3:=qis (p.blks.getD n default).ins k default hk
 have f3:qa7 (p.blks.getD n default).ins=qa7 ((p.blks.getD n default).ins.take k)++(p.blks.getD n default).ins.getD k default::qa7 ((p.blks.getD n default).ins.drop (k+1)):=by
  conv=>lhs;rw [e3]
  unfold qa7
  rw [List.filter_append,List.filter_cons,if_pos (by simpa using h5)]
 have f1:qad p=(((p.blks.take n).flatMap fun b=>qa7 b.ins)++qa7 ((p.blks.getD n default).ins.take k))++(p.blks.getD n default).ins.getD k default::(qa7 ((p.blks.getD n default).ins.drop (k+1))++(p.blks.drop (n+1)).flatMap fun b=>qa7 b.ins):=by
  unfold qad
  conv=>lhs;rw [e1]
  rw [List.flatMap_append,List.flatMap_cons,f3]
  simp
 have hl:(((p.blks.take n).flatMap fun b=>qa7 b.ins)++qa7 ((p.blks.getD n default).ins.take k)).length=qar p n+ldN ((p.blks.getD n default).ins.take k):=by
  rw [List.length_append];rfl
 rw [f1,←hl]
 exact ⟨by simp,qph ..⟩
theorem qpz {s:List Bool} {p:Pr} {meet:In→In→Bool} {X:List Nat} (h1:qcf s (qad p).length p X) (h2:qg5 s (qad p).length p X) {n j:Nat} (hn:n<p.blks.length) (hj:j<(p.blks.getD n default).ins.length) :
  qiq s (qad p) meet (qja s (qad p).length p n j (X.getD n 0)) ((p.blks.getD n default).ins.getD j default)=true↔atD s p meet n j:=by
 have HC:=qtu h1 h2 hn hj
 generalize qja s (qad p).length p n j (X.getD n 0)=H at *
 unfold qiq
 rw [Bool.or_eq_true,Bool.and_eq_true,Bool.and_eq_true,List.any_eq_true]
 constructor
 ·rintro (⟨hs,hb⟩ | ⟨ho,x,hx,hb⟩)
  ·obtain ⟨b,k,hb1,hoc,hc⟩:=(HC _).1 hb
   have hd:=(qa4 hs).1
   rcases hoc with ⟨hk,hr⟩|⟨hk,he,hy⟩
   ·unfold qbm at hr
    rw [List.mem_append,List.mem_map] at hr
    rcases hr with hr|⟨r,hr,hy⟩
    ·exfalso
     by_cases h5:((p.blks.getD b default).ins.getD k default).op=5
     ·rw [if_pos h5,List.mem_singleton] at hr
      have:=(qhf hb1 hk h5).1
      omega
     ·rw [if_neg h5] at hr;cases hr
    ·rw [List.mem_filter] at hr
     have hr0:=(qa4 hr.2).1
     have e:r=qbn ((p.blks.getD n default).ins.getD j default):=by omega
     refine ⟨b,k,default,r,hb1,.inl ⟨hk,.inr hr⟩,hc,?_⟩
     unfold qde
     rw [if_pos hr0,e];simp
   ·have ha:=he
    unfold qbs at ha
    rw [Bool.and_eq_true] at ha
    have ha0:=(qa4 ha.2).1
    have e:(p.blks.getD b default).a=qbn ((p.blks.getD n default).ins.getD j default):=by omega
    refine ⟨b,k,default,(p.blks.getD b default).a,hb1,.inr ⟨hk,he,rfl⟩,hc,?_⟩
    unfold qde
    rw [if_pos ha0,e];simp
  ·rw [Bool.and_eq_true] at hb
   rw [List.mem_range] at hx
   obtain ⟨b,k,hb1,hoc,hc⟩:=(HC _).1 hb.1
   rcases hoc with ⟨hk,hr⟩|⟨hk,he,hy⟩
   ·unfold qbm at hr
    rw [List.mem_append,List.mem_map] at hr
    rcases hr with hr|⟨r,hr,hy⟩
    ·by_cases h5:((p.blks.getD b default).ins.getD k default).op=5
     ·rw [if_pos h5,List.mem_singleton] at hr
      have e:=(qhf hb1 hk h5).2
      rw [←hr] at e
      refine ⟨b,k,_, -1,hb1,.inl ⟨hk,.inl ⟨h5,rfl,rfl⟩⟩,hc,?_⟩
      unfold qde
      rw [if_neg (by decide),ho,←e,hb.2];rfl
     ·rw [if_neg h5] at hr;cases hr
    ·omega
   ·omega
 ·rintro ⟨b,k,load,r,hb1,hg,hc,hu⟩
  unfold qde at hu
  rcases hg with ⟨hk,⟨h5,rfl,rfl⟩|⟨hr,hs⟩⟩|⟨hk,he,rfl⟩
  ·rw [if_neg (by decide),Bool.and_eq_true] at hu
   obtain ⟨l1,l2⟩:=qhf hb1 hk h5
   refine .inr ⟨hu.1,_,List.mem_range.2 l1,?_⟩
   rw [Bool.and_eq_true,l2]
   refine ⟨(HC _).2 ⟨b,k,hb1,.inl ⟨hk,?_⟩,hc⟩,hu.2⟩
   unfold qbm
   rw [if_pos h5];simp
  ·have h0:=qa4 hs
   rw [if_pos h0.1,beq_iff_eq] at hu
   refine .inl ⟨by rw [hu];exact hs,(HC _).2 ⟨b,k,hb1,.inl ⟨hk,?_⟩,hc⟩⟩
   unfold qbm
   rw [List.mem_append,List.mem_map]
   exact .inr ⟨r,List.mem_filter.2 ⟨hr,hs⟩,by rw [hu]⟩
  ·have ha:=he
   unfold qbs at ha
   rw [Bool.and_eq_true] at ha
   have h0:=qa4 ha.2
   rw [if_pos h0.1,beq_iff_eq] at hu
   exact .inl ⟨by rw [hu];exact ha.2,(HC _).2 ⟨b,k,hb1,.inr ⟨hk,he,by rw [hu]⟩,hc⟩⟩
theorem qpm (s:List Bool) (R:Nat) (r:Int):qam (s.take R) r=(qam s r && decide (r<(R:Int))):=by
 rw [Bool.eq_iff_iff]
 unfold qam
 simp only [Bool.and_eq_true,decide_eq_true_eq,List.length_take]
 constructor
 ·rintro ⟨h0,h1,h2⟩
  have hl:r.toNat<R:=by omega
  have e:(s.take R).getD r.toNat false=s.getD r.toNat false:=by simp only [List.getD,List.getElem?_take];rw [if_pos hl]
  rw [e] at h2
  exact ⟨⟨h0,by omega,h2⟩,by omega⟩
 ·rintro ⟨⟨h0,h1,h2⟩,h3⟩
  have hl:r.toNat<R:=by omega
  have e:(s.take R).getD r.toNat false=s.getD r.toNat false:=by simp only [List.getD,List.getElem?_take];rw [if_pos hl]
  exact ⟨h0,by omega,by rw [e];exact h2⟩
-- a mark more
end
end Go.Proofs.Ytmcddolkpcgddaa
