/-
Contracts of the parts of ir.Check: ends of blocks, instructions without what their operations have.
-/
import Derived.Test.YtmcddolkpcgddaaZHazardFinds15
set_option maxHeartbeats 4000000
set_option maxRecDepth 20000
set_option linter.all false
namespace Go.Proofs.Ytmcddolkpcgddaa
open Go.ChangeShapes Go.WideShapes Go.ChangeAt Go.RowKit
section
section
variable {k:RK} {p:Pr} {bf bg c:Nat} {nm:ByteArray} {vob vbl vat:Value} {low:Int} {w w':World} {vo vo':Value} {regs:List Int} {s s':RS}
end
end
section
section
variable {k:RK} {p:Pr} {bf bg c:Nat} {nm:ByteArray} {vob vbl vat:Value} {low:Int} {w w':World} {vo vo':Value} {regs:List Int} {s s':RS}
end
end
section
section
variable {k:RK} {p:Pr} {bf bg c:Nat} {nm:ByteArray} {vob vbl vat:Value} {low:Int} {w w':World} {vo vo':Value} {regs:List Int} {s s':RS}
end
end
section
structure Gd (s:RS):Prop where
 mem:qhv s.mem
 i0:0≤s.ins
 i1:s.ins+s.fuel≤10000000
 o1:(s.out.length:Int)+s.fuel≤10000000
 f0:0≤s.fuel
 d0:0≤s.deep
 d1:s.deep≤5000
theorem qji {regs:List Int} (h:∀ x∈regs,0≤x∧x<4294967296) (n:Int):0≤rg regs n∧rg regs n<4294967296:=by
 unfold rg
 by_cases hn:n.toNat<regs.length
 ·have:regs.getD n.toNat 0∈regs:=by simp [List.getD,hn]
  exact h _ this
 ·have:regs.getD n.toNat 0=0:=by simp [List.getD,Nat.le_of_not_lt hn]
  omega
theorem qtq {mem:List Int} (h:qhv mem) (n:Nat) (x:Int) (hx:0≤x∧x<256):qhv (mem.set n x):=by
 intro j
 rcases Nat.lt_or_ge j mem.length with hl|hl
 ·by_cases e:n=j
  ·subst e;simp [List.getD,hl,hx]
  ·have e3:(mem.set n x).getD j 0=mem.getD j 0:=by simp [List.getD,List.getElem?_set_ne e]
   rw [e3];exact h j
 ·have:(mem.set n x).getD j 0=0:=by simp [List.getD,hl]
  omega
theorem qhl {mem:List Int} (h:qhv mem) (n:Nat) (v:Int):∀ i,qhv (ql7 mem n v i)
 | 0=>h
 | i+1=>qtq (qhl h n v i) _ _ ⟨Int.emod_nonneg _ (by decide),Int.emod_lt_of_pos _ (by decide)⟩
def qp9 (regs:List Int) (s:Oc) (o:Option (List Int×Oc)):Prop:=∀ r,o=some r→qhv r.2.mem∧s.ins≤r.2.ins∧r.2.ins≤s.ins+1∧r.2.out.length≤s.out.length+1∧r.1.length=regs.length
theorem qup {regs:List Int} {s:Oc} {q:Prop} [Decidable q] {a b:Option (List Int×Oc)} (h:qp9 regs s a) (h':qp9 regs s b):qp9 regs s (if q then a else b):=by split <;> assumption
theorem qs5 {regs:List Int} {s:Oc}:qp9 regs s none:=fun _ h=>by cases h
theorem qql {regs:List Int} {s:Oc} {x:List Int} {y:Oc} (h:qhv y.mem∧s.ins≤y.ins∧y.ins≤s.ins+1∧y.out.length≤s.out.length+1∧x.length=regs.length):qp9 regs s (some (x,y)):=fun _ h2=>by cases h2;exact h
theorem qs1 {m:Md} {inp:List Int} {p:Pr} {low:Int} {i:In} {regs:List Int} {s:Oc} (hm:qhv s.mem):qp9 regs s (qjt m inp p low i regs s):=by
 unfold qjt
 repeat' apply qup
 all_goals first
  | exact qs5
  | (apply qql
     first
     | exact ⟨hm,Int.le_refl _,by omega,by omega,by simp⟩
     | exact ⟨qhl hm _ _ _,Int.le_refl _,by dsimp only;omega,by dsimp only;omega,by simp⟩
     | exact ⟨hm,Int.le_refl _,by dsimp only;omega,by simp,by simp⟩
     | exact ⟨hm,by dsimp only;omega,Int.le_refl _,by dsimp only;omega,by simp⟩)
end
section
open Go Go.RowKit
structure q3b (p:Pr):Prop where
 p0:0≤p.params
 p6:p.params≤6
 pr:p.params≤p.regs
 r8:p.regs≤8000
 ol:p.objs.length≤400
 b1:1≤p.blks.length
 b4:p.blks.length≤4000
 sl:p.objs.all qdi=true
theorem qe7 {m:Md} {p:Pr} (h:okP m p=true):q3b p:=by
 unfold okP qoo at h
 simp only [Bool.and_eq_true,decide_eq_true_eq] at h
 obtain ⟨⟨h1,h2,h3,h4,h5,h6,h7,h8,h9⟩, -⟩:=h
 exact ⟨h1,h2,h3,h4,h5,h6,h7,h8⟩
theorem qjm {m:Md} {p:Pr} (h:okP m p=true) {b:Nat} (hb:b<p.blks.length):okB m p (p.blks.getD b default)=true:=by
 unfold okP at h
 simp only [Bool.and_eq_true] at h
 have h2:=h.2
 rw [List.all_eq_true] at h2
 exact h2 _ (by simp [List.getD,hb])
theorem qgw {m:Md} {p:Pr} {b:Bk} (h:okB m p b=true) {i:Nat} (hi:i<b.ins.length):okI m p (b.ins.getD i default)=true:=by
 unfold okB at h
 simp only [Bool.and_eq_true] at h
 have h2:=h.1
 rw [List.all_eq_true] at h2
 exact h2 _ (by simp [List.getD,hi])
theorem qi9 {m:Md} {p:Pr} {b:Bk} (h:okB m p b=true):qha p b=true:=by
 unfold okB at h
 simp only [Bool.and_eq_true] at h
 exact h.2
theorem RdI.at' {w:World} {a:Option Addr} {n c:Nat} {l:List Int} (h:RdI w (.slice a n c) l):n=l.length∧∀ k,k<l.length→∃ b o,a=some ⟨b,o,none⟩∧w.cell? ⟨b,o+k,none⟩=some (.int .i64 (l.getD k 0)):=by
 obtain ⟨a',c',e,h1,h2,hc⟩:=h
 simp only [Value.slice.injEq] at e
 obtain ⟨rfl,rfl,rfl⟩:=e
 refine ⟨rfl,fun k hk=>?_⟩
 obtain ⟨b,o,rfl,h0⟩:=hc k hk
 exact ⟨b,o,rfl,by simpa using h0⟩
end
section
section
variable {k:RK} {p:Pr} {bf bg c:Nat} {nm:ByteArray} {vob vbl vat:Value} {low:Int} {w w':World} {vo vo':Value} {regs:List Int} {s s':RS}
end
end
section
theorem qgf {m:Md} (h:okM m=true) {n:Nat} (hn:n<m.procs.length):okP m (pk m n)=true:=by
 unfold okM at h
 simp only [Bool.and_eq_true] at h
 have h2:=h.2.2.2
 rw [List.all_eq_true] at h2
 exact h2 _ (by unfold pk;simp [List.getD,hn])
theorem qpk {l:List Sl} (h:l.all qdi=true):∀ i,i<l.length→0≤(l.getD i default).size∧(l.getD i default).size≤40000:=fun i hi=>by
 rw [List.all_eq_true] at h
 have:=h (l.getD i default) (by simp [List.getD,hi])
 unfold qdi at this
 simp only [Bool.and_eq_true,decide_eq_true_eq] at this
 omega
theorem ql2 {l:List Sl} (h:l.all qdi=true) (hl:l.length≤400):∀ j:Nat,j≤l.length→0≤slE l j∧slE l j≤20000000:=fun j hj=>by
 have:=qw7 l (qpk h) j hj
 have h2:(j:Int)≤400:=by omega
 omega
theorem qsu {m:Md} (h:okM m=true):m.globs.all qdi=true∧m.globs.length≤200∧m.data.length=m.globs.length:=by
 unfold okM qrj at h
 simp only [Bool.and_eq_true,decide_eq_true_eq] at h
 exact ⟨h.1.2.2.1,h.1.2.1,h.1.1⟩
theorem qnz {p:Pr} {r:Int} (h:qby p r true=true):0≤r∧r<p.regs:=by
 unfold qby at h;simpa using h
theorem qyx {p:Pr} {r:Int} (h:qby p r false=true):r= -1:=by
 unfold qby at h;simpa using h
section
variable {k:RK} {p:Pr} {bf bg c:Nat} {nm:ByteArray} {vob vbl vat:Value} {low:Int} {w w':World} {vo vo':Value} {regs:List Int} {s s':RS}
end
end
section
theorem q2m (m:Md) (p:Pr) (v V:Value) (b:Bk) (w:World) (h:LkV w v m p) (hb:BkV w V b) :
  Calls Try.prog 107 #[v,V] w fun e w'=>e=.returned (.bool (qha p b))∧Below w.heap.size w w':=by
 have EB:Hid (∀ n w',Ext w w'→Calls Try.prog 127 #[v,.int .i64 n] w' fun e w''=>e=.returned (.bool (qco p n))∧Below w'.heap.size w' w''):=fun n w' he=>qxb m p v n w' (h.ext he)
 have ER:Hid (∀ r s w',Ext w w'→Calls Try.prog 125 #[v,.int .i64 r,.bool s] w' fun e w''=>e=.returned (.bool (qby p r s))∧Below w'.heap.size w' w''):=fun r s w' he=>qzj m p v r s w' (h.ext he)
 obtain ⟨vg,vd,vp,nm,vo,vb,rfl,⟨ag,cg,rfl, -⟩,⟨ad,cd,rfl, -⟩,⟨ap,cp,rfl, -⟩,⟨ao,co,rfl, -⟩,⟨ab,cb,rfl, -⟩⟩:=h
 obtain ⟨vi,rfl,⟨ai,ci,rfl, -⟩⟩:=hb
 obtain ⟨W0,hW0⟩:∃ W0,W0=(w.alloc (.cells #[.slice ag m.globs.length cg,.slice ad m.data.length cd,.slice ap m.procs.length cp,.int .i64 m.main,.string nm,.bool p.void,.int .i64 p.params,.int .i64 p.regs,.slice ao p.objs.length co,.slice ab p.blks.length cb] 146)).alloc (.cells #[.slice ai b.ins.length ci,.int .i64 b.fin,.int .i64 b.a,.int .i64 b.to,.int .i64 b.els] 51):=⟨_,rfl⟩
 have hz0:W0.heap.size=w.heap.size+2:=by rw [hW0];simp
 have HBX:Hid (∀ w',Below W0.heap.size W0 w'→∀ j:Nat,j<10→w'.cell? ⟨w.heap.size,j,none⟩=#[Value.slice ag m.globs.length cg,.slice ad m.data.length cd,.slice ap m.procs.length cp,.int .i64 m.main,.string nm,.bool p.void,.int .i64 p.params,.int .i64 p.regs,.slice ao p.objs.length co,.slice ab p.blks.length cb][j]?):=fun w' hb j _=>by
  rw [hb.cell (p:=⟨w.heap.size,j,none⟩) (by rw [hz0];simp only;omega),hW0,(qaa (w.alloc (.cells #[.slice ag m.globs.length cg,.slice ad m.data.length cd,.slice ap m.procs.length cp,.int .i64 m.main,.string nm,.bool p.void,.int .i64 p.params,.int .i64 p.regs,.slice ao p.objs.length co,.slice ab p.blks.length cb] 146)) _).cell (p:=⟨w.heap.size,j,none⟩) (by simp)]
  exact qab (heap_alloc_new w _) j
 have HBY:Hid (∀ w',Below W0.heap.size W0 w'→∀ j:Nat,j<5→w'.cell? ⟨w.heap.size+1,j,none⟩=#[Value.slice ai b.ins.length ci,.int .i64 b.fin,.int .i64 b.a,.int .i64 b.to,.int .i64 b.els][j]?):=fun w' hb j _=>by
  rw [hb.cell (p:=⟨w.heap.size+1,j,none⟩) (by rw [hz0];simp only;omega),hW0]
  have:=qab (heap_alloc_new (w.alloc (.cells #[.slice ag m.globs.length cg,.slice ad m.data.length cd,.slice ap m.procs.length cp,.int .i64 m.main,.string nm,.bool p.void,.int .i64 p.params,.int .i64 p.regs,.slice ao p.objs.length co,.slice ab p.blks.length cb] 146)) (.cells #[.slice ai b.ins.length ci,.int .i64 b.fin,.int .i64 b.a,.int .i64 b.to,.int .i64 b.els] 51)) j
  simpa using this
 have HE:Hid (∀ w',Below W0.heap.size W0 w'→Ext w w'):=fun w' hb=>(show Ext w W0 by rw [hW0];exact (Ext.alloc w _).trans (Ext.alloc _ _)).trans (Ext.below hb)
 have HR:Hid (∀ w',Below W0.heap.size W0 w'→Below w.heap.size w w'):=fun w' hb=>(show Below w.heap.size w W0 by rw [hW0];exact (qaa w _).alloc (by simp) _).trans (hb.mono (by omega))
 have B0:Hid (Below W0.heap.size W0 W0):=Below.refl _ _
 have HF:Hid (qha p b=if b.fin=1 then qco p b.to && (b.a == -1 && b.els ==0) else if b.fin=2 then qco p b.to && (qco p b.els && qby p b.a true) else if b.fin=3 then qby p b.a (!p.void) && (b.to ==0 && b.els ==0) else false):=rfl
 have HW0:=qkm hW0
 clear hW0
 by_cases f1:b.fin=1
 ·rw [if_pos f1] at HF
  have g1:(b.fin ==1)=true:=beq_iff_eq.2 f1
  clear f1
  cases hx:qco p b.to
  ·have HV:Hid (qha p b=false):=by show _=_;rw [HF.out,hx];rfl
   have EB1:=qkm (EB.out b.to)
   rw [hx] at EB1
   clear hx
   go_enter Try.func107,Try.ntmps107
   go_wp2_with fail
   rw [←HW0.out]
   refine (EB1.out W0 (HE.out _ B0.out)).mono ?_
   rintro e w1 ⟨rfl,hb1⟩
   have B1:Hid (Below W0.heap.size W0 w1):=B0.out.trans (hb1.mono B0.out.size)
   clear hb1
   have x0:=HBX.out w1 B1.out 0 (by decide)
   have x1:=HBX.out w1 B1.out 1 (by decide)
   have x2:=HBX.out w1 B1.out 2 (by decide)
   have x3:=HBX.out w1 B1.out 3 (by decide)
   have x4:=HBX.out w1 B1.out 4 (by decide)
   have x5:=HBX.out w1 B1.out 5 (by decide)
   have x6:=HBX.out w1 B1.out 6 (by decide)
   have x7:=HBX.out w1 B1.out 7 (by decide)
   have x8:=HBX.out w1 B1.out 8 (by decide)
   have x9:=HBX.out w1 B1.out 9 (by decide)
   simp at x0 x1 x2 x3 x4 x5 x6 x7 x8 x9
   have y0:=HBY.out w1 B1.out 0 (by decide)
   have y1:=HBY.out w1 B1.out 1 (by decide)
   have y2:=HBY.out w1 B1.out 2 (by decide)
   have y3:=HBY.out w1 B1.out 3 (by decide)
   have y4:=HBY.out w1 B1.out 4 (by decide)
   simp at y0 y1 y2 y3 y4
   go_wp2_with fail
   go_ret
   exact ⟨qah HV.out.symm,HR.out _ B1.out⟩
  ·have EB1:=qkm (EB.out b.to)
   rw [hx] at EB1
   cases hy:(b.a == -1)
   ·have HV:Hid (qha p b=false):=by show _=_;rw [HF.out,hx,hy];rfl
    clear hx
    go_enter Try.func107,Try.ntmps107
    go_wp2_with fail
    rw [←HW0.out]
    refine (EB1.out W0 (HE.out _ B0.out)).mono ?_
    rintro e w1 ⟨rfl,hb1⟩
    have B1:Hid (Below W0.heap.size W0 w1):=B0.out.trans (hb1.mono B0.out.size)
    clear hb1
    have x0:=HBX.out w1 B1.out 0 (by decide)
    have x1:=HBX.out w1 B1.out 1 (by decide)
    have x2:=HBX.out w1 B1.out 2 (by decide)
    have x3:=HBX.out w1 B1.out 3 (by decide)
    have x4:=HBX.out w1 B1.out 4 (by decide)
    have x5:=HBX.out w1 B1.out 5 (by decide)
    have x6:=HBX.out w1 B1.out 6 (by decide)
    have x7:=HBX.out w1 B1.out 7 (by decide)
    have x8:=HBX.out w1 B1.out 8 (by decide)
    have x9:=HBX.out w1 B1.out 9 (by decide)
    simp at x0 x1 x2 x3 x4 x5 x6 x7 x8 x9
    have y0:=HBY.out w1 B1.out 0 (by decide)
    have y1:=HBY.out w1 B1.out 1 (by decide)
    have y2:=HBY.out w1 B1.out 2 (by decide)
    have y3:=HBY.out w1 B1.out 3 (by decide)
    have y4:=HBY.out w1 B1.out 4 (by decide)
    simp at y0 y1 y2 y3 y4
    go_wp2_with fail
    go_ret
    exact ⟨qah HV.out.symm,HR.out _ B1.out⟩
   ·have HV:Hid (qha p b=(b.els ==0)):=by show _=_;rw [HF.out,hx,hy];rfl
    clear hx
    go_enter Try.func107,Try.ntmps107
    go_wp2_with fail
    rw [←HW0.out]
    refine (EB1.out W0 (HE.out _ B0.out)).mono ?_
    rintro e w1 ⟨rfl,hb1⟩
    have B1:Hid (Below W0.heap.size W0 w1):=B0.out.trans (hb1.mono B0.out.size)
    clear hb1
    have x0:=HBX.out w1 B1.out 0 (by decide)
    have x1:=HBX.out w1 B1.out 1 (by decide)
    have x2:=HBX.out w1 B1.out 2 (by decide)
    have x3:=HBX.out w1 B1.out 3 (by decide)
    have x4:=HBX.out w1 B1.out 4 (by decide)
    have x5:=HBX.out w1 B1.out 5 (by decide)
    have x6:=HBX.out w1 B1.out 6 (by decide)
    have x7:=HBX.out w1 B1.out 7 (by decide)
    have x8:=HBX.out w1 B1.out 8 (by decide)
    have x9:=HBX.out w1 B1.out 9 (by decide)
    simp at x0 x1 x2 x3 x4 x5 x6 x7 x8 x9
    have y0:=HBY.out w1 B1.out 0 (by decide)
    have y1:=HBY.out w1 B1.out 1 (by decide)
    have y2:=HBY.out w1 B1.out 2 (by decide)
    have y3:=HBY.out w1 B1.out 3 (by decide)
    have y4:=HBY.out w1 B1.out 4 (by decide)
    simp at y0 y1 y2 y3 y4
    go_wp2_with fail
    go_ret
    exact ⟨qah HV.out.symm,HR.out _ B1.out⟩
 ·have g1:(b.fin ==1)=false:=beq_eq_false_iff_ne.2 f1
  rw [if_neg f1] at HF
  clear f1
  by_cases f2:b.fin=2
  ·rw [if_pos f2] at HF
   have g2:(b.fin ==2)=true:=beq_iff_eq.2 f2
   clear f2
   have EB1:=qkm (EB.out b.to)
   have EB2:=qkm (EB.out b.els)
   have ER3:=qkm (ER.out b.a true)
   cases hx:qco p b.to
   ·have HV:Hid (qha p b=false):=by show _=_;rw [HF.out,hx];rfl
    rw [hx] at EB1
    clear hx
    go_enter Try.func107,Try.ntmps107
    go_wp2_with fail
    rw [←HW0.out]
    refine (EB1.out W0 (HE.out _ B0.out)).mono ?_
    rintro e w1 ⟨rfl,hb1⟩
    have B1:Hid (Below W0.heap.size W0 w1):=B0.out.trans (hb1.mono B0.out.size)
    clear hb1
    have x0:=HBX.out w1 B1.out 0 (by decide)
    have x1:=HBX.out w1 B1.out 1 (by decide)
    have x2:=HBX.out w1 B1.out 2 (by decide)
    have x3:=HBX.out w1 B1.out 3 (by decide)
    have x4:=HBX.out w1 B1.out 4 (by decide)
    have x5:=HBX.out w1 B1.out 5 (by decide)
    have x6:=HBX.out w1 B1.out 6 (by decide)
    have x7:=HBX.out w1 B1.out 7 (by decide)
    have x8:=HBX.out w1 B1.out 8 (by decide)
    have x9:=HBX.out w1 B1.out 9 (by decide)
    simp at x0 x1 x2 x3 x4 x5 x6 x7 x8 x9
    have y0:=HBY.out w1 B1.out 0 (by decide)
    have y1:=HBY.out w1 B1.out 1 (by decide)
    have y2:=HBY.out w1 B1.out 2 (by decide)
    have y3:=HBY.out w1 B1.out 3 (by decide)
    have y4:=HBY.out w1 B1.out 4 (by decide)
    simp at y0 y1 y2 y3 y4
    go_wp2_with fail
    go_ret
    exact ⟨qah HV.out.symm,HR.out _ B1.out⟩
   ·rw [hx] at EB1
    cases hy:qco p b.els
    ·have HV:Hid (qha p b=false):=by show _=_;rw [HF.out,hx,hy];rfl
     rw [hy] at EB2
     clear hx hy
     go_enter Try.func107,Try.ntmps107
     go_wp2_with fail
     rw [←HW0.out]
     refine (EB1.out W0 (HE.out _ B0.out)).mono ?_
     rintro e w1 ⟨rfl,hb1⟩
     have B1:Hid (Below W0.heap.size W0 w1):=B0.out.trans (hb1.mono B0.out.size)
     clear hb1
     have x0:=HBX.out w1 B1.out 0 (by decide)
     have x1:=HBX.out w1 B1.out 1 (by decide)
     have x2:=HBX.out w1 B1.out 2 (by decide)
     have x3:=HBX.out w1 B1.out 3 (by decide)
     have x4:=HBX.out w1 B1.out 4 (by decide)
     have x5:=HBX.out w1 B1.out 5 (by decide)
     have x6:=HBX.out w1 B1.out 6 (by decide)
     have x7:=HBX.out w1 B1.out 7 (by decide)
     have x8:=HBX.out w1 B1.out 8 (by decide)
     have x9:=HBX.out w1 B1.out 9 (by decide)
     simp at x0 x1 x2 x3 x4 x5 x6 x7 x8 x9
     have y0:=HBY.out w1 B1.out 0 (by decide)
     have y1:=HBY.out w1 B1.out 1 (by decide)
     have y2:=HBY.out w1 B1.out 2 (by decide)
     have y3:=HBY.out w1 B1.out 3 (by decide)
     have y4:=HBY.out w1 B1.out 4 (by decide)
     simp at y0 y1 y2 y3 y4
     go_wp2_with fail
     skip
     refine (EB2.out w1 (HE.out _ B1.out)).mono ?_
     rintro e w2 ⟨rfl,hb2⟩
     have B2:Hid (Below W0.heap.size W0 w2):=B1.out.trans (hb2.mono B1.out.size)
     clear hb2
     clear x0 x1 x2 x3 x4 x5 x6 x7 x8 x9 y0 y1 y2 y3 y4
     have x0:=HBX.out w2 B2.out 0 (by decide)
     have x1:=HBX.out w2 B2.out 1 (by decide)
     have x2:=HBX.out w2 B2.out 2 (by decide)
     have x3:=HBX.out w2 B2.out 3 (by decide)
     have x4:=HBX.out w2 B2.out 4 (by decide)
     have x5:=HBX.out w2 B2.out 5 (by decide)
     have x6:=HBX.out w2 B2.out 6 (by decide)
     have x7:=HBX.out w2 B2.out 7 (by decide)
     have x8:=HBX.out w2 B2.out 8 (by decide)
     have x9:=HBX.out w2 B2.out 9 (by decide)
     simp at x0 x1 x2 x3 x4 x5 x6 x7 x8 x9
     have y0:=HBY.out w2 B2.out 0 (by decide)
     have y1:=HBY.out w2 B2.out 1 (by decide)
     have y2:=HBY.out w2 B2.out 2 (by decide)
     have y3:=HBY.out w2 B2.out 3 (by decide)
     have y4:=HBY.out w2 B2.out 4 (by decide)
     simp at y0 y1 y2 y3 y4
     go_wp2_with fail
     go_ret
     exact ⟨qah HV.out.symm,HR.out _ B2.out⟩
    ·have HV:Hid (qha p b=qby p b.a true):=by show _=_;rw [HF.out,hx,hy];rfl
     rw [hy] at EB2
     clear hx hy
     go_enter Try.func107,Try.ntmps107
     go_wp2_with fail
     rw [←HW0.out]
     refine (EB1.out W0 (HE.out _ B0.out)).mono ?_
     rintro e w1 ⟨rfl,hb1⟩
     have B1:Hid (Below W0.heap.size W0 w1):=B0.out.trans (hb1.mono B0.out.size)
     clear hb1
     have x0:=HBX.out w1 B1.out 0 (by decide)
     have x1:=HBX.out w1 B1.out 1 (by decide)
     have x2:=HBX.out w1 B1.out 2 (by decide)
     have x3:=HBX.out w1 B1.out 3 (by decide)
     have x4:=HBX.out w1 B1.out 4 (by decide)
     have x5:=HBX.out w1 B1.out 5 (by decide)
     have x6:=HBX.out w1 B1.out 6 (by decide)
     have x7:=HBX.out w1 B1.out 7 (by decide)
     have x8:=HBX.out w1 B1.out 8 (by decide)
     have x9:=HBX.out w1 B1.out 9 (by decide)
     simp at x0 x1 x2 x3 x4 x5 x6 x7 x8 x9
     have y0:=HBY.out w1 B1.out 0 (by decide)
     have y1:=HBY.out w1 B1.out 1 (by decide)
     have y2:=HBY.out w1 B1.out 2 (by decide)
     have y3:=HBY.out w1 B1.out 3 (by decide)
     have y4:=HBY.out w1 B1.out 4 (by decide)
     simp at y0 y1 y2 y3 y4
     go_wp2_with fail
     skip
     refine (EB2.out w1 (HE.out _ B1.out)).mono ?_
     rintro e w2 ⟨rfl,hb2⟩
     have B2:Hid (Below W0.heap.size W0 w2):=B1.out.trans (hb2.mono B1.out.size)
     clear hb2
     clear x0 x1 x2 x3 x4 x5 x6 x7 x8 x9 y0 y1 y2 y3 y4
     have x0:=HBX.out w2 B2.out 0 (by decide)
     have x1:=HBX.out w2 B2.out 1 (by decide)
     have x2:=HBX.out w2 B2.out 2 (by decide)
     have x3:=HBX.out w2 B2.out 3 (by decide)
     have x4:=HBX.out w2 B2.out 4 (by decide)
     have x5:=HBX.out w2 B2.out 5 (by decide)
     have x6:=HBX.out w2 B2.out 6 (by decide)
     have x7:=HBX.out w2 B2.out 7 (by decide)
     have x8:=HBX.out w2 B2.out 8 (by decide)
     have x9:=HBX.out w2 B2.out 9 (by decide)
     simp at x0 x1 x2 x3 x4 x5 x6 x7 x8 x9
     have y0:=HBY.out w2 B2.out 0 (by decide)
     have y1:=HBY.out w2 B2.out 1 (by decide)
     have y2:=HBY.out w2 B2.out 2 (by decide)
     have y3:=HBY.out w2 B2.out 3 (by decide)
     have y4:=HBY.out w2 B2.out 4 (by decide)
     simp at y0 y1 y2 y3 y4
     go_wp2_with fail
     skip
     refine (ER3.out w2 (HE.out _ B2.out)).mono ?_
     rintro e w3 ⟨rfl,hb3⟩
     have B3:Hid (Below W0.heap.size W0 w3):=B2.out.trans (hb3.mono B2.out.size)
     clear hb3
     go_wp2_with fail
     go_ret
     exact ⟨qah HV.out.symm,HR.out _ B3.out⟩
  ·have g2:(b.fin ==2)=false:=beq_eq_false_iff_ne.2 f2
   rw [if_neg f2] at HF
   clear f2
   by_cases f3:b.fin=3
   ·rw [if_pos f3] at HF
    have g3:(b.fin ==3)=true:=beq_iff_eq.2 f3
    clear f3
    have ER1:=qkm (ER.out b.a (!p.void))
    cases hx:qby p b.a (!p.void)
    ·have HV:Hid (qha p b=false):=by show _=_;rw [HF.out,hx];rfl
     rw [hx] at ER1
     clear hx
     go_enter Try.func107,Try.ntmps107
     go_wp2_with fail
     rw [←HW0.out]
     refine (ER1.out W0 (HE.out _ B0.out)).mono ?_
     rintro e w1 ⟨rfl,hb1⟩
     have B1:Hid (Below W0.heap.size W0 w1):=B0.out.trans (hb1.mono B0.out.size)
     clear hb1
     have x0:=HBX.out w1 B1.out 0 (by decide)
     have x1:=HBX.out w1 B1.out 1 (by decide)
     have x2:=HBX.out w1 B1.out 2 (by decide)
     have x3:=HBX.out w1 B1.out 3 (by decide)
     have x4:=HBX.out w1 B1.out 4 (by decide)
     have x5:=HBX.out w1 B1.out 5 (by decide)
     have x6:=HBX.out w1 B1.out 6 (by decide)
     have x7:=HBX.out w1 B1.out 7 (by decide)
     have x8:=HBX.out w1 B1.out 8 (by decide)
     have x9:=HBX.out w1 B1.out 9 (by decide)
     simp at x0 x1 x2 x3 x4 x5 x6 x7 x8 x9
     have y0:=HBY.out w1 B1.out 0 (by decide)
     have y1:=HBY.out w1 B1.out 1 (by decide)
     have y2:=HBY.out w1 B1.out 2 (by decide)
     have y3:=HBY.out w1 B1.out 3 (by decide)
     have y4:=HBY.out w1 B1.out 4 (by decide)
     simp at y0 y1 y2 y3 y4
     go_wp2_with fail
     go_ret
     exact ⟨qah HV.out.symm,HR.out _ B1.out⟩
    ·rw [hx] at ER1
     cases hy:(b.to ==0)
     ·have HV:Hid (qha p b=false):=by show _=_;rw [HF.out,hx,hy];rfl
      clear hx
      go_enter Try.func107,Try.ntmps107
      go_wp2_with fail
      rw [←HW0.out]
      refine (ER1.out W0 (HE.out _ B0.out)).mono ?_
      rintro e w1 ⟨rfl,hb1⟩
      have B1:Hid (Below W0.heap.size W0 w1):=B0.out.trans (hb1.mono B0.out.size)
      clear hb1
      have x0:=HBX.out w1 B1.out 0 (by decide)
      have x1:=HBX.out w1 B1.out 1 (by decide)
      have x2:=HBX.out w1 B1.out 2 (by decide)
      have x3:=HBX.out w1 B1.out 3 (by decide)
      have x4:=HBX.out w1 B1.out 4 (by decide)
      have x5:=HBX.out w1 B1.out 5 (by decide)
      have x6:=HBX.out w1 B1.out 6 (by decide)
      have x7:=HBX.out w1 B1.out 7 (by decide)
      have x8:=HBX.out w1 B1.out 8 (by decide)
      have x9:=HBX.out w1 B1.out 9 (by decide)
      simp at x0 x1 x2 x3 x4 x5 x6 x7 x8 x9
      have y0:=HBY.out w1 B1.out 0 (by decide)
      have y1:=HBY.out w1 B1.out 1 (by decide)
      have y2:=HBY.out w1 B1.out 2 (by decide)
      have y3:=HBY.out w1 B1.out 3 (by decide)
      have y4:=HBY.out w1 B1.out 4 (by decide)
      simp at y0 y1 y2 y3 y4
      go_wp2_with fail
      go_ret
      exact ⟨qah HV.out.symm,HR.out _ B1.out⟩
     ·have HV:Hid (qha p b=(b.els ==0)):=by show _=_;rw [HF.out,hx,hy];rfl
      clear hx
      go_enter Try.func107,Try.ntmps107
      go_wp2_with fail
      rw [←HW0.out]
      refine (ER1.out W0 (HE.out _ B0.out)).mono ?_
      rintro e w1 ⟨rfl,hb1⟩
      have B1:Hid (Below W0.heap.size W0 w1):=B0.out.trans (hb1.mono B0.out.size)
      clear hb1
      have x0:=HBX.out w1 B1.out 0 (by decide)
      have x1:=HBX.out w1 B1.out 1 (by decide)
      have x2:=HBX.out w1 B1.out 2 (by decide)
      have x3:=HBX.out w1 B1.out 3 (by decide)
      have x4:=HBX.out w1 B1.out 4 (by decide)
      have x5:=HBX.out w1 B1.out 5 (by decide)
      have x6:=HBX.out w1 B1.out 6 (by decide)
      have x7:=HBX.out w1 B1.out 7 (by decide)
      have x8:=HBX.out w1 B1.out 8 (by decide)
      have x9:=HBX.out w1 B1.out 9 (by decide)
      simp at x0 x1 x2 x3 x4 x5 x6 x7 x8 x9
      have y0:=HBY.out w1 B1.out 0 (by decide)
      have y1:=HBY.out w1 B1.out 1 (by decide)
      have y2:=HBY.out w1 B1.out 2 (by decide)
      have y3:=HBY.out w1 B1.out 3 (by decide)
      have y4:=HBY.out w1 B1.out 4 (by decide)
      simp at y0 y1 y2 y3 y4
      go_wp2_with fail
      go_ret
      exact ⟨qah HV.out.symm,HR.out _ B1.out⟩
   ·have g3:(b.fin ==3)=false:=beq_eq_false_iff_ne.2 f3
    have HV:Hid (qha p b=false):=by show _=_;rw [HF.out,if_neg f3]
    clear f3
    go_enter Try.func107,Try.ntmps107
    go_wp2_with fail
    rw [←HW0.out]
    go_ret
    exact ⟨qah HV.out.symm,HR.out _ B0.out⟩
end
end Go.Proofs.Ytmcddolkpcgddaa
