/-
What is known stands as numbers: small functions, and rows of blocks and of instructions while they are written.
-/
import Derived.Test.YtkhfddodmjnecaaGreatDoorZFoldDoes41
set_option linter.all false
namespace Go.Proofs.YtkhfddodmjnecaaGreatDoor
section
open Go.ChangeShapes Go.WideShapes Go.ChangeAt Go.RowKit Go.Maps
set_option maxHeartbeats 16000000
set_option maxRecDepth 100000
structure InW (R:Int) (w:World) (S:Nat→Prop) (q:Dkb) (ks c:Nat) (d:Dk) (i:In) (va:Value) (wr:World) (S':Nat→Prop):Prop where
 dk:DkM wr S' q c R d
 st:Stp S w wr S'
 b3:wr.heap[ks]?=some (insO i va)
 b4:wr.heap[ks+1]?=some insZ
 n3:¬ S' ks∧¬ S' (ks+1)
 own:wr.ownsRow ks 3 1 va i.args.length (rowI i.args)
 nv:∀ g,va.ownBlock=some g→¬ S' g
section
variable {R:Int} {w:World} {S:Nat→Prop} {q:Dkb} {ks c:Nat} {d:Dk} {i:In} {va:Value} {wr w2:World} {S' S2:Nat→Prop}
theorem InW.step (h:InW R w S q ks c d i va wr S') {c2:Nat} {d2:Dk} (hd:DkM w2 S2 q c2 R d2) (p:Stp S' wr w2 S2):InW R w S q ks c2 d2 i va w2 S2:=by
 have l3:=(Array.getElem?_eq_some_iff.1 h.b3).1
 have l4:=(Array.getElem?_eq_some_iff.1 h.b4).1
 exact ⟨hd,h.st.trans p,(p.keep _ l3 h.n3.1).trans h.b3,(p.keep _ l4 h.n3.2).trans h.b4,⟨p.away l3 h.n3.1,p.away l4 h.n3.2⟩,ow_same h.own fun g hg=>p.keep g (World.ownsRow.lt h.own g hg).2 (h.nv g hg),fun g hg=>p.away (World.ownsRow.lt h.own g hg).2 (h.nv g hg)⟩
theorem InW.mono (h:InW R w S q ks c d i va wr S') {c2:Nat} (hc:c≤c2):InW R w S q ks c2 d i va wr S':=⟨h.dk.mono hc,h.st,h.b3,h.b4,h.n3,h.own,h.nv⟩
theorem InW.below (h:InW R w S q ks c d i va wr S') (hb:Below wr.heap.size wr w2):InW R w S q ks c d i va w2 S':=h.step (h.dk.below hb) (Stp.of_below hb)
theorem InW.desk (h:InW R w S q ks c d i va wr S') (hc:c+1≤1000000000):InW R w S q ks (c+1) ⟨d.of,d.ky,d.num,d.fs,d.vs,d.mm+1⟩ i va (wr.setCell ⟨q.bd,5,none⟩ (.int .i64 (d.mm+1))) S':=by
 obtain ⟨vf,hx⟩:=h.dk
 have hbut:=But.setCell q.bd 5 wr (.int .i64 (d.mm+1))
 have hm:=hx.mm
 have hv:=hx.vs
 refine h.step ⟨vf,hx.own hbut ?_ (Nat.le_succ c) rfl rfl rfl rfl ⟨hx.B.vs,hx.B.of,hx.B.fs,hx.B.ky,hx.B.num⟩ (by show d.vs≤_;omega) (by show 0≤d.mm+1∧d.mm+1≤_;omega)⟩ ⟨hbut.os,hbut.tape,hbut.output,hbut.size,fun b hb hn=>hbut.block b hb (fun e=>hn (e ▸ hx.s1.1)),fun b hb=>.inl hb⟩
 rw [heap_setCell_same _ _ _ _ _ _ hx.st];rfl
end
theorem put11 {w:World} {b:Nat} {i:In} {va:Value} (H:w.heap[b]?=some (insO i va)) (j:In) (vj:Value):(((((((((((w.setCell ⟨b,0,none⟩ (.int .i64 j.op)).setCell ⟨b,1,none⟩ (.int .i64 j.d)).setCell ⟨b,2,none⟩ (.int .i64 j.a)).setCell ⟨b,3,none⟩ (.int .i64 j.b)).setCell ⟨b,4,none⟩ (.int .i64 j.fn)).setCell ⟨b,5,none⟩ (.int .i64 j.obj)).setCell ⟨b,6,none⟩ (.int .i64 j.off)).setCell ⟨b,7,none⟩ (.int .i64 j.size)).setCell ⟨b,8,none⟩ (.int .u32 j.num)).setCell ⟨b,9,none⟩ vj).setCell ⟨b,10,none⟩ (.bool j.log)).heap[b]?=some (insO j vj)∧But b w (((((((((((w.setCell ⟨b,0,none⟩ (.int .i64 j.op)).setCell ⟨b,1,none⟩ (.int .i64 j.d)).setCell ⟨b,2,none⟩ (.int .i64 j.a)).setCell ⟨b,3,none⟩ (.int .i64 j.b)).setCell ⟨b,4,none⟩ (.int .i64 j.fn)).setCell ⟨b,5,none⟩ (.int .i64 j.obj)).setCell ⟨b,6,none⟩ (.int .i64 j.off)).setCell ⟨b,7,none⟩ (.int .i64 j.size)).setCell ⟨b,8,none⟩ (.int .u32 j.num)).setCell ⟨b,9,none⟩ vj).setCell ⟨b,10,none⟩ (.bool j.log)):=by
 unfold insO at H ⊢
 have h1:(w.setCell ⟨b,0,none⟩ (.int .i64 j.op)).heap[b]?=some (.cells #[.int .i64 j.op,.int .i64 i.d,.int .i64 i.a,.int .i64 i.b,.int .i64 i.fn,.int .i64 i.obj,.int .i64 i.off,.int .i64 i.size,.int .u32 i.num,va,.bool i.log] 48):=heap_setCell_same _ b 0 _ _ (.int .i64 j.op) H
 have h2:((w.setCell ⟨b,0,none⟩ (.int .i64 j.op)).setCell ⟨b,1,none⟩ (.int .i64 j.d)).heap[b]?=some (.cells #[.int .i64 j.op,.int .i64 j.d,.int .i64 i.a,.int .i64 i.b,.int .i64 i.fn,.int .i64 i.obj,.int .i64 i.off,.int .i64 i.size,.int .u32 i.num,va,.bool i.log] 48):=heap_setCell_same _ b 1 _ _ (.int .i64 j.d) h1
 have h3:(((w.setCell ⟨b,0,none⟩ (.int .i64 j.op)).setCell ⟨b,1,none⟩ (.int .i64 j.d)).setCell ⟨b,2,none⟩ (.int .i64 j.a)).heap[b]?=some (.cells #[.int .i64 j.op,.int .i64 j.d,.int .i64 j.a,.int .i64 i.b,.int .i64 i.fn,.int .i64 i.obj,.int .i64 i.off,.int .i64 i.size,.int .u32 i.num,va,.bool i.log] 48):=heap_setCell_same _ b 2 _ _ (.int .i64 j.a) h2
 have h4:((((w.setCell ⟨b,0,none⟩ (.int .i64 j.op)).setCell ⟨b,1,none⟩ (.int .i64 j.d)).setCell ⟨b,2,none⟩ (.int .i64 j.a)).setCell ⟨b,3,none⟩ (.int .i64 j.b)).heap[b]?=some (.cells #[.int .i64 j.op,.int .i64 j.d,.int .i64 j.a,.int .i64 j.b,.int .i64 i.fn,.int .i64 i.obj,.int .i64 i.off,.int .i64 i.size,.int .u32 i.num,va,.bool i.log] 48):=heap_setCell_same _ b 3 _ _ (.int .i64 j.b) h3
 have h5:(((((w.setCell ⟨b,0,none⟩ (.int .i64 j.op)).setCell ⟨b,1,none⟩ (.int .i64 j.d)).setCell ⟨b,2,none⟩ (.int .i64 j.a)).setCell ⟨b,3,none⟩ (.int .i64 j.b)).setCell ⟨b,4,none⟩ (.int .i64 j.fn)).heap[b]?=some (.cells #[.int .i64 j.op,.int .i64 j.d,.int .i64 j.a,.int .i64 j.b,.int .i64 j.fn,.int .i64 i.obj,.int .i64 i.off,.int .i64 i.size,.int .u32 i.num,va,.bool i.log] 48):=heap_setCell_same _ b 4 _ _ (.int .i64 j.fn) h4
 have h6:((((((w.setCell ⟨b,0,none⟩ (.int .i64 j.op)).setCell ⟨b,1,none⟩ (.int .i64 j.d)).setCell ⟨b,2,none⟩ (.int .i64 j.a)).setCell ⟨b,3,none⟩ (.int .i64 j.b)).setCell ⟨b,4,none⟩ (.int .i64 j.fn)).setCell ⟨b,5,none⟩ (.int .i64 j.obj)).heap[b]?=some (.cells #[.int .i64 j.op,.int .i64 j.d,.int .i64 j.a,.int .i64 j.b,.int .i64 j.fn,.int .i64 j.obj,.int .i64 i.off,.int .i64 i.size,.int .u32 i.num,va,.bool i.log] 48):=heap_setCell_same _ b 5 _ _ (.int .i64 j.obj) h5
 have h7:(((((((w.setCell ⟨b,0,none⟩ (.int .i64 j.op)).setCell ⟨b,1,none⟩ (.int .i64 j.d)).setCell ⟨b,2,none⟩ (.int .i64 j.a)).setCell ⟨b,3,none⟩ (.int .i64 j.b)).setCell ⟨b,4,none⟩ (.int .i64 j.fn)).setCell ⟨b,5,none⟩ (.int .i64 j.obj)).setCell ⟨b,6,none⟩ (.int .i64 j.off)).heap[b]?=some (.cells #[.int .i64 j.op,.int .i64 j.d,.int .i64 j.a,.int .i64 j.b,.int .i64 j.fn,.int .i64 j.obj,.int .i64 j.off,.int .i64 i.size,.int .u32 i.num,va,.bool i.log] 48):=heap_setCell_same _ b 6 _ _ (.int .i64 j.off) h6
 have h8:((((((((w.setCell ⟨b,0,none⟩ (.int .i64 j.op)).setCell ⟨b,1,none⟩ (.int .i64 j.d)).setCell ⟨b,2,none⟩ (.int .i64 j.a)).setCell ⟨b,3,none⟩ (.int .i64 j.b)).setCell ⟨b,4,none⟩ (.int .i64 j.fn)).setCell ⟨b,5,none⟩ (.int .i64 j.obj)).setCell ⟨b,6,none⟩ (.int .i64 j.off)).setCell ⟨b,7,none⟩ (.int .i64 j.size)).heap[b]?=some (.cells #[.int .i64 j.op,.int .i64 j.d,.int .i64 j.a,.int .i64 j.b,.int .i64 j.fn,.int .i64 j.obj,.int .i64 j.off,.int .i64 j.size,.int .u32 i.num,va,.bool i.log] 48):=heap_setCell_same _ b 7 _ _ (.int .i64 j.size) h7
 have h9:(((((((((w.setCell ⟨b,0,none⟩ (.int .i64 j.op)).setCell ⟨b,1,none⟩ (.int .i64 j.d)).setCell ⟨b,2,none⟩ (.int .i64 j.a)).setCell ⟨b,3,none⟩ (.int .i64 j.b)).setCell ⟨b,4,none⟩ (.int .i64 j.fn)).setCell ⟨b,5,none⟩ (.int .i64 j.obj)).setCell ⟨b,6,none⟩ (.int .i64 j.off)).setCell ⟨b,7,none⟩ (.int .i64 j.size)).setCell ⟨b,8,none⟩ (.int .u32 j.num)).heap[b]?=some (.cells #[.int .i64 j.op,.int .i64 j.d,.int .i64 j.a,.int .i64 j.b,.int .i64 j.fn,.int .i64 j.obj,.int .i64 j.off,.int .i64 j.size,.int .u32 j.num,va,.bool i.log] 48):=heap_setCell_same _ b 8 _ _ (.int .u32 j.num) h8
 have h10:((((((((((w.setCell ⟨b,0,none⟩ (.int .i64 j.op)).setCell ⟨b,1,none⟩ (.int .i64 j.d)).setCell ⟨b,2,none⟩ (.int .i64 j.a)).setCell ⟨b,3,none⟩ (.int .i64 j.b)).setCell ⟨b,4,none⟩ (.int .i64 j.fn)).setCell ⟨b,5,none⟩ (.int .i64 j.obj)).setCell ⟨b,6,none⟩ (.int .i64 j.off)).setCell ⟨b,7,none⟩ (.int .i64 j.size)).setCell ⟨b,8,none⟩ (.int .u32 j.num)).setCell ⟨b,9,none⟩ vj).heap[b]?=some (.cells #[.int .i64 j.op,.int .i64 j.d,.int .i64 j.a,.int .i64 j.b,.int .i64 j.fn,.int .i64 j.obj,.int .i64 j.off,.int .i64 j.size,.int .u32 j.num,vj,.bool i.log] 48):=heap_setCell_same _ b 9 _ _ vj h9
 have h11:(((((((((((w.setCell ⟨b,0,none⟩ (.int .i64 j.op)).setCell ⟨b,1,none⟩ (.int .i64 j.d)).setCell ⟨b,2,none⟩ (.int .i64 j.a)).setCell ⟨b,3,none⟩ (.int .i64 j.b)).setCell ⟨b,4,none⟩ (.int .i64 j.fn)).setCell ⟨b,5,none⟩ (.int .i64 j.obj)).setCell ⟨b,6,none⟩ (.int .i64 j.off)).setCell ⟨b,7,none⟩ (.int .i64 j.size)).setCell ⟨b,8,none⟩ (.int .u32 j.num)).setCell ⟨b,9,none⟩ vj).setCell ⟨b,10,none⟩ (.bool j.log)).heap[b]?=some (.cells #[.int .i64 j.op,.int .i64 j.d,.int .i64 j.a,.int .i64 j.b,.int .i64 j.fn,.int .i64 j.obj,.int .i64 j.off,.int .i64 j.size,.int .u32 j.num,vj,.bool j.log] 48):=heap_setCell_same _ b 10 _ _ (.bool j.log) h10
 exact ⟨h11,((((((((((But.setCell _ _ _ _).trans (But.setCell _ _ _ _)).trans (But.setCell _ _ _ _)).trans (But.setCell _ _ _ _)).trans (But.setCell _ _ _ _)).trans (But.setCell _ _ _ _)).trans (But.setCell _ _ _ _)).trans (But.setCell _ _ _ _)).trans (But.setCell _ _ _ _)).trans (But.setCell _ _ _ _)).trans (But.setCell _ _ _ _)⟩
def restD (d:Dk) (j:In):(In×Bool)×Dk:=if defI j= -1 then ((j,true),putD (turnD d j.op) j) else setsD (putD (turnD d j.op) j) j
theorem insD_rest (d:Dk) (i:In):insD d i=restD (readsD d i).2 (readsD d i).1:=rfl
def OutQ (S:Nat→Prop) (q:Dkb) (c:Nat) (R:Int) (r:(In×Bool)×Dk) (w:World) (e:Ending) (w':World):Prop:=∃ va' S',e=.returned (.tuple #[aggI r.1.1 va',.bool r.1.2])∧w'.ownsRow w.heap.size 3 1 va' r.1.1.args.length (rowI r.1.1.args)∧(∀ g,va'.ownBlock=some g→¬ S' g)∧DkM w' S' q c R r.2∧Stp S w w' S'
theorem ToOk.reads {R:Int} {d:Dk} {i:In} (h:ToOk R i) (hr:RdOk R (readsD d i).1):ToOk R (readsD d i).1:=by
 refine ⟨hr.num,h.fn,h.obj,h.off,h.size,fun ho=>?_,fun ho=>?_⟩
 ·have h1:=hr.a
  have h2:=hr.useA (by omega)
  omega
 ·have h1:=hr.b
  have h2:=hr.useB (by omega)
  omega
theorem InW.fin {R:Int} {w:World} {S:Nat→Prop} {q:Dkb} {c c':Nat} {d:Dk} {i:In} {va:Value} {wr wz:World} {S':Nat→Prop} (h:InW R w S q w.heap.size c d i va wr S') (hb:But (w.heap.size+1) wr wz) (hc:c≤c') (need:Bool):OutQ S q c' R ((i,need),d) w (.returned (.tuple #[aggI i va,.bool need])) wz :=
 ⟨va,S',rfl,ow_same h.own fun g hg=>hb.block g (World.ownsRow.lt h.own g hg).2 fun e=>(row_not h.own h.b4 (by decide)) (by rw [hg,e]),h.nv,(h.dk.but hb h.n3.2).mono hc,h.st.but hb (by omega)⟩
structure BxW (R:Int) (w:World) (S:Nat→Prop) (q:Dkb) (c:Nat) (d:Dk) (o:In) (vo:Value) (bx:Nat) (wr:World) (S':Nat→Prop):Prop where
 dk:DkM wr S' q c R d
 st:Stp S w wr S'
 bb:wr.heap[bx]?=some (insO o vo)
 b4:wr.heap[w.heap.size+1]?=some insZ
 n3:¬ S' bx∧¬ S' (w.heap.size+1)
 ne:w.heap.size+1<bx
 own:wr.ownsRow w.heap.size 3 1 vo o.args.length (rowI o.args)
 nv:∀ g,vo.ownBlock=some g→¬ S' g
section
variable {R:Int} {w:World} {S:Nat→Prop} {q:Dkb} {c:Nat} {d:Dk} {o:In} {vo:Value} {bx:Nat} {wr w2:World} {S' S2:Nat→Prop}
theorem BxW.step (h:BxW R w S q c d o vo bx wr S') {c2:Nat} {d2:Dk} (hd:DkM w2 S2 q c2 R d2) (p:Stp S' wr w2 S2):BxW R w S q c2 d2 o vo bx w2 S2:=by
 have l3:=(Array.getElem?_eq_some_iff.1 h.bb).1
 have l4:=(Array.getElem?_eq_some_iff.1 h.b4).1
 exact ⟨hd,h.st.trans p,(p.keep _ l3 h.n3.1).trans h.bb,(p.keep _ l4 h.n3.2).trans h.b4,⟨p.away l3 h.n3.1,p.away l4 h.n3.2⟩,h.ne,ow_same h.own fun g hg=>p.keep g (World.ownsRow.lt h.own g hg).2 (h.nv g hg),fun g hg=>p.away (World.ownsRow.lt h.own g hg).2 (h.nv g hg)⟩
theorem BxW.below (h:BxW R w S q c d o vo bx wr S') (hb:Below wr.heap.size wr w2):BxW R w S q c d o vo bx w2 S':=h.step (h.dk.below hb) (Stp.of_below hb)
theorem BxW.lay (h:BxW R w S q c d o vo bx wr S') {o':In} {vo':Value} (hb:But bx wr w2) (hx:w2.heap[bx]?=some (insO o' vo')) (ha:o'.args=[]) (hv:vo'=.slice none 0 0):BxW R w S q c d o' vo' bx w2 S':=by
 have l4:=(Array.getElem?_eq_some_iff.1 h.b4).1
 have hne:=h.ne
 refine ⟨h.dk.but hb h.n3.1,h.st.but hb (by omega),hx,(hb.block _ l4 (by omega)).trans h.b4,h.n3,h.ne,?_,fun g hg=>?_⟩
 ·rw [ha,hv];exact World.ownsRow_nil _ _ _ _
 ·rw [hv] at hg;cases hg
theorem BxW.fin {c':Nat} {wz:World} (h:BxW R w S q c d o vo bx wr S') (hb:But (w.heap.size+1) wr wz) (hc:c≤c'):OutQ S q c' R ((o,true),d) w (.returned (.tuple #[aggI o vo,.bool true])) wz :=
 ⟨vo,S',rfl,ow_same h.own fun g hg=>hb.block g (World.ownsRow.lt h.own g hg).2 fun e=>(row_not h.own h.b4 (by decide)) (by rw [hg,e]),h.nv,(h.dk.but hb h.n3.2).mono hc,h.st.but hb (by omega)⟩
theorem InW.copy {va:Value} (h:InW R w S q w.heap.size c d o va wr S'):BxW R w S q c d o va wr.heap.size (wr.alloc (insO o va)) S':=by
 have hb:Below wr.heap.size wr (wr.alloc (insO o va)):=below_alloc wr _
 have h2:=h.below hb
 have l4:=(Array.getElem?_eq_some_iff.1 h.b4).1
 exact ⟨h2.dk,h2.st,heap_alloc_new wr _,h2.b4,⟨fun e=>by have:=h.dk.lt e;omega,h2.n3.2⟩,l4,h2.own,h2.nv⟩
end
end
section
open Go.ChangeShapes Go.WideShapes Go.ChangeAt Go.RowKit
set_option maxHeartbeats 4000000
set_option maxRecDepth 100000
end
section
open Go.ChangeShapes Go.WideShapes Go.ChangeAt Go.RowKit
set_option maxHeartbeats 4000000
set_option maxRecDepth 100000
end
section
open Go.ChangeShapes Go.WideShapes Go.ChangeAt Go.RowKit
set_option maxHeartbeats 4000000
set_option maxRecDepth 100000
end
section
open Go.ChangeShapes Go.WideShapes Go.ChangeAt Go.RowKit
set_option maxHeartbeats 4000000
set_option maxRecDepth 100000
attribute [local go_sem] Oper.semAt_some
section
variable {W0 w w':World} {gP B n:Nat} {vs:List Value} {rows:List (List Int)}
end
section
variable {W0 w4 W W':World} {gP lo n:Nat} {ds:List Nat} {F:Nat→List Int} {k:Nat} {r:List Int} {pre:List EX} {vs:List Value}
end
end
section
open Go.ChangeShapes Go.WideShapes Go.ChangeAt Go.RowKit
set_option maxHeartbeats 4000000
set_option maxRecDepth 100000
def OwnC (w:World) (B:Nat) (v:Value) (L:List (In×Value)):Prop:=w.ownsRow B 48 11 v L.length (L.flatMap inCells)
theorem flat_atI (L:List (In×Value)):∀ (k j:Nat),k<L.length→j<11→(L.flatMap inCells)[k*11+j]?=(inCells (L.getD k default))[j]?:=by
 induction L with
 | nil=>intro k j h;simp at h
 | cons y L ih=>
  intro k j hk hj
  rw [List.flatMap_cons]
  cases k with
  | zero=>rw [List.getElem?_append_left (by simp [inCells];omega)];simp
  | succ k=>
   rw [List.getElem?_append_right (by simp [inCells];omega)]
   have:=ih k j (by simpa using hk) hj
   simp only [List.getD_cons_succ]
   rw [←this]
   congr 1
   simp [inCells]
   omega
/-! ### slices.DeleteFunc over instructions -/
def keepX (P:List Int) (L:List (In×Value)) (j:Nat):List (In×Value):=((List.range j).filter fun t:Nat=> !hasL P (t:Int)).map fun t=>L.getD t default
theorem OwnC.lay {w:World} {B g c n:Nat} {L:List (In×Value)} (h:OwnC w B (.slice (some ⟨g,0,none⟩) n c) L) {i:Nat} (hi:i<L.length) (x:In×Value) (hn:n=L.length) :
  OwnC (((((((((((w.setCell ⟨g,i*11,none⟩ (.int .i64 x.1.op)).setCell ⟨g,i*11+1,none⟩ (.int .i64 x.1.d)).setCell ⟨g,i*11+2,none⟩ (.int .i64 x.1.a)).setCell ⟨g,i*11+3,none⟩ (.int .i64 x.1.b)).setCell ⟨g,i*11+4,none⟩ (.int .i64 x.1.fn)).setCell ⟨g,i*11+5,none⟩ (.int .i64 x.1.obj)).setCell ⟨g,i*11+6,none⟩ (.int .i64 x.1.off)).setCell ⟨g,i*11+7,none⟩ (.int .i64 x.1.size)).setCell ⟨g,i*11+8,none⟩ (.int .u32 x.1.num)).setCell ⟨g,i*11+9,none⟩ x.2).setCell ⟨g,i*11+10,none⟩ (.bool x.1.log)) B (.slice (some ⟨g,0,none⟩) n c) (L.set i x):=by
 subst hn
 unfold OwnC at *
 have st:=fun (w:World) (xs:List Value) (hw:w.ownsRow B 48 11 (.slice (some ⟨g,0,none⟩) L.length c) L.length xs) (j:Nat) (u:Value)=>(World.ownsRow.stored hw j u).1
 have h10:=st _ _ (st _ _ (st _ _ (st _ _ (st _ _ (st _ _ (st _ _ (st _ _ (st _ _ (st _ _ (st _ _ h (i*11) (.int .i64 x.1.op)) (i*11+1) (.int .i64 x.1.d)) (i*11+2) (.int .i64 x.1.a)) (i*11+3) (.int .i64 x.1.b)) (i*11+4) (.int .i64 x.1.fn)) (i*11+5) (.int .i64 x.1.obj)) (i*11+6) (.int .i64 x.1.off)) (i*11+7) (.int .i64 x.1.size)) (i*11+8) (.int .u32 x.1.num)) (i*11+9) x.2) (i*11+10) (.bool x.1.log)
 rw [List.length_set]
 have e:(((((((((((L.flatMap inCells).set (i*11) (.int .i64 x.1.op)).set (i*11+1) (.int .i64 x.1.d)).set (i*11+2) (.int .i64 x.1.a)).set (i*11+3) (.int .i64 x.1.b)).set (i*11+4) (.int .i64 x.1.fn)).set (i*11+5) (.int .i64 x.1.obj)).set (i*11+6) (.int .i64 x.1.off)).set (i*11+7) (.int .i64 x.1.size)).set (i*11+8) (.int .u32 x.1.num)).set (i*11+9) x.2).set (i*11+10) (.bool x.1.log)=(L.set i x).flatMap inCells:=by
  apply List.ext_getElem?
  intro t
  have hlen:∀ L:List (In×Value),(L.flatMap inCells).length=L.length*11:=fun L=>flat_len inCells 11 (fun _=>rfl) L
  by_cases ht:t<L.length*11
  ·obtain ⟨q,r,hr,rfl⟩:∃ q r,r<11∧t=q*11+r:=⟨t / 11,t % 11,Nat.mod_lt _ (by decide),by omega⟩
   have hq:q<L.length:=by omega
   rw [flat_atI (L.set i x) q r (by simpa using hq) hr]
   by_cases e:q=i
   ·subst e
    have e1:(L.set q x).getD q default=x:=by simp [List.getD,hq]
    rw [e1]
    have hlt:∀ j,j<11→q*11+j<(L.flatMap inCells).length:=fun j hj=>by rw [hlen];omega
    have hr2:r=0∨r=1∨r=2∨r=3∨r=4∨r=5∨r=6∨r=7∨r=8∨r=9∨r=10:=by omega
    have l0:=hlt 0 (by decide)
    rcases hr2 with rfl|rfl|rfl|rfl|rfl|rfl|rfl|rfl|rfl|rfl|rfl <;> simp [List.getElem?_set,inCells,hlen] <;> omega
   ·have e1:(L.set i x).getD q default=L.getD q default:=by simp [List.getD,List.getElem?_set,Ne.symm e]
    rw [e1,←flat_atI L q r hq hr]
    have hne:∀ j,j<11→i*11+j≠q*11+r:=fun j hj h=>e (by omega)
    have hne0:=hne 0 (by decide)
    simp only [Nat.add_zero] at hne0
    simp [List.getElem?_set,hne0,hne 1 (by decide),hne 2 (by decide),hne 3 (by decide),hne 4 (by decide),hne 5 (by decide),hne 6 (by decide),hne 7 (by decide),hne 8 (by decide),hne 9 (by decide),hne 10 (by decide)]
  ·rw [List.getElem?_eq_none (by simp [hlen];omega),List.getElem?_eq_none (by simp [hlen];omega)]
 rw [←e]
 exact h10
end
section
open Go.ChangeShapes Go.WideShapes Go.ChangeAt Go.RowKit
set_option maxHeartbeats 4000000
set_option maxRecDepth 100000
theorem constant_c (d n:Int) (w:World) :
  Calls Tryz.prog 31 #[.int .i64 d,.int .u32 n] w fun e w'=>e=.returned (.agg #[.int .i64 1,.int .i64 d,.int .i64 (-1),.int .i64 (-1),.int .i64 0,.int .i64 0,.int .i64 0,.int .i64 0,.int .u32 n,.slice none 0 0,.bool false])∧Below w.heap.size w w':=by
 go_enter Tryz.func31,Tryz.ntmps31
 go_wp2_with fail
 refine bodyPost_ret (v:=.agg #[.int .i64 1,.int .i64 d,.int .i64 (-1),.int .i64 (-1),.int .i64 0,.int .i64 0,.int .i64 0,.int .i64 0,.int .u32 n,.slice none 0 0,.bool false]) (by simp [results,Tryz.results31,go_sem]) rfl ?_
 exact ⟨rfl,below_alloc _ _⟩
theorem jumped_c (a:Option Addr) (m c:Nat) (fin ba t3 els n:Int) (w:World) :
  Calls Tryz.prog 32 #[.agg #[.slice a m c,.int .i64 fin,.int .i64 ba,.int .i64 t3,.int .i64 els],.int .u32 n] w fun e w'=>e=.returned (.agg #[.slice a m c,.int .i64 1,.int .i64 (-1),.int .i64 (if n=0 then els else t3),.int .i64 0])∧Below w.heap.size w w':=by
 by_cases hn:n=0
 ·have g:(n ==0)=true:=beq_iff_eq.2 hn
  rw [if_pos hn]
  clear hn
  go_enter Tryz.func32,Tryz.ntmps32
  go_wp2_with fail
  refine bodyPost_ret (v:=.agg #[.slice a m c,.int .i64 1,.int .i64 (-1),.int .i64 els,.int .i64 0]) (by simp [results,Tryz.results32,go_sem]) rfl ?_
  exact ⟨rfl,(below_alloc w _).alloc (by simp) _⟩
 ·have g:(n ==0)=false:=beq_eq_false_iff_ne.2 hn
  rw [if_neg hn]
  clear hn
  go_enter Tryz.func32,Tryz.ntmps32
  go_wp2_with fail
  refine bodyPost_ret (v:=.agg #[.slice a m c,.int .i64 1,.int .i64 (-1),.int .i64 t3,.int .i64 0]) (by simp [results,Tryz.results32,go_sem]) rfl ?_
  exact ⟨rfl,(below_alloc w _).alloc (by simp) _⟩
def KrP (w0 w:World) (g:Nat) (x:Bk×Value):Prop:=RdIns w0 x.2 x.1.ins∨∃ LI:List (In×Value),LI.map Prod.fst=x.1.ins∧(∀ y∈LI,RdI w0 y.2 y.1.args)∧w.ownsRow 0 48 11 x.2 LI.length (LI.flatMap inCells)∧x.2.ownBlock≠some g
theorem KrP.rd {w0 w:World} {g:Nat} {x:Bk×Value} (h:KrP w0 w g x) (he:Ext w0 w):RdIns w x.2 x.1.ins:=by
 rcases h with h|⟨LI,h1,h2,h3, -⟩
 ·exact h.ext he
 ·rw [←h1]
  exact OwnIn.rd (B:=0) ⟨h3,fun y hy=>(h2 y hy).ext he⟩
theorem KrP.keep {w0 w w':World} {g b:Nat} {x:Bk×Value} (h:KrP w0 w g x) (hb:But b w w') (hn:x.2.ownBlock≠some b∨∃ cs ty,w.heap[b]?=some (.cells cs ty)∧ty≠48):KrP w0 w' g x:=by
 rcases h with h|⟨LI,h1,h2,h3,h4⟩
 ·exact .inl h
 ·refine .inr ⟨LI,h1,h2,World.ownsRow.kept h3 (but_grownK hb) (.inr ?_),h4⟩
  rcases hn with h|⟨cs,ty,hc,ht⟩
  ·exact h
  ·exact row_not h3 hc (Ne.symm ht)
theorem KrP.below {w0 w w':World} {g:Nat} {x:Bk×Value} (h:KrP w0 w g x) (hb:Below w.heap.size w w'):KrP w0 w' g x:=by
 rcases h with h|⟨LI,h1,h2,h3,h4⟩
 ·exact .inl h
 ·exact .inr ⟨LI,h1,h2,own_below h3 hb,h4⟩
theorem KrP.other {w0 w:World} {g g':Nat} {x:Bk×Value} (h:KrP w0 w g x) (hn:w.heap.size≤g'∨∃ cs ty,w.heap[g']?=some (.cells cs ty)∧ty≠48):KrP w0 w g' x:=by
 rcases h with h|⟨LI,h1,h2,h3,h4⟩
 ·exact .inl h
 ·refine .inr ⟨LI,h1,h2,h3,?_⟩
  rcases hn with h|⟨cs,ty,hc,ht⟩
  ·intro e
   have:=(own_lt h3 e).2
   omega
  ·exact row_not h3 hc (Ne.symm ht)
structure KbM (w0:World) (B:Nat) (w:World) (gB cB:Nat) (L:List (Bk×Value)) (k g:Nat):Prop where
 own:w.ownsRow B 43 5 (.slice (some ⟨gB,0,none⟩) L.length cB) L.length (L.flatMap bkCells)
 ins:∀ j,j<L.length→j≠k→KrP w0 w g (L.getD j default)
theorem KbM.below {w0 w w':World} {B gB cB k g:Nat} {L:List (Bk×Value)} (h:KbM w0 B w gB cB L k g) (hb:Below w.heap.size w w'):KbM w0 B w' gB cB L k g:=⟨own_below h.own hb,fun j hj hk=>(h.ins j hj hk).below hb⟩
theorem KbM.heap {w0 w:World} {B gB cB k g:Nat} {L:List (Bk×Value)} (h:KbM w0 B w gB cB L k g) (hl:0<L.length):B≤gB∧∃ cs,w.heap[gB]?=some (.cells cs 43):=own_heap h.own hl
theorem KbM.keep {w0 w w':World} {B gB cB k g b:Nat} {L:List (Bk×Value)} (h:KbM w0 B w gB cB L k g) (hb:But b w w') {cs:Array Value} {ty:TypeId} (hc:w.heap[b]?=some (.cells cs ty)) (h1:ty≠43) (h2:ty≠48∨∀ j,j<L.length→j≠k→(L.getD j default).2.ownBlock≠some b∨RdIns w0 (L.getD j default).2 (L.getD j default).1.ins):KbM w0 B w' gB cB L k g:=by
 refine ⟨World.ownsRow.kept h.own (but_grownK hb) (.inr (row_not h.own hc (Ne.symm h1))),fun j hj hk=>?_⟩
 have hk':=h.ins j hj hk
 rcases h2 with h2|h2
 ·exact hk'.keep hb (.inr ⟨cs,ty,hc,h2⟩)
 ·rcases h2 j hj hk with e|e
  ·exact hk'.keep hb (.inl e)
  ·exact .inl e
theorem KbM.away {w0 w:World} {B gB cB k g:Nat} {L:List (Bk×Value)} (h:KbM w0 B w gB cB L k g) {j:Nat} (hj:j<L.length) (hk:j≠k):(L.getD j default).2.ownBlock≠some g∨RdIns w0 (L.getD j default).2 (L.getD j default).1.ins:=by
 rcases h.ins j hj hk with q|⟨LI,h1,h2,h3,h4⟩
 ·exact .inr q
 ·exact .inl h4
theorem KbM.at {w0 w:World} {B gB cB k g:Nat} {L:List (Bk×Value)} (h:KbM w0 B w gB cB L k g) {j:Nat} (hj:j<L.length):w.cell? ⟨gB,j*5,none⟩=some (L.getD j default).2∧w.cell? ⟨gB,j*5+1,none⟩=some (.int .i64 (L.getD j default).1.fin)∧w.cell? ⟨gB,j*5+2,none⟩=some (.int .i64 (L.getD j default).1.a)∧w.cell? ⟨gB,j*5+3,none⟩=some (.int .i64 (L.getD j default).1.to)∧w.cell? ⟨gB,j*5+4,none⟩=some (.int .i64 (L.getD j default).1.els)∧(∀ o,w.frozen? ⟨gB,o,none⟩=false)∧gB<w.heap.size:=by
 have f:=fun r (hr:r<5)=>flat_at bkCells 5 (fun _=>rfl) L j r hj hr
 have c:=fun r (hr:r<5)=>(World.ownsRow.cellAt h.own (j*5+r) (by omega)).trans (f r hr)
 obtain ⟨-,cs,hc⟩:=h.heap (by omega)
 exact ⟨c 0 (by decide),c 1 (by decide),c 2 (by decide),c 3 (by decide),c 4 (by decide),fun o=>frozen_of_heap hc o,(Array.getElem?_eq_some_iff.1 hc).1⟩
theorem KbM.put {w0 w:World} {B gB cB k g:Nat} {L:List (Bk×Value)} (h:KbM w0 B w gB cB L k g) (hk:k<L.length) {j:Nat} (hj:j<5) {u:Value} {x:Bk×Value} (hx:bkCells x=(bkCells (L.getD k default)).set j u):KbM w0 B (w.setCell ⟨gB,k*5+j,none⟩ u) gB cB (L.set k x) k g:=by
 obtain ⟨-,cs,hc⟩:=h.heap (by omega)
 have ho:=(World.ownsRow.stored h.own (k*5+j) u).1
 rw [flat_setS bkCells 5 (fun _=>rfl) L k j u x hk hj hx] at ho
 refine ⟨by rw [List.length_set];exact ho,fun i hi hne=>?_⟩
 rw [List.length_set] at hi
 rw [show (L.set k x).getD i default=L.getD i default by simp [List.getD,List.getElem?_set,Ne.symm hne]]
 exact (h.ins i hi hne).keep (But.setCell gB _ w u) (.inr ⟨cs,_,hc,by decide⟩)
theorem KbM.rd {w0 w:World} {B gB cB g:Nat} {L:List (Bk×Value)} (h:KbM w0 B w gB cB L L.length g) (he:Ext w0 w):RdBks w (.slice (some ⟨gB,0,none⟩) L.length cB) (L.map Prod.fst) :=
 OwnBk.rd (B:=B) ⟨h.own,fun x hx=>by
  obtain ⟨i,hi,rfl⟩:=List.getElem_of_mem hx
  have:=h.ins i hi (by omega)
  rw [show L.getD i default=L[i] by simp [List.getD,hi]] at this
  exact this.rd he⟩
theorem TbC.keep {B gt ct R g:Nat} {w w':World} {rs:Rs} {X:Tb} (h:TbC B w gt ct rs X R) (hb:But g w w') {cs:Array Value} {ty:TypeId} (hc:w.heap[g]?=some (.cells cs ty)) (h1:ty≠69) (h2:ty≠73):TbC B w' gt ct rs X R:=by
 refine ⟨h.len,World.ownsRow.kept h.tab (but_grownK hb) (.inr (row_not h.tab hc (Ne.symm h1))),fun i hi=>?_,h.inj,h.gB⟩
 have:=h.row i hi
 revert this
 generalize rs.getD i none=r
 generalize X.getD i none=o
 intro this
 match r,o,this with
 | none,none,_=>exact True.intro
 | some x,some t,⟨h5,h6,h7,h8⟩=>exact ⟨h5.but hb (h5.ne hc h2),h6,h7,h8⟩
 | none,some _,h=>exact h.elim
 | some _,none,h=>exact h.elim
end
end Go.Proofs.YtkhfddodmjnecaaGreatDoor
