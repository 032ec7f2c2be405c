/-
 fold's desk: an instruction in its box.; Contracts: is a store hidden by what comes behind it; the document's idle instructions and stores; places of which something holds.; Contracts: the document's idle instructions and stores; places of which something holds.; Contract of dead's Stores.; Contract of dead's Idle.
-/
import Derived.Test.YtkhfddodmjnecaaZFoldKeeps40
import Derived.Test.YtkhfddodmjnecaaZFoldKeeps12
import Derived.Test.YtkhfddodmjnecaaZFoldKeeps08
import Derived.Test.YtkhfddodmjnecaaZFoldKeeps20

set_option linter.all false
namespace Go.Proofs.Ytkhfddodmjnecaa
open Go.ChangeShapes Go.WideShapes Go.ChangeAt Go.RowKit Go.Maps
set_option maxHeartbeats 16000000
set_option maxRecDepth 100000
set_option linter.unusedVariables false

/-- within an instruction: the desk, the instruction in its box, the result's box -/
structure InW (R : Int) (w : World) (S : Nat → Prop) (q : Dkb) (ks c : Nat) (d : Dk) (i : In) (va : Value) (wr : World) (S' : Nat → Prop) : Prop where
 dk : DkM wr S' q c R d
 st : Stp S w wr S'
 b3 : wr.heap[ks]? = some (insO i va)
 b4 : wr.heap[ks + 1]? = some insZ
 n3 : ¬ S' ks ∧ ¬ S' (ks + 1)
 own : wr.ownsRow ks 3 1 va i.args.length (rowI i.args)
 nv : ∀ g, va.ownBlock = some g → ¬ S' g
section
variable {R : Int} {w : World} {S : Nat → Prop} {q : Dkb} {ks c : Nat} {d : Dk} {i : In} {va : Value} {wr w2 : World} {S' S2 : Nat → Prop}
theorem InW.step (h : InW R w S q ks c d i va wr S') {c2 : Nat} {d2 : Dk} (hd : DkM w2 S2 q c2 R d2) (p : Stp S' wr w2 S2) : InW R w S q ks c2 d2 i va w2 S2 := by
 have l3 := (Array.getElem?_eq_some_iff.1 h.b3).1
 have l4 := (Array.getElem?_eq_some_iff.1 h.b4).1
 exact ⟨hd, h.st.trans p, (p.keep _ l3 h.n3.1).trans h.b3, (p.keep _ l4 h.n3.2).trans h.b4, ⟨p.away l3 h.n3.1, p.away l4 h.n3.2⟩, ow_same h.own fun g hg => p.keep g (World.ownsRow.lt h.own g hg).2 (h.nv g hg), fun g hg => p.away (World.ownsRow.lt h.own g hg).2 (h.nv g hg)⟩
theorem InW.mono (h : InW R w S q ks c d i va wr S') {c2 : Nat} (hc : c ≤ c2) : InW R w S q ks c2 d i va wr S' := ⟨h.dk.mono hc, h.st, h.b3, h.b4, h.n3, h.own, h.nv⟩
theorem InW.below (h : InW R w S q ks c d i va wr S') (hb : Below wr.heap.size wr w2) : InW R w S q ks c d i va w2 S' := h.step (h.dk.below hb) (Stp.of_below hb)
/-- a cell of the desk's own: memory was changed -/
theorem InW.desk (h : InW R w S q ks c d i va wr S') (hc : c + 1 ≤ 1000000000) : InW R w S q ks (c + 1) ⟨d.of, d.ky, d.num, d.fs, d.vs, d.mm + 1⟩ i va (wr.setCell ⟨q.bd, 5, none⟩ (.int .i64 (d.mm + 1))) S' := by
 obtain ⟨vf, hx⟩ := h.dk
 have hbut := But.setCell q.bd 5 wr (.int .i64 (d.mm + 1))
 have hm := hx.mm
 have hv := hx.vs
 refine h.step ⟨vf, hx.own hbut ?_ (Nat.le_succ c) rfl rfl rfl rfl ⟨hx.B.vs, hx.B.of, hx.B.fs, hx.B.ky, hx.B.num⟩ (by show d.vs ≤ _; omega) (by show 0 ≤ d.mm + 1 ∧ d.mm + 1 ≤ _; omega)⟩ ⟨hbut.os, hbut.tape, hbut.output, hbut.size, fun b hb hn => hbut.block b hb (fun e => hn (e ▸ hx.s1.1)), fun b hb => .inl hb⟩
 rw [heap_setCell_same _ _ _ _ _ _ hx.st]; rfl
end
theorem put11 {w : World} {b : Nat} {i : In} {va : Value} (H : w.heap[b]? = some (insO i va)) (j : In) (vj : Value) : (((((((((((w.setCell ⟨b, 0, none⟩ (.int .i64 j.op)).setCell ⟨b, 1, none⟩ (.int .i64 j.d)).setCell ⟨b, 2, none⟩ (.int .i64 j.a)).setCell ⟨b, 3, none⟩ (.int .i64 j.b)).setCell ⟨b, 4, none⟩ (.int .i64 j.fn)).setCell ⟨b, 5, none⟩ (.int .i64 j.obj)).setCell ⟨b, 6, none⟩ (.int .i64 j.off)).setCell ⟨b, 7, none⟩ (.int .i64 j.size)).setCell ⟨b, 8, none⟩ (.int .u32 j.num)).setCell ⟨b, 9, none⟩ vj).setCell ⟨b, 10, none⟩ (.bool j.log)).heap[b]? = some (insO j vj) ∧ But b w (((((((((((w.setCell ⟨b, 0, none⟩ (.int .i64 j.op)).setCell ⟨b, 1, none⟩ (.int .i64 j.d)).setCell ⟨b, 2, none⟩ (.int .i64 j.a)).setCell ⟨b, 3, none⟩ (.int .i64 j.b)).setCell ⟨b, 4, none⟩ (.int .i64 j.fn)).setCell ⟨b, 5, none⟩ (.int .i64 j.obj)).setCell ⟨b, 6, none⟩ (.int .i64 j.off)).setCell ⟨b, 7, none⟩ (.int .i64 j.size)).setCell ⟨b, 8, none⟩ (.int .u32 j.num)).setCell ⟨b, 9, none⟩ vj).setCell ⟨b, 10, none⟩ (.bool j.log)) := by
 unfold insO at H ⊢
 have h1 : (w.setCell ⟨b, 0, none⟩ (.int .i64 j.op)).heap[b]? = some (.cells #[.int .i64 j.op, .int .i64 i.d, .int .i64 i.a, .int .i64 i.b, .int .i64 i.fn, .int .i64 i.obj, .int .i64 i.off, .int .i64 i.size, .int .u32 i.num, va, .bool i.log] 39) := heap_setCell_same _ b 0 _ _ (.int .i64 j.op) H
 have h2 : ((w.setCell ⟨b, 0, none⟩ (.int .i64 j.op)).setCell ⟨b, 1, none⟩ (.int .i64 j.d)).heap[b]? = some (.cells #[.int .i64 j.op, .int .i64 j.d, .int .i64 i.a, .int .i64 i.b, .int .i64 i.fn, .int .i64 i.obj, .int .i64 i.off, .int .i64 i.size, .int .u32 i.num, va, .bool i.log] 39) := heap_setCell_same _ b 1 _ _ (.int .i64 j.d) h1
 have h3 : (((w.setCell ⟨b, 0, none⟩ (.int .i64 j.op)).setCell ⟨b, 1, none⟩ (.int .i64 j.d)).setCell ⟨b, 2, none⟩ (.int .i64 j.a)).heap[b]? = some (.cells #[.int .i64 j.op, .int .i64 j.d, .int .i64 j.a, .int .i64 i.b, .int .i64 i.fn, .int .i64 i.obj, .int .i64 i.off, .int .i64 i.size, .int .u32 i.num, va, .bool i.log] 39) := heap_setCell_same _ b 2 _ _ (.int .i64 j.a) h2
 have h4 : ((((w.setCell ⟨b, 0, none⟩ (.int .i64 j.op)).setCell ⟨b, 1, none⟩ (.int .i64 j.d)).setCell ⟨b, 2, none⟩ (.int .i64 j.a)).setCell ⟨b, 3, none⟩ (.int .i64 j.b)).heap[b]? = some (.cells #[.int .i64 j.op, .int .i64 j.d, .int .i64 j.a, .int .i64 j.b, .int .i64 i.fn, .int .i64 i.obj, .int .i64 i.off, .int .i64 i.size, .int .u32 i.num, va, .bool i.log] 39) := heap_setCell_same _ b 3 _ _ (.int .i64 j.b) h3
 have h5 : (((((w.setCell ⟨b, 0, none⟩ (.int .i64 j.op)).setCell ⟨b, 1, none⟩ (.int .i64 j.d)).setCell ⟨b, 2, none⟩ (.int .i64 j.a)).setCell ⟨b, 3, none⟩ (.int .i64 j.b)).setCell ⟨b, 4, none⟩ (.int .i64 j.fn)).heap[b]? = some (.cells #[.int .i64 j.op, .int .i64 j.d, .int .i64 j.a, .int .i64 j.b, .int .i64 j.fn, .int .i64 i.obj, .int .i64 i.off, .int .i64 i.size, .int .u32 i.num, va, .bool i.log] 39) := heap_setCell_same _ b 4 _ _ (.int .i64 j.fn) h4
 have h6 : ((((((w.setCell ⟨b, 0, none⟩ (.int .i64 j.op)).setCell ⟨b, 1, none⟩ (.int .i64 j.d)).setCell ⟨b, 2, none⟩ (.int .i64 j.a)).setCell ⟨b, 3, none⟩ (.int .i64 j.b)).setCell ⟨b, 4, none⟩ (.int .i64 j.fn)).setCell ⟨b, 5, none⟩ (.int .i64 j.obj)).heap[b]? = some (.cells #[.int .i64 j.op, .int .i64 j.d, .int .i64 j.a, .int .i64 j.b, .int .i64 j.fn, .int .i64 j.obj, .int .i64 i.off, .int .i64 i.size, .int .u32 i.num, va, .bool i.log] 39) := heap_setCell_same _ b 5 _ _ (.int .i64 j.obj) h5
 have h7 : (((((((w.setCell ⟨b, 0, none⟩ (.int .i64 j.op)).setCell ⟨b, 1, none⟩ (.int .i64 j.d)).setCell ⟨b, 2, none⟩ (.int .i64 j.a)).setCell ⟨b, 3, none⟩ (.int .i64 j.b)).setCell ⟨b, 4, none⟩ (.int .i64 j.fn)).setCell ⟨b, 5, none⟩ (.int .i64 j.obj)).setCell ⟨b, 6, none⟩ (.int .i64 j.off)).heap[b]? = some (.cells #[.int .i64 j.op, .int .i64 j.d, .int .i64 j.a, .int .i64 j.b, .int .i64 j.fn, .int .i64 j.obj, .int .i64 j.off, .int .i64 i.size, .int .u32 i.num, va, .bool i.log] 39) := heap_setCell_same _ b 6 _ _ (.int .i64 j.off) h6
 have h8 : ((((((((w.setCell ⟨b, 0, none⟩ (.int .i64 j.op)).setCell ⟨b, 1, none⟩ (.int .i64 j.d)).setCell ⟨b, 2, none⟩ (.int .i64 j.a)).setCell ⟨b, 3, none⟩ (.int .i64 j.b)).setCell ⟨b, 4, none⟩ (.int .i64 j.fn)).setCell ⟨b, 5, none⟩ (.int .i64 j.obj)).setCell ⟨b, 6, none⟩ (.int .i64 j.off)).setCell ⟨b, 7, none⟩ (.int .i64 j.size)).heap[b]? = some (.cells #[.int .i64 j.op, .int .i64 j.d, .int .i64 j.a, .int .i64 j.b, .int .i64 j.fn, .int .i64 j.obj, .int .i64 j.off, .int .i64 j.size, .int .u32 i.num, va, .bool i.log] 39) := heap_setCell_same _ b 7 _ _ (.int .i64 j.size) h7
 have h9 : (((((((((w.setCell ⟨b, 0, none⟩ (.int .i64 j.op)).setCell ⟨b, 1, none⟩ (.int .i64 j.d)).setCell ⟨b, 2, none⟩ (.int .i64 j.a)).setCell ⟨b, 3, none⟩ (.int .i64 j.b)).setCell ⟨b, 4, none⟩ (.int .i64 j.fn)).setCell ⟨b, 5, none⟩ (.int .i64 j.obj)).setCell ⟨b, 6, none⟩ (.int .i64 j.off)).setCell ⟨b, 7, none⟩ (.int .i64 j.size)).setCell ⟨b, 8, none⟩ (.int .u32 j.num)).heap[b]? = some (.cells #[.int .i64 j.op, .int .i64 j.d, .int .i64 j.a, .int .i64 j.b, .int .i64 j.fn, .int .i64 j.obj, .int .i64 j.off, .int .i64 j.size, .int .u32 j.num, va, .bool i.log] 39) := heap_setCell_same _ b 8 _ _ (.int .u32 j.num) h8
 have h10 : ((((((((((w.setCell ⟨b, 0, none⟩ (.int .i64 j.op)).setCell ⟨b, 1, none⟩ (.int .i64 j.d)).setCell ⟨b, 2, none⟩ (.int .i64 j.a)).setCell ⟨b, 3, none⟩ (.int .i64 j.b)).setCell ⟨b, 4, none⟩ (.int .i64 j.fn)).setCell ⟨b, 5, none⟩ (.int .i64 j.obj)).setCell ⟨b, 6, none⟩ (.int .i64 j.off)).setCell ⟨b, 7, none⟩ (.int .i64 j.size)).setCell ⟨b, 8, none⟩ (.int .u32 j.num)).setCell ⟨b, 9, none⟩ vj).heap[b]? = some (.cells #[.int .i64 j.op, .int .i64 j.d, .int .i64 j.a, .int .i64 j.b, .int .i64 j.fn, .int .i64 j.obj, .int .i64 j.off, .int .i64 j.size, .int .u32 j.num, vj, .bool i.log] 39) := heap_setCell_same _ b 9 _ _ vj h9
 have h11 : (((((((((((w.setCell ⟨b, 0, none⟩ (.int .i64 j.op)).setCell ⟨b, 1, none⟩ (.int .i64 j.d)).setCell ⟨b, 2, none⟩ (.int .i64 j.a)).setCell ⟨b, 3, none⟩ (.int .i64 j.b)).setCell ⟨b, 4, none⟩ (.int .i64 j.fn)).setCell ⟨b, 5, none⟩ (.int .i64 j.obj)).setCell ⟨b, 6, none⟩ (.int .i64 j.off)).setCell ⟨b, 7, none⟩ (.int .i64 j.size)).setCell ⟨b, 8, none⟩ (.int .u32 j.num)).setCell ⟨b, 9, none⟩ vj).setCell ⟨b, 10, none⟩ (.bool j.log)).heap[b]? = some (.cells #[.int .i64 j.op, .int .i64 j.d, .int .i64 j.a, .int .i64 j.b, .int .i64 j.fn, .int .i64 j.obj, .int .i64 j.off, .int .i64 j.size, .int .u32 j.num, vj, .bool j.log] 39) := heap_setCell_same _ b 10 _ _ (.bool j.log) h10
 exact ⟨h11, ((((((((((But.setCell _ _ _ _).trans (But.setCell _ _ _ _)).trans (But.setCell _ _ _ _)).trans (But.setCell _ _ _ _)).trans (But.setCell _ _ _ _)).trans (But.setCell _ _ _ _)).trans (But.setCell _ _ _ _)).trans (But.setCell _ _ _ _)).trans (But.setCell _ _ _ _)).trans (But.setCell _ _ _ _)).trans (But.setCell _ _ _ _)⟩
/-- behind the reading of registers -/
def restD (d : Dk) (j : In) : (In × Bool) × Dk := if defI j = -1 then ((j, true), putD (turnD d j.op) j) else setsD (putD (turnD d j.op) j) j
theorem insD_rest (d : Dk) (i : In) : insD d i = restD (readsD d i).2 (readsD d i).1 := rfl
/-- what is handed back: an instruction, whether it need be, the desk -/
def OutQ (S : Nat → Prop) (q : Dkb) (c : Nat) (R : Int) (r : (In × Bool) × Dk) (w : World) (e : Ending) (w' : World) : Prop := ∃ va' S', e = .returned (.tuple #[aggI r.1.1 va', .bool r.1.2]) ∧ w'.ownsRow w.heap.size 3 1 va' r.1.1.args.length (rowI r.1.1.args) ∧ (∀ g, va'.ownBlock = some g → ¬ S' g) ∧ DkM w' S' q c R r.2 ∧ Stp S w w' S'
theorem ToOk.reads {R : Int} {d : Dk} {i : In} (h : ToOk R i) (hr : RdOk R (readsD d i).1) : ToOk R (readsD d i).1 := by
 refine ⟨hr.num, h.fn, h.obj, h.off, h.size, fun ho => ?_, fun ho => ?_⟩
 ·have h1 := hr.a
  have h2 := hr.useA (by omega)
  omega
 ·have h1 := hr.b
  have h2 := hr.useB (by omega)
  omega
/-- the end: the instruction's box is copied into the result's -/
theorem InW.fin {R : Int} {w : World} {S : Nat → Prop} {q : Dkb} {c c' : Nat} {d : Dk} {i : In} {va : Value} {wr wz : World} {S' : Nat → Prop} (h : InW R w S q w.heap.size c d i va wr S') (hb : But (w.heap.size + 1) wr wz) (hc : c ≤ c') (need : Bool) : OutQ S q c' R ((i, need), d) w (.returned (.tuple #[aggI i va, .bool need])) wz :=
 ⟨va, S', rfl, ow_same h.own fun g hg => hb.block g (World.ownsRow.lt h.own g hg).2 fun e => (row_not h.own h.b4 (by decide)) (by rw [hg, e]), h.nv, (h.dk.but hb h.n3.2).mono hc, h.st.but hb (by omega)⟩
/-- .. another box than the instruction's -/
structure BxW (R : Int) (w : World) (S : Nat → Prop) (q : Dkb) (c : Nat) (d : Dk) (o : In) (vo : Value) (bx : Nat) (wr : World) (S' : Nat → Prop) : Prop where
 dk : DkM wr S' q c R d
 st : Stp S w wr S'
 bb : wr.heap[bx]? = some (insO o vo)
 b4 : wr.heap[w.heap.size + 1]? = some insZ
 n3 : ¬ S' bx ∧ ¬ S' (w.heap.size + 1)
 ne : w.heap.size + 1 < bx
 own : wr.ownsRow w.heap.size 3 1 vo o.args.length (rowI o.args)
 nv : ∀ g, vo.ownBlock = some g → ¬ S' g
section
variable {R : Int} {w : World} {S : Nat → Prop} {q : Dkb} {c : Nat} {d : Dk} {o : In} {vo : Value} {bx : Nat} {wr w2 : World} {S' S2 : Nat → Prop}
theorem BxW.step (h : BxW R w S q c d o vo bx wr S') {c2 : Nat} {d2 : Dk} (hd : DkM w2 S2 q c2 R d2) (p : Stp S' wr w2 S2) : BxW R w S q c2 d2 o vo bx w2 S2 := by
 have l3 := (Array.getElem?_eq_some_iff.1 h.bb).1
 have l4 := (Array.getElem?_eq_some_iff.1 h.b4).1
 exact ⟨hd, h.st.trans p, (p.keep _ l3 h.n3.1).trans h.bb, (p.keep _ l4 h.n3.2).trans h.b4, ⟨p.away l3 h.n3.1, p.away l4 h.n3.2⟩, h.ne, ow_same h.own fun g hg => p.keep g (World.ownsRow.lt h.own g hg).2 (h.nv g hg), fun g hg => p.away (World.ownsRow.lt h.own g hg).2 (h.nv g hg)⟩
theorem BxW.below (h : BxW R w S q c d o vo bx wr S') (hb : Below wr.heap.size wr w2) : BxW R w S q c d o vo bx w2 S' := h.step (h.dk.below hb) (Stp.of_below hb)
/-- another instruction is laid over it -/
theorem BxW.lay (h : BxW R w S q c d o vo bx wr S') {o' : In} {vo' : Value} (hb : But bx wr w2) (hx : w2.heap[bx]? = some (insO o' vo')) (ha : o'.args = []) (hv : vo' = .slice none 0 0) : BxW R w S q c d o' vo' bx w2 S' := by
 have l4 := (Array.getElem?_eq_some_iff.1 h.b4).1
 have hne := h.ne
 refine ⟨h.dk.but hb h.n3.1, h.st.but hb (by omega), hx, (hb.block _ l4 (by omega)).trans h.b4, h.n3, h.ne, ?_, fun g hg => ?_⟩
 ·rw [ha, hv]; exact World.ownsRow_nil _ _ _ _
 ·rw [hv] at hg; cases hg
theorem BxW.fin {c' : Nat} {wz : World} (h : BxW R w S q c d o vo bx wr S') (hb : But (w.heap.size + 1) wr wz) (hc : c ≤ c') : OutQ S q c' R ((o, true), d) w (.returned (.tuple #[aggI o vo, .bool true])) wz :=
 ⟨vo, S', rfl, ow_same h.own fun g hg => hb.block g (World.ownsRow.lt h.own g hg).2 fun e => (row_not h.own h.b4 (by decide)) (by rw [hg, e]), h.nv, (h.dk.but hb h.n3.2).mono hc, h.st.but hb (by omega)⟩
/-- a copy of the instruction in a box of its own -/
theorem InW.copy {va : Value} (h : InW R w S q w.heap.size c d o va wr S') : BxW R w S q c d o va wr.heap.size (wr.alloc (insO o va)) S' := by
 have hb : Below wr.heap.size wr (wr.alloc (insO o va)) := below_alloc wr _
 have h2 := h.below hb
 have l4 := (Array.getElem?_eq_some_iff.1 h.b4).1
 exact ⟨h2.dk, h2.st, heap_alloc_new wr _, h2.b4, ⟨fun e => by have := h.dk.lt e; omega, h2.n3.2⟩, l4, h2.own, h2.nv⟩
end
end Go.Proofs.Ytkhfddodmjnecaa

set_option linter.all false
namespace Go.Proofs.Ytkhfddodmjnecaa
open Go.ChangeShapes Go.WideShapes Go.ChangeAt Go.RowKit
set_option maxHeartbeats 4000000
set_option maxRecDepth 100000
set_option linter.unusedVariables false

end Go.Proofs.Ytkhfddodmjnecaa

set_option linter.all false
namespace Go.Proofs.Ytkhfddodmjnecaa
open Go.ChangeShapes Go.WideShapes Go.ChangeAt Go.RowKit
set_option maxHeartbeats 4000000
set_option maxRecDepth 100000
set_option linter.unusedVariables false

end Go.Proofs.Ytkhfddodmjnecaa

set_option linter.all false
namespace Go.Proofs.Ytkhfddodmjnecaa
open Go.ChangeShapes Go.WideShapes Go.ChangeAt Go.RowKit
set_option maxHeartbeats 4000000
set_option maxRecDepth 100000
set_option linter.unusedVariables false

/-- a table under way: rows below n are as they shall be, row n is r, all others are empty -/
def rowT (N : Nat) (F : Nat → List Int) (n : Nat) (r : List Int) : List (List Int) := (List.range N).map fun t => if t < n then F t else if t = n then r else []
theorem rowT_get (N : Nat) (F : Nat → List Int) (n : Nat) (r : List Int) {t : Nat} (h : t < N) : (rowT N F n r).getD t [] = if t < n then F t else if t = n then r else [] := by
 simp [rowT, List.getD, h]
theorem rowT_at (N : Nat) (F : Nat → List Int) (n : Nat) (r : List Int) (h : n < N) : (rowT N F n r).getD n [] = r := by
 rw [rowT_get _ _ _ _ h, if_neg (Nat.lt_irrefl n), if_pos rfl]
theorem rowT_set (N : Nat) (F : Nat → List Int) (n : Nat) (r r' : List Int) : (rowT N F n r).set n r' = rowT N F n r' := by
 apply List.ext_getElem
 ·simp [rowT]
 ·intro i h1 h2
  rw [List.getElem_set]
  simp only [rowT, List.getElem_map, List.getElem_range]
  by_cases e : n = i
  ·subst e; simp
  ·rw [if_neg e]; simp [Ne.symm e]
theorem RdIns.zero {w : World} {a : Option Addr} {n c : Nat} {L : List In} (h1 : L.length = 0) (h2 : n = 0) (h3 : c ≤ maxLen) : RdIns w (.slice a n c) L := ⟨a, c, by rw [h1, h2], by omega, h3, fun i hi => by omega⟩
theorem RdIns.drop {w : World} {b o n c : Nat} {L : List In} (h : RdIns w (.slice (some ⟨b, o, none⟩) n c) L) {k : Nat} (hk : k ≤ L.length) : RdIns w (.slice (some ⟨b, o + k * 11, none⟩) (n - k) (c - k)) (L.drop k) := by
 obtain ⟨a', c', e, h1, h2, h3⟩ := h
 simp only [Value.slice.injEq] at e
 obtain ⟨rfl, rfl, rfl⟩ := e
 refine ⟨_, _, by rw [List.length_drop], by rw [List.length_drop]; omega, by omega, fun i hi => ?_⟩
 rw [List.length_drop] at hi
 obtain ⟨b', o', e, hc⟩ := h3 (k + i) (by omega)
 simp only [Option.some.injEq, Addr.mk.injEq, and_true] at e
 obtain ⟨rfl, rfl⟩ := e
 refine ⟨b, o + k * 11, rfl, ?_⟩
 show InC w (fun j => w.cell? ⟨b, o + k * 11 + i * 11 + j, none⟩) ((L.drop k).getD i default)
 have e2 : (L.drop k).getD i default = L.getD (k + i) default := by simp [List.getD]
 rw [e2]
 have e3 : ∀ j, o + k * 11 + i * 11 + j = o + (k + i) * 11 + j := fun j => by omega
 simp only [e3]
 exact hc
/-- a block that none of a table's rows lies in -/
def FarB (n : Nat) (vs : List Value) (bx : Nat) : Prop := ∀ i, i < n → (vs.getD i undef).ownBlock ≠ some bx
theorem FarB.push {n : Nat} {vs : List Value} {bx : Nat} {w : World} {v' : Value} {j : Nat} (h : FarB n vs bx) (hl : vs.length = n) (hj : j < n) (hb : bx < w.heap.size) (hat : v'.ownBlock = (vs.getD j undef).ownBlock ∨ v'.ownBlock = some w.heap.size) : FarB n (vs.set j v') bx := fun k hk => by
 rw [getD_setV _ _ _ _ (by omega)]
 by_cases e2 : k = j
 ·rw [if_pos e2]
  rcases hat with e3 | e3
  ·rw [e3]; exact h j hj
  ·rw [e3]; intro e4; simp only [Option.some.injEq] at e4; omega
 ·rw [if_neg e2]; exact h k hk
theorem FarB.keep {n : Nat} {vs : List Value} {bx gP : Nat} {w w' : World} {v' : Value} {j : Nat} (h : FarB n vs bx) (hj : j < n) (hb : bx < w.heap.size) (hg : w.grownBy w' (vs.getD j undef).ownBlock) (hgp : bx ≠ gP) : (w'.setCell ⟨gP, j, none⟩ v').heap[bx]? = w.heap[bx]? :=
 (Below.heap_setCell w' ⟨gP, j, none⟩ v' bx hgp).trans (hg.block bx hb (fun e => h j hj e.symm))
end Go.Proofs.Ytkhfddodmjnecaa

set_option linter.all false
namespace Go.Proofs.Ytkhfddodmjnecaa
open Go.ChangeShapes Go.WideShapes Go.ChangeAt Go.RowKit
set_option maxHeartbeats 4000000
set_option maxRecDepth 100000
set_option linter.unusedVariables false
attribute [local go_sem] Oper.semAt_some

theorem own_cells {w : World} {base n sz b : Nat} {e : TypeId} {v : Value} {xs : List Value} (h : w.ownsRow base e sz v n xs) (hb : v.ownBlock = some b) : ∃ cur t f, w.heap[b]? = some (.cells cur t f) := by
 obtain ⟨-, ⟨rfl, -⟩ | ⟨g, cap, cur, rfl, -, hg, -⟩⟩ := h
 ·cases hb
 ·simp only [Value.ownBlock, Option.some.injEq] at hb
  subst hb
  exact ⟨_, _, _, hg⟩
section
variable {W0 w w' : World} {gP B n : Nat} {vs : List Value} {rows : List (List Int)}
/-- one block, no row's and not the table's, turns -/
theorem PT.other (h : PT W0 w gP B n vs rows) {g : Nat} (hg : w.grownBy w' (some g)) (h0 : W0.heap.size ≤ g) (hgp : gP ≠ g) (hr : ∀ i, i < n → (vs.getD i undef).ownBlock ≠ some g) : PT W0 w' gP B n vs rows :=
 ⟨grown_belG h.below (by have := h.Bw; have := h.gB; have := h.g0; omega) hg (fun b e => by cases e; exact h0), World.ownsRow.kept h.tab hg (.inr (by simpa [Value.ownBlock] using hgp)), fun j hj => World.ownsRow.kept (h.row j hj) hg (.inr (hr j hj)), h.ne, h.g0, h.gB, Nat.le_trans h.Bw hg.size, h.len⟩
/-- a row's own block turns -/
theorem PT.turn (h : PT W0 w gP B n vs rows) {j : Nat} (hj : j < n) {l : List Int} (hg : w.grownBy w' (vs.getD j undef).ownBlock) (ho : OwnI w' B (vs.getD j undef) l) : PT W0 w' gP B n vs (rows.set j l) := by
 have h1 := h.g0
 have h2 := h.gB
 have h3 := h.Bw
 have hrl := h.len
 refine ⟨grown_belG h.below (by omega) hg (fun b e => by have := (World.ownsRow.lt (h.row j hj) b e).1; omega), World.ownsRow.kept h.tab hg (.inr fun e => by have := (World.ownsRow.lt (h.row j hj) gP e.symm).1; omega), fun i hi => ?_, h.ne, h.g0, h.gB, Nat.le_trans h.Bw hg.size, by simpa using h.len⟩
 rw [getD_setR _ _ _ _ (by omega)]
 by_cases e : i = j
 ·subst e; rw [if_pos rfl]; exact ho
 ·rw [if_neg e]
  exact World.ownsRow.kept (h.row i hi) hg (h.ne i j hi hj e)
end
/-- where the rows of a table lie while a block is gone through -/
def FarE (lo hi : Nat) (n : Nat) (vs : List Value) (pre : List EX) : Prop := ∀ i, i < n → ∀ b, (vs.getD i undef).ownBlock = some b → b < lo ∨ (hi ≤ b ∧ pre ≠ [] ∧ ∀ y ∈ pre, y.g ≠ b)
/-- between two rounds -/
structure IdI (W0 w4 : World) (gP lo n : Nat) (ds : List Nat) (F : Nat → List Int) (k : Nat) (r : List Int) (pre : List EX) (vs : List Value) (W : World) : Prop where
 pt : PT W0 W gP (gP + 2) n vs (rowT n F k r)
 far : FarE lo (w4.heap.size + 1 + 1) n vs pre
 keep : ∀ b, b < w4.heap.size → (b = gP + 1 ∨ lo ≤ b ∨ b ∈ ds) → W.heap[b]? = w4.heap[b]?
 size : w4.heap.size ≤ W.heap.size
section
variable {W0 w4 W W' : World} {gP lo n : Nat} {ds : List Nat} {F : Nat → List Int} {k : Nat} {r : List Int} {pre : List EX} {vs : List Value}
theorem IdI.below (h : IdI W0 w4 gP lo n ds F k r pre vs W) (hb : Below W.heap.size W W') : IdI W0 w4 gP lo n ds F k r pre vs W' :=
 ⟨h.pt.grow hb, h.far, fun b hb1 hb2 => (hb.block b (Nat.lt_of_lt_of_le hb1 h.size)).trans (h.keep b hb1 hb2), Nat.le_trans h.size hb.size⟩
theorem IdI.other (h : IdI W0 w4 gP lo n ds F k r pre vs W) {g : Nat} (hg : W.grownBy W' (some g)) (h1 : w4.heap.size ≤ g) (h2 : ∀ i, i < n → (vs.getD i undef).ownBlock ≠ some g) (hgp : gP < w4.heap.size) (hw : W0.heap.size ≤ gP) : IdI W0 w4 gP lo n ds F k r pre vs W' :=
 ⟨h.pt.other hg (by omega) (by omega) h2, h.far, fun b hb1 hb2 => (hg.block b (Nat.lt_of_lt_of_le hb1 h.size) (fun e => by cases e; omega)).trans (h.keep b hb1 hb2), Nat.le_trans h.size hg.size⟩
theorem IdI.put (h : IdI W0 w4 gP lo n ds F k r pre vs W) (o : Obj) (hgp : gP < w4.heap.size) (hw : W0.heap.size ≤ gP) (hlo : lo ≤ w4.heap.size) : IdI W0 w4 gP lo n ds F k r pre vs (W.putObj (w4.heap.size + 1) o) :=
 h.other (grownBy_putObj' W _ o) (by omega) (fun i hi e => by rcases h.far i hi _ e with h1 | ⟨h1, -⟩ <;> omega) hgp hw
theorem IdI.st (h : IdI W0 w4 gP lo n ds F k r pre vs W) (hs : StE (w4.heap.size + 1 + 1) pre W W') (hgp : gP < w4.heap.size) (hw : W0.heap.size ≤ gP) (hlo : lo ≤ w4.heap.size) : IdI W0 w4 gP lo n ds F k r pre vs W' := by
 cases pre with
 | nil => exact h.below hs
 | cons x l =>
  obtain ⟨h1, h2⟩ := hs
  refine h.other (g := x.g) ⟨h2.os, h2.tape, h2.output, h2.size, fun b hb hne => h2.block b hb (fun e => hne (by rw [e]))⟩ (by omega) (fun i hi e => ?_) hgp hw
  rcases h.far i hi _ e with h3 | ⟨-, -, h3⟩
  ·omega
  ·exact h3 x (List.mem_cons_self ..) rfl
/-- a place is put at a row's end, and the row is laid down in the table -/
theorem IdI.push {v' : Value} {x : EX} {y : Int} (h : IdI W0 w4 gP lo n ds F k r pre vs W) (hk : k < n) (hg : W.grownBy W' (vs.getD k undef).ownBlock)
  (ho : W'.ownsRow (gP + 2) 3 1 v' (r.length + 1) (r.map (Value.int .i64) ++ [.int .i64 y])) (hat : v'.ownBlock = (vs.getD k undef).ownBlock ∨ v'.ownBlock = some W.heap.size)
  (hd : ∀ D ∈ ds, D < lo ∧ ∃ c, w4.heap[D]? = some (.deferred c)) (hx : w4.heap.size + 1 + 1 ≤ x.g) (hxW : x.g < W.heap.size) (hs : ∀ y ∈ pre, y.g = x.g) (hlo : lo ≤ w4.heap.size) (hgp : gP < lo) (hrx : ∀ i, i < n → (vs.getD i undef).ownBlock ≠ some x.g) (hgd : gP ∉ ds) :
  IdI W0 w4 gP lo n ds F k (r ++ [y]) (pre ++ [x]) (vs.set k v') (W'.setCell ⟨gP, k, none⟩ v') := by
 have hl := h.pt.vlen
 have hrow : (rowT n F k r).getD k [] = r := rowT_at n F k r hk
 have hp := h.pt.push hk hg (by rw [hrow]; exact ho) hat
 rw [hrow, rowT_set] at hp
 refine ⟨hp, fun i hi b e => ?_, fun b hb1 hb2 => ?_, by have := hg.size; have := h.size; simp; omega⟩
 ·rw [getD_setV _ _ _ _ (by omega)] at e
  have old : ∀ j, j < n → (vs.getD j undef).ownBlock = some b → b < lo ∨ (w4.heap.size + 1 + 1 ≤ b ∧ pre ++ [x] ≠ [] ∧ ∀ y ∈ pre ++ [x], y.g ≠ b) := fun j hj e => by
   rcases h.far j hj b e with h1 | ⟨h1, h2, h3⟩
   ·exact .inl h1
   ·refine .inr ⟨h1, by simp, fun z hz => ?_⟩
    rcases List.mem_append.1 hz with hz | hz
    ·exact h3 z hz
    ·rw [List.mem_singleton.1 hz]; intro e2; exact hrx j hj (by rw [e, ← e2])
  by_cases e2 : i = k
  ·rw [if_pos e2] at e
   rcases hat with e3 | e3
   ·rw [e3] at e; exact old k hk e
   ·rw [e3] at e
    simp only [Option.some.injEq] at e
    refine .inr ⟨by have := h.size; omega, by simp, fun z hz => ?_⟩
    rcases List.mem_append.1 hz with hz | hz
    ·rw [hs z hz]; omega
    ·rw [List.mem_singleton.1 hz]; omega
  ·rw [if_neg e2] at e; exact old i hi e
 ·have hne : b ≠ gP := by
   rcases hb2 with h1 | h1 | h1
   ·omega
   ·omega
   ·intro e; subst e; exact hgd h1
  refine (Below.heap_setCell W' ⟨gP, k, none⟩ v' b hne).trans ((hg.block b (Nat.lt_of_lt_of_le hb1 h.size) (fun e => ?_)).trans (h.keep b hb1 hb2))
  rcases hb2 with h1 | h1 | h1
  ·have := (World.ownsRow.lt (h.pt.row k hk) b e.symm).1; omega
  ·rcases h.far k hk b e.symm with h3 | ⟨h3, -⟩ <;> omega
  ·obtain ⟨-, c, hc⟩ := hd b h1
   obtain ⟨cur, t, f, hcc⟩ := own_cells (h.pt.row k hk) e.symm
   rw [h.keep b hb1 (.inr (.inr h1)), hc] at hcc
   cases hcc
/-- a round in which nothing is put -/
theorem IdI.pass {x : EX} (h : IdI W0 w4 gP lo n ds F k r pre vs W) (hrx : ∀ i, i < n → (vs.getD i undef).ownBlock ≠ some x.g) : IdI W0 w4 gP lo n ds F k r (pre ++ [x]) vs W :=
 ⟨h.pt, fun i hi b e => by
   rcases h.far i hi b e with h1 | ⟨h1, h2, h3⟩
   ·exact .inl h1
   ·refine .inr ⟨h1, by simp, fun z hz => ?_⟩
    rcases List.mem_append.1 hz with hz | hz
    ·exact h3 z hz
    ·rw [List.mem_singleton.1 hz]; intro e2; exact hrx i hi (by rw [e, ← e2]), h.keep, h.size⟩
/-- no row lies where the marks are -/
theorem IdI.off {x : EX} {L : List In} {lo' : List Bool} {R : Nat} {We : World} (h : IdI W0 w4 gP lo n ds F k r pre vs W) (hp : PrE We (w4.heap.size + 1 + 1) L lo' R pre x W) (hlo : lo ≤ w4.heap.size) : ∀ i, i < n → (vs.getD i undef).ownBlock ≠ some x.g := fun i hi e => by
 rcases h.far i hi _ e with h1 | ⟨h1, h2, h3⟩
 ·have := hp.g; omega
 ·cases pre with
  | nil => exact h2 rfl
  | cons y l => exact h3 y (List.mem_cons_self ..) (hp.same y (List.mem_cons_self ..))
end
end Go.Proofs.Ytkhfddodmjnecaa
