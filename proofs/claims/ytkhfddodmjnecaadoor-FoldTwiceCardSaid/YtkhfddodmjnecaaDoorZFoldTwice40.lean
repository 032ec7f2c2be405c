/-
 fold's desk: an instruction in its box.
-/
import Derived.Test.YtkhfddodmjnecaaDoorZFoldTwice39
import Derived.Test.YtkhfddodmjnecaaDoorZFoldTwice10
set_option linter.all false
namespace Go.Proofs.YtkhfddodmjnecaaDoor
open Go.ChangeShapes Go.WideShapes Go.ChangeAt Go.RowKit Go.Maps
set_option maxHeartbeats 16000000
set_option maxRecDepth 100000
set_option linter.unusedVariables false

/-- within an instruction: the desk, the instruction in its box, the result's box -/
structure InW (R : Int) (w : World) (S : Nat → Prop) (q : Dkb) (ks c : Nat) (d : Dk) (i : In) (va : Value) (wr : World) (S' : Nat → Prop) : Prop where
 dk : DkM wr S' q c R d
 st : Stp S w wr S'
 b3 : wr.heap[ks]? = some (insO i va)
 b4 : wr.heap[ks + 1]? = some insZ
 n3 : ¬ S' ks ∧ ¬ S' (ks + 1)
 own : wr.ownsRow ks 3 1 va i.args.length (rowI i.args)
 nv : ∀ g, va.ownBlock = some g → ¬ S' g
section
variable {R : Int} {w : World} {S : Nat → Prop} {q : Dkb} {ks c : Nat} {d : Dk} {i : In} {va : Value} {wr w2 : World} {S' S2 : Nat → Prop}
theorem InW.step (h : InW R w S q ks c d i va wr S') {c2 : Nat} {d2 : Dk} (hd : DkM w2 S2 q c2 R d2) (p : Stp S' wr w2 S2) : InW R w S q ks c2 d2 i va w2 S2 := by
 have l3 := (Array.getElem?_eq_some_iff.1 h.b3).1
 have l4 := (Array.getElem?_eq_some_iff.1 h.b4).1
 exact ⟨hd, h.st.trans p, (p.keep _ l3 h.n3.1).trans h.b3, (p.keep _ l4 h.n3.2).trans h.b4, ⟨p.away l3 h.n3.1, p.away l4 h.n3.2⟩, ow_same h.own fun g hg => p.keep g (World.ownsRow.lt h.own g hg).2 (h.nv g hg), fun g hg => p.away (World.ownsRow.lt h.own g hg).2 (h.nv g hg)⟩
theorem InW.mono (h : InW R w S q ks c d i va wr S') {c2 : Nat} (hc : c ≤ c2) : InW R w S q ks c2 d i va wr S' := ⟨h.dk.mono hc, h.st, h.b3, h.b4, h.n3, h.own, h.nv⟩
theorem InW.below (h : InW R w S q ks c d i va wr S') (hb : Below wr.heap.size wr w2) : InW R w S q ks c d i va w2 S' := h.step (h.dk.below hb) (Stp.of_below hb)
/-- a cell of the desk's own: memory was changed -/
theorem InW.desk (h : InW R w S q ks c d i va wr S') (hc : c + 1 ≤ 1000000000) : InW R w S q ks (c + 1) ⟨d.of, d.ky, d.num, d.fs, d.vs, d.mm + 1⟩ i va (wr.setCell ⟨q.bd, 5, none⟩ (.int .i64 (d.mm + 1))) S' := by
 obtain ⟨vf, hx⟩ := h.dk
 have hbut := But.setCell q.bd 5 wr (.int .i64 (d.mm + 1))
 have hm := hx.mm
 have hv := hx.vs
 refine h.step ⟨vf, hx.own hbut ?_ (Nat.le_succ c) rfl rfl rfl rfl ⟨hx.B.vs, hx.B.of, hx.B.fs, hx.B.ky, hx.B.num⟩ (by show d.vs ≤ _; omega) (by show 0 ≤ d.mm + 1 ∧ d.mm + 1 ≤ _; omega)⟩ ⟨hbut.os, hbut.tape, hbut.output, hbut.size, fun b hb hn => hbut.block b hb (fun e => hn (e ▸ hx.s1.1)), fun b hb => .inl hb⟩
 rw [heap_setCell_same _ _ _ _ _ _ hx.st]; rfl
end
theorem put11 {w : World} {b : Nat} {i : In} {va : Value} (H : w.heap[b]? = some (insO i va)) (j : In) (vj : Value) : (((((((((((w.setCell ⟨b, 0, none⟩ (.int .i64 j.op)).setCell ⟨b, 1, none⟩ (.int .i64 j.d)).setCell ⟨b, 2, none⟩ (.int .i64 j.a)).setCell ⟨b, 3, none⟩ (.int .i64 j.b)).setCell ⟨b, 4, none⟩ (.int .i64 j.fn)).setCell ⟨b, 5, none⟩ (.int .i64 j.obj)).setCell ⟨b, 6, none⟩ (.int .i64 j.off)).setCell ⟨b, 7, none⟩ (.int .i64 j.size)).setCell ⟨b, 8, none⟩ (.int .u32 j.num)).setCell ⟨b, 9, none⟩ vj).setCell ⟨b, 10, none⟩ (.bool j.log)).heap[b]? = some (insO j vj) ∧ But b w (((((((((((w.setCell ⟨b, 0, none⟩ (.int .i64 j.op)).setCell ⟨b, 1, none⟩ (.int .i64 j.d)).setCell ⟨b, 2, none⟩ (.int .i64 j.a)).setCell ⟨b, 3, none⟩ (.int .i64 j.b)).setCell ⟨b, 4, none⟩ (.int .i64 j.fn)).setCell ⟨b, 5, none⟩ (.int .i64 j.obj)).setCell ⟨b, 6, none⟩ (.int .i64 j.off)).setCell ⟨b, 7, none⟩ (.int .i64 j.size)).setCell ⟨b, 8, none⟩ (.int .u32 j.num)).setCell ⟨b, 9, none⟩ vj).setCell ⟨b, 10, none⟩ (.bool j.log)) := by
 unfold insO at H ⊢
 have h1 : (w.setCell ⟨b, 0, none⟩ (.int .i64 j.op)).heap[b]? = some (.cells #[.int .i64 j.op, .int .i64 i.d, .int .i64 i.a, .int .i64 i.b, .int .i64 i.fn, .int .i64 i.obj, .int .i64 i.off, .int .i64 i.size, .int .u32 i.num, va, .bool i.log] 40) := heap_setCell_same _ b 0 _ _ (.int .i64 j.op) H
 have h2 : ((w.setCell ⟨b, 0, none⟩ (.int .i64 j.op)).setCell ⟨b, 1, none⟩ (.int .i64 j.d)).heap[b]? = some (.cells #[.int .i64 j.op, .int .i64 j.d, .int .i64 i.a, .int .i64 i.b, .int .i64 i.fn, .int .i64 i.obj, .int .i64 i.off, .int .i64 i.size, .int .u32 i.num, va, .bool i.log] 40) := heap_setCell_same _ b 1 _ _ (.int .i64 j.d) h1
 have h3 : (((w.setCell ⟨b, 0, none⟩ (.int .i64 j.op)).setCell ⟨b, 1, none⟩ (.int .i64 j.d)).setCell ⟨b, 2, none⟩ (.int .i64 j.a)).heap[b]? = some (.cells #[.int .i64 j.op, .int .i64 j.d, .int .i64 j.a, .int .i64 i.b, .int .i64 i.fn, .int .i64 i.obj, .int .i64 i.off, .int .i64 i.size, .int .u32 i.num, va, .bool i.log] 40) := heap_setCell_same _ b 2 _ _ (.int .i64 j.a) h2
 have h4 : ((((w.setCell ⟨b, 0, none⟩ (.int .i64 j.op)).setCell ⟨b, 1, none⟩ (.int .i64 j.d)).setCell ⟨b, 2, none⟩ (.int .i64 j.a)).setCell ⟨b, 3, none⟩ (.int .i64 j.b)).heap[b]? = some (.cells #[.int .i64 j.op, .int .i64 j.d, .int .i64 j.a, .int .i64 j.b, .int .i64 i.fn, .int .i64 i.obj, .int .i64 i.off, .int .i64 i.size, .int .u32 i.num, va, .bool i.log] 40) := heap_setCell_same _ b 3 _ _ (.int .i64 j.b) h3
 have h5 : (((((w.setCell ⟨b, 0, none⟩ (.int .i64 j.op)).setCell ⟨b, 1, none⟩ (.int .i64 j.d)).setCell ⟨b, 2, none⟩ (.int .i64 j.a)).setCell ⟨b, 3, none⟩ (.int .i64 j.b)).setCell ⟨b, 4, none⟩ (.int .i64 j.fn)).heap[b]? = some (.cells #[.int .i64 j.op, .int .i64 j.d, .int .i64 j.a, .int .i64 j.b, .int .i64 j.fn, .int .i64 i.obj, .int .i64 i.off, .int .i64 i.size, .int .u32 i.num, va, .bool i.log] 40) := heap_setCell_same _ b 4 _ _ (.int .i64 j.fn) h4
 have h6 : ((((((w.setCell ⟨b, 0, none⟩ (.int .i64 j.op)).setCell ⟨b, 1, none⟩ (.int .i64 j.d)).setCell ⟨b, 2, none⟩ (.int .i64 j.a)).setCell ⟨b, 3, none⟩ (.int .i64 j.b)).setCell ⟨b, 4, none⟩ (.int .i64 j.fn)).setCell ⟨b, 5, none⟩ (.int .i64 j.obj)).heap[b]? = some (.cells #[.int .i64 j.op, .int .i64 j.d, .int .i64 j.a, .int .i64 j.b, .int .i64 j.fn, .int .i64 j.obj, .int .i64 i.off, .int .i64 i.size, .int .u32 i.num, va, .bool i.log] 40) := heap_setCell_same _ b 5 _ _ (.int .i64 j.obj) h5
 have h7 : (((((((w.setCell ⟨b, 0, none⟩ (.int .i64 j.op)).setCell ⟨b, 1, none⟩ (.int .i64 j.d)).setCell ⟨b, 2, none⟩ (.int .i64 j.a)).setCell ⟨b, 3, none⟩ (.int .i64 j.b)).setCell ⟨b, 4, none⟩ (.int .i64 j.fn)).setCell ⟨b, 5, none⟩ (.int .i64 j.obj)).setCell ⟨b, 6, none⟩ (.int .i64 j.off)).heap[b]? = some (.cells #[.int .i64 j.op, .int .i64 j.d, .int .i64 j.a, .int .i64 j.b, .int .i64 j.fn, .int .i64 j.obj, .int .i64 j.off, .int .i64 i.size, .int .u32 i.num, va, .bool i.log] 40) := heap_setCell_same _ b 6 _ _ (.int .i64 j.off) h6
 have h8 : ((((((((w.setCell ⟨b, 0, none⟩ (.int .i64 j.op)).setCell ⟨b, 1, none⟩ (.int .i64 j.d)).setCell ⟨b, 2, none⟩ (.int .i64 j.a)).setCell ⟨b, 3, none⟩ (.int .i64 j.b)).setCell ⟨b, 4, none⟩ (.int .i64 j.fn)).setCell ⟨b, 5, none⟩ (.int .i64 j.obj)).setCell ⟨b, 6, none⟩ (.int .i64 j.off)).setCell ⟨b, 7, none⟩ (.int .i64 j.size)).heap[b]? = some (.cells #[.int .i64 j.op, .int .i64 j.d, .int .i64 j.a, .int .i64 j.b, .int .i64 j.fn, .int .i64 j.obj, .int .i64 j.off, .int .i64 j.size, .int .u32 i.num, va, .bool i.log] 40) := heap_setCell_same _ b 7 _ _ (.int .i64 j.size) h7
 have h9 : (((((((((w.setCell ⟨b, 0, none⟩ (.int .i64 j.op)).setCell ⟨b, 1, none⟩ (.int .i64 j.d)).setCell ⟨b, 2, none⟩ (.int .i64 j.a)).setCell ⟨b, 3, none⟩ (.int .i64 j.b)).setCell ⟨b, 4, none⟩ (.int .i64 j.fn)).setCell ⟨b, 5, none⟩ (.int .i64 j.obj)).setCell ⟨b, 6, none⟩ (.int .i64 j.off)).setCell ⟨b, 7, none⟩ (.int .i64 j.size)).setCell ⟨b, 8, none⟩ (.int .u32 j.num)).heap[b]? = some (.cells #[.int .i64 j.op, .int .i64 j.d, .int .i64 j.a, .int .i64 j.b, .int .i64 j.fn, .int .i64 j.obj, .int .i64 j.off, .int .i64 j.size, .int .u32 j.num, va, .bool i.log] 40) := heap_setCell_same _ b 8 _ _ (.int .u32 j.num) h8
 have h10 : ((((((((((w.setCell ⟨b, 0, none⟩ (.int .i64 j.op)).setCell ⟨b, 1, none⟩ (.int .i64 j.d)).setCell ⟨b, 2, none⟩ (.int .i64 j.a)).setCell ⟨b, 3, none⟩ (.int .i64 j.b)).setCell ⟨b, 4, none⟩ (.int .i64 j.fn)).setCell ⟨b, 5, none⟩ (.int .i64 j.obj)).setCell ⟨b, 6, none⟩ (.int .i64 j.off)).setCell ⟨b, 7, none⟩ (.int .i64 j.size)).setCell ⟨b, 8, none⟩ (.int .u32 j.num)).setCell ⟨b, 9, none⟩ vj).heap[b]? = some (.cells #[.int .i64 j.op, .int .i64 j.d, .int .i64 j.a, .int .i64 j.b, .int .i64 j.fn, .int .i64 j.obj, .int .i64 j.off, .int .i64 j.size, .int .u32 j.num, vj, .bool i.log] 40) := heap_setCell_same _ b 9 _ _ vj h9
 have h11 : (((((((((((w.setCell ⟨b, 0, none⟩ (.int .i64 j.op)).setCell ⟨b, 1, none⟩ (.int .i64 j.d)).setCell ⟨b, 2, none⟩ (.int .i64 j.a)).setCell ⟨b, 3, none⟩ (.int .i64 j.b)).setCell ⟨b, 4, none⟩ (.int .i64 j.fn)).setCell ⟨b, 5, none⟩ (.int .i64 j.obj)).setCell ⟨b, 6, none⟩ (.int .i64 j.off)).setCell ⟨b, 7, none⟩ (.int .i64 j.size)).setCell ⟨b, 8, none⟩ (.int .u32 j.num)).setCell ⟨b, 9, none⟩ vj).setCell ⟨b, 10, none⟩ (.bool j.log)).heap[b]? = some (.cells #[.int .i64 j.op, .int .i64 j.d, .int .i64 j.a, .int .i64 j.b, .int .i64 j.fn, .int .i64 j.obj, .int .i64 j.off, .int .i64 j.size, .int .u32 j.num, vj, .bool j.log] 40) := heap_setCell_same _ b 10 _ _ (.bool j.log) h10
 exact ⟨h11, ((((((((((But.setCell _ _ _ _).trans (But.setCell _ _ _ _)).trans (But.setCell _ _ _ _)).trans (But.setCell _ _ _ _)).trans (But.setCell _ _ _ _)).trans (But.setCell _ _ _ _)).trans (But.setCell _ _ _ _)).trans (But.setCell _ _ _ _)).trans (But.setCell _ _ _ _)).trans (But.setCell _ _ _ _)).trans (But.setCell _ _ _ _)⟩
/-- behind the reading of registers -/
def restD (d : Dk) (j : In) : (In × Bool) × Dk := if defI j = -1 then ((j, true), putD (turnD d j.op) j) else setsD (putD (turnD d j.op) j) j
theorem insD_rest (d : Dk) (i : In) : insD d i = restD (readsD d i).2 (readsD d i).1 := rfl
/-- what is handed back: an instruction, whether it need be, the desk -/
def OutQ (S : Nat → Prop) (q : Dkb) (c : Nat) (R : Int) (r : (In × Bool) × Dk) (w : World) (e : Ending) (w' : World) : Prop := ∃ va' S', e = .returned (.tuple #[aggI r.1.1 va', .bool r.1.2]) ∧ w'.ownsRow w.heap.size 3 1 va' r.1.1.args.length (rowI r.1.1.args) ∧ (∀ g, va'.ownBlock = some g → ¬ S' g) ∧ DkM w' S' q c R r.2 ∧ Stp S w w' S'
theorem ToOk.reads {R : Int} {d : Dk} {i : In} (h : ToOk R i) (hr : RdOk R (readsD d i).1) : ToOk R (readsD d i).1 := by
 refine ⟨hr.num, h.fn, h.obj, h.off, h.size, fun ho => ?_, fun ho => ?_⟩
 ·have h1 := hr.a
  have h2 := hr.useA (by omega)
  omega
 ·have h1 := hr.b
  have h2 := hr.useB (by omega)
  omega
/-- the end: the instruction's box is copied into the result's -/
theorem InW.fin {R : Int} {w : World} {S : Nat → Prop} {q : Dkb} {c c' : Nat} {d : Dk} {i : In} {va : Value} {wr wz : World} {S' : Nat → Prop} (h : InW R w S q w.heap.size c d i va wr S') (hb : But (w.heap.size + 1) wr wz) (hc : c ≤ c') (need : Bool) : OutQ S q c' R ((i, need), d) w (.returned (.tuple #[aggI i va, .bool need])) wz :=
 ⟨va, S', rfl, ow_same h.own fun g hg => hb.block g (World.ownsRow.lt h.own g hg).2 fun e => (row_not h.own h.b4 (by decide)) (by rw [hg, e]), h.nv, (h.dk.but hb h.n3.2).mono hc, h.st.but hb (by omega)⟩
/-- .. another box than the instruction's -/
structure BxW (R : Int) (w : World) (S : Nat → Prop) (q : Dkb) (c : Nat) (d : Dk) (o : In) (vo : Value) (bx : Nat) (wr : World) (S' : Nat → Prop) : Prop where
 dk : DkM wr S' q c R d
 st : Stp S w wr S'
 bb : wr.heap[bx]? = some (insO o vo)
 b4 : wr.heap[w.heap.size + 1]? = some insZ
 n3 : ¬ S' bx ∧ ¬ S' (w.heap.size + 1)
 ne : w.heap.size + 1 < bx
 own : wr.ownsRow w.heap.size 3 1 vo o.args.length (rowI o.args)
 nv : ∀ g, vo.ownBlock = some g → ¬ S' g
section
variable {R : Int} {w : World} {S : Nat → Prop} {q : Dkb} {c : Nat} {d : Dk} {o : In} {vo : Value} {bx : Nat} {wr w2 : World} {S' S2 : Nat → Prop}
theorem BxW.step (h : BxW R w S q c d o vo bx wr S') {c2 : Nat} {d2 : Dk} (hd : DkM w2 S2 q c2 R d2) (p : Stp S' wr w2 S2) : BxW R w S q c2 d2 o vo bx w2 S2 := by
 have l3 := (Array.getElem?_eq_some_iff.1 h.bb).1
 have l4 := (Array.getElem?_eq_some_iff.1 h.b4).1
 exact ⟨hd, h.st.trans p, (p.keep _ l3 h.n3.1).trans h.bb, (p.keep _ l4 h.n3.2).trans h.b4, ⟨p.away l3 h.n3.1, p.away l4 h.n3.2⟩, h.ne, ow_same h.own fun g hg => p.keep g (World.ownsRow.lt h.own g hg).2 (h.nv g hg), fun g hg => p.away (World.ownsRow.lt h.own g hg).2 (h.nv g hg)⟩
theorem BxW.below (h : BxW R w S q c d o vo bx wr S') (hb : Below wr.heap.size wr w2) : BxW R w S q c d o vo bx w2 S' := h.step (h.dk.below hb) (Stp.of_below hb)
/-- another instruction is laid over it -/
theorem BxW.lay (h : BxW R w S q c d o vo bx wr S') {o' : In} {vo' : Value} (hb : But bx wr w2) (hx : w2.heap[bx]? = some (insO o' vo')) (ha : o'.args = []) (hv : vo' = .slice none 0 0) : BxW R w S q c d o' vo' bx w2 S' := by
 have l4 := (Array.getElem?_eq_some_iff.1 h.b4).1
 have hne := h.ne
 refine ⟨h.dk.but hb h.n3.1, h.st.but hb (by omega), hx, (hb.block _ l4 (by omega)).trans h.b4, h.n3, h.ne, ?_, fun g hg => ?_⟩
 ·rw [ha, hv]; exact World.ownsRow_nil _ _ _ _
 ·rw [hv] at hg; cases hg
theorem BxW.fin {c' : Nat} {wz : World} (h : BxW R w S q c d o vo bx wr S') (hb : But (w.heap.size + 1) wr wz) (hc : c ≤ c') : OutQ S q c' R ((o, true), d) w (.returned (.tuple #[aggI o vo, .bool true])) wz :=
 ⟨vo, S', rfl, ow_same h.own fun g hg => hb.block g (World.ownsRow.lt h.own g hg).2 fun e => (row_not h.own h.b4 (by decide)) (by rw [hg, e]), h.nv, (h.dk.but hb h.n3.2).mono hc, h.st.but hb (by omega)⟩
/-- a copy of the instruction in a box of its own -/
theorem InW.copy {va : Value} (h : InW R w S q w.heap.size c d o va wr S') : BxW R w S q c d o va wr.heap.size (wr.alloc (insO o va)) S' := by
 have hb : Below wr.heap.size wr (wr.alloc (insO o va)) := below_alloc wr _
 have h2 := h.below hb
 have l4 := (Array.getElem?_eq_some_iff.1 h.b4).1
 exact ⟨h2.dk, h2.st, heap_alloc_new wr _, h2.b4, ⟨fun e => by have := h.dk.lt e; omega, h2.n3.2⟩, l4, h2.own, h2.nv⟩
end
end Go.Proofs.YtkhfddodmjnecaaDoor
