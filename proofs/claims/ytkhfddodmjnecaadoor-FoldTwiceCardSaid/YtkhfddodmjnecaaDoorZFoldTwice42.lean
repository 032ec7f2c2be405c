/-
 fold's desk: what stands in the place of an instruction.
-/
import Derived.Test.YtkhfddodmjnecaaDoorZFoldTwice40
import Derived.Test.YtkhfddodmjnecaaDoorZFoldTwice41
import Derived.Test.YtkhfddodmjnecaaDoorZFoldTwice10
set_option linter.all false
namespace Go.Proofs.YtkhfddodmjnecaaDoor
open Go.ChangeShapes Go.WideShapes Go.ChangeAt Go.RowKit Go.Maps
set_option maxHeartbeats 16000000
set_option maxRecDepth 100000
set_option linter.unusedVariables false

/-- a key's box -/
def keyO (k : Ky) : Obj := .cells #[.int .i64 k.op, .int .i64 k.fn, .int .i64 k.a, .int .i64 k.b, .int .i64 k.obj, .int .i64 k.off, .int .i64 k.size, .int .u32 k.num, .int .i64 k.mem] 94
theorem put9 {w : World} {b : Nat} {k0 k : Ky} (H : w.heap[b]? = some (keyO k0)) : (((((((((w.setCell ⟨b, 0, none⟩ (.int .i64 k.op)).setCell ⟨b, 1, none⟩ (.int .i64 k.fn)).setCell ⟨b, 2, none⟩ (.int .i64 k.a)).setCell ⟨b, 3, none⟩ (.int .i64 k.b)).setCell ⟨b, 4, none⟩ (.int .i64 k.obj)).setCell ⟨b, 5, none⟩ (.int .i64 k.off)).setCell ⟨b, 6, none⟩ (.int .i64 k.size)).setCell ⟨b, 7, none⟩ (.int .u32 k.num)).setCell ⟨b, 8, none⟩ (.int .i64 k.mem)).heap[b]? = some (keyO k) ∧ But b w (((((((((w.setCell ⟨b, 0, none⟩ (.int .i64 k.op)).setCell ⟨b, 1, none⟩ (.int .i64 k.fn)).setCell ⟨b, 2, none⟩ (.int .i64 k.a)).setCell ⟨b, 3, none⟩ (.int .i64 k.b)).setCell ⟨b, 4, none⟩ (.int .i64 k.obj)).setCell ⟨b, 5, none⟩ (.int .i64 k.off)).setCell ⟨b, 6, none⟩ (.int .i64 k.size)).setCell ⟨b, 7, none⟩ (.int .u32 k.num)).setCell ⟨b, 8, none⟩ (.int .i64 k.mem)) := by
 unfold keyO at H ⊢
 have h1 : (w.setCell ⟨b, 0, none⟩ (.int .i64 k.op)).heap[b]? = some (.cells #[.int .i64 k.op, .int .i64 k0.fn, .int .i64 k0.a, .int .i64 k0.b, .int .i64 k0.obj, .int .i64 k0.off, .int .i64 k0.size, .int .u32 k0.num, .int .i64 k0.mem] 94) := heap_setCell_same w b 0 _ _ (.int .i64 k.op) H
 have h2 : ((w.setCell ⟨b, 0, none⟩ (.int .i64 k.op)).setCell ⟨b, 1, none⟩ (.int .i64 k.fn)).heap[b]? = some (.cells #[.int .i64 k.op, .int .i64 k.fn, .int .i64 k0.a, .int .i64 k0.b, .int .i64 k0.obj, .int .i64 k0.off, .int .i64 k0.size, .int .u32 k0.num, .int .i64 k0.mem] 94) := heap_setCell_same (w.setCell ⟨b, 0, none⟩ (.int .i64 k.op)) b 1 _ _ (.int .i64 k.fn) h1
 have h3 : (((w.setCell ⟨b, 0, none⟩ (.int .i64 k.op)).setCell ⟨b, 1, none⟩ (.int .i64 k.fn)).setCell ⟨b, 2, none⟩ (.int .i64 k.a)).heap[b]? = some (.cells #[.int .i64 k.op, .int .i64 k.fn, .int .i64 k.a, .int .i64 k0.b, .int .i64 k0.obj, .int .i64 k0.off, .int .i64 k0.size, .int .u32 k0.num, .int .i64 k0.mem] 94) := heap_setCell_same ((w.setCell ⟨b, 0, none⟩ (.int .i64 k.op)).setCell ⟨b, 1, none⟩ (.int .i64 k.fn)) b 2 _ _ (.int .i64 k.a) h2
 have h4 : ((((w.setCell ⟨b, 0, none⟩ (.int .i64 k.op)).setCell ⟨b, 1, none⟩ (.int .i64 k.fn)).setCell ⟨b, 2, none⟩ (.int .i64 k.a)).setCell ⟨b, 3, none⟩ (.int .i64 k.b)).heap[b]? = some (.cells #[.int .i64 k.op, .int .i64 k.fn, .int .i64 k.a, .int .i64 k.b, .int .i64 k0.obj, .int .i64 k0.off, .int .i64 k0.size, .int .u32 k0.num, .int .i64 k0.mem] 94) := heap_setCell_same (((w.setCell ⟨b, 0, none⟩ (.int .i64 k.op)).setCell ⟨b, 1, none⟩ (.int .i64 k.fn)).setCell ⟨b, 2, none⟩ (.int .i64 k.a)) b 3 _ _ (.int .i64 k.b) h3
 have h5 : (((((w.setCell ⟨b, 0, none⟩ (.int .i64 k.op)).setCell ⟨b, 1, none⟩ (.int .i64 k.fn)).setCell ⟨b, 2, none⟩ (.int .i64 k.a)).setCell ⟨b, 3, none⟩ (.int .i64 k.b)).setCell ⟨b, 4, none⟩ (.int .i64 k.obj)).heap[b]? = some (.cells #[.int .i64 k.op, .int .i64 k.fn, .int .i64 k.a, .int .i64 k.b, .int .i64 k.obj, .int .i64 k0.off, .int .i64 k0.size, .int .u32 k0.num, .int .i64 k0.mem] 94) := heap_setCell_same ((((w.setCell ⟨b, 0, none⟩ (.int .i64 k.op)).setCell ⟨b, 1, none⟩ (.int .i64 k.fn)).setCell ⟨b, 2, none⟩ (.int .i64 k.a)).setCell ⟨b, 3, none⟩ (.int .i64 k.b)) b 4 _ _ (.int .i64 k.obj) h4
 have h6 : ((((((w.setCell ⟨b, 0, none⟩ (.int .i64 k.op)).setCell ⟨b, 1, none⟩ (.int .i64 k.fn)).setCell ⟨b, 2, none⟩ (.int .i64 k.a)).setCell ⟨b, 3, none⟩ (.int .i64 k.b)).setCell ⟨b, 4, none⟩ (.int .i64 k.obj)).setCell ⟨b, 5, none⟩ (.int .i64 k.off)).heap[b]? = some (.cells #[.int .i64 k.op, .int .i64 k.fn, .int .i64 k.a, .int .i64 k.b, .int .i64 k.obj, .int .i64 k.off, .int .i64 k0.size, .int .u32 k0.num, .int .i64 k0.mem] 94) := heap_setCell_same (((((w.setCell ⟨b, 0, none⟩ (.int .i64 k.op)).setCell ⟨b, 1, none⟩ (.int .i64 k.fn)).setCell ⟨b, 2, none⟩ (.int .i64 k.a)).setCell ⟨b, 3, none⟩ (.int .i64 k.b)).setCell ⟨b, 4, none⟩ (.int .i64 k.obj)) b 5 _ _ (.int .i64 k.off) h5
 have h7 : (((((((w.setCell ⟨b, 0, none⟩ (.int .i64 k.op)).setCell ⟨b, 1, none⟩ (.int .i64 k.fn)).setCell ⟨b, 2, none⟩ (.int .i64 k.a)).setCell ⟨b, 3, none⟩ (.int .i64 k.b)).setCell ⟨b, 4, none⟩ (.int .i64 k.obj)).setCell ⟨b, 5, none⟩ (.int .i64 k.off)).setCell ⟨b, 6, none⟩ (.int .i64 k.size)).heap[b]? = some (.cells #[.int .i64 k.op, .int .i64 k.fn, .int .i64 k.a, .int .i64 k.b, .int .i64 k.obj, .int .i64 k.off, .int .i64 k.size, .int .u32 k0.num, .int .i64 k0.mem] 94) := heap_setCell_same ((((((w.setCell ⟨b, 0, none⟩ (.int .i64 k.op)).setCell ⟨b, 1, none⟩ (.int .i64 k.fn)).setCell ⟨b, 2, none⟩ (.int .i64 k.a)).setCell ⟨b, 3, none⟩ (.int .i64 k.b)).setCell ⟨b, 4, none⟩ (.int .i64 k.obj)).setCell ⟨b, 5, none⟩ (.int .i64 k.off)) b 6 _ _ (.int .i64 k.size) h6
 have h8 : ((((((((w.setCell ⟨b, 0, none⟩ (.int .i64 k.op)).setCell ⟨b, 1, none⟩ (.int .i64 k.fn)).setCell ⟨b, 2, none⟩ (.int .i64 k.a)).setCell ⟨b, 3, none⟩ (.int .i64 k.b)).setCell ⟨b, 4, none⟩ (.int .i64 k.obj)).setCell ⟨b, 5, none⟩ (.int .i64 k.off)).setCell ⟨b, 6, none⟩ (.int .i64 k.size)).setCell ⟨b, 7, none⟩ (.int .u32 k.num)).heap[b]? = some (.cells #[.int .i64 k.op, .int .i64 k.fn, .int .i64 k.a, .int .i64 k.b, .int .i64 k.obj, .int .i64 k.off, .int .i64 k.size, .int .u32 k.num, .int .i64 k0.mem] 94) := heap_setCell_same (((((((w.setCell ⟨b, 0, none⟩ (.int .i64 k.op)).setCell ⟨b, 1, none⟩ (.int .i64 k.fn)).setCell ⟨b, 2, none⟩ (.int .i64 k.a)).setCell ⟨b, 3, none⟩ (.int .i64 k.b)).setCell ⟨b, 4, none⟩ (.int .i64 k.obj)).setCell ⟨b, 5, none⟩ (.int .i64 k.off)).setCell ⟨b, 6, none⟩ (.int .i64 k.size)) b 7 _ _ (.int .u32 k.num) h7
 have h9 : (((((((((w.setCell ⟨b, 0, none⟩ (.int .i64 k.op)).setCell ⟨b, 1, none⟩ (.int .i64 k.fn)).setCell ⟨b, 2, none⟩ (.int .i64 k.a)).setCell ⟨b, 3, none⟩ (.int .i64 k.b)).setCell ⟨b, 4, none⟩ (.int .i64 k.obj)).setCell ⟨b, 5, none⟩ (.int .i64 k.off)).setCell ⟨b, 6, none⟩ (.int .i64 k.size)).setCell ⟨b, 7, none⟩ (.int .u32 k.num)).setCell ⟨b, 8, none⟩ (.int .i64 k.mem)).heap[b]? = some (.cells #[.int .i64 k.op, .int .i64 k.fn, .int .i64 k.a, .int .i64 k.b, .int .i64 k.obj, .int .i64 k.off, .int .i64 k.size, .int .u32 k.num, .int .i64 k.mem] 94) := heap_setCell_same ((((((((w.setCell ⟨b, 0, none⟩ (.int .i64 k.op)).setCell ⟨b, 1, none⟩ (.int .i64 k.fn)).setCell ⟨b, 2, none⟩ (.int .i64 k.a)).setCell ⟨b, 3, none⟩ (.int .i64 k.b)).setCell ⟨b, 4, none⟩ (.int .i64 k.obj)).setCell ⟨b, 5, none⟩ (.int .i64 k.off)).setCell ⟨b, 6, none⟩ (.int .i64 k.size)).setCell ⟨b, 7, none⟩ (.int .u32 k.num)) b 8 _ _ (.int .i64 k.mem) h8
 exact ⟨h9, (((((((((But.setCell _ _ _ _).trans (But.setCell _ _ _ _)).trans (But.setCell _ _ _ _)).trans (But.setCell _ _ _ _)).trans (But.setCell _ _ _ _)).trans (But.setCell _ _ _ _)).trans (But.setCell _ _ _ _)).trans (But.setCell _ _ _ _)).trans (But.setCell _ _ _ _))⟩
theorem But.keepT {T : Nat → Prop} {g : Nat} {w w' : World} (h : But g w w') (hT : ∀ z, T z → z < w.heap.size ∧ z ≠ g) : Keep T w w' := fun b o hb => World.cell?_of_block (w := w) (a := ⟨b, o, none⟩) (h.block b (hT b hb).1 (hT b hb).2)
theorem InW.but {R : Int} {w : World} {S : Nat → Prop} {q : Dkb} {c g : Nat} {d : Dk} {i : In} {va : Value} {wr w2 : World} {S' : Nat → Prop} (h : InW R w S q w.heap.size c d i va wr S') (hb : But g wr w2) (h1 : ¬ S' g) (h2 : g ≠ w.heap.size ∧ g ≠ w.heap.size + 1 ∧ w.heap.size ≤ g) {cs : Array Value} {ty : TypeId} (hc : wr.heap[g]? = some (.cells cs ty)) (hne : 3 ≠ ty) : InW R w S q w.heap.size c d i va w2 S' := by
 have l3 := (Array.getElem?_eq_some_iff.1 h.b3).1
 have l4 := (Array.getElem?_eq_some_iff.1 h.b4).1
 exact ⟨h.dk.but hb h1, h.st.but hb h2.2.2, (hb.block _ l3 (Ne.symm h2.1)).trans h.b3, (hb.block _ l4 (Ne.symm h2.2.1)).trans h.b4, h.n3, ow_same h.own fun x hx => hb.block x (World.ownsRow.lt h.own x hx).2 fun e => (row_not h.own hc hne) (by rw [hx, e]), h.nv⟩
theorem value_le {R : Int} {d : Dk} (h : DkB R d) {r : Int} (hr : 0 ≤ r ∧ r < R) : 1 ≤ (valueD d r).1 ∧ (valueD d r).1 ≤ d.vs + 1 := by
 cases e : d.of r with
 | some v => rw [valueD_some e]; have := (h.of r v e).2; dsimp only; omega
 | none => rw [valueD_none e]; have := h.vs; dsimp only; omega
theorem dins_c (w : World) (S : Nat → Prop) (q : Dkb) (c : Nat) (R : Int) (d : Dk) (i : In) (va : Value) (B : Nat) (h : DkM w S q c R d) (hc : c + 24 + 2 * i.args.length ≤ 1000000000) (hB0 : B ≤ w.heap.size) (hBS : ∀ b, S b → B ≤ b) (hA : ∀ W, Below B w W → RdI W va i.args) (hi : RdOk R i) (ht : ToOk R i) (hal : i.args.length ≤ 1000000) :
  Calls Tryd.prog 27 #[.pointer (some ⟨q.bd, 0, none⟩), aggI i va] w (OutQ S q (c + 24 + 2 * i.args.length) R (insD d i) w) := by
 obtain ⟨W2, hW2⟩ : ∃ W2, W2 = (w.alloc (insO i va)).alloc insZ := ⟨_, rfl⟩
 have hW2' : W2 = allocs w [insO i va, insZ] := hW2
 have hB : Below w.heap.size w W2 := by rw [hW2']; exact allocs_below _ _
 have H0 : Hid (W2.heap[w.heap.size]? = some (insO i va)) := by rw [hW2']; exact allocs_heap _ w 0 (by simp)
 have H1 : Hid (W2.heap[w.heap.size + 1]? = some insZ) := by rw [hW2']; exact allocs_heap _ w 1 (by simp)
 have HW2 := Lib.hid hW2.symm
 clear hW2 hW2'
 have HNS : Hid (¬ S w.heap.size ∧ ¬ S (w.heap.size + 1)) := ⟨fun e => by have := h.lt e; omega, fun e => by have := h.lt e; omega⟩
 have HP := Lib.hid (Stp.of_below (S := S) hB)
 have lx : w.heap.size < W2.heap.size := (Array.getElem?_eq_some_iff.1 H0.out).1
 have ly : w.heap.size + 1 < W2.heap.size := (Array.getElem?_eq_some_iff.1 H1.out).1
 have ER := Lib.hid (dreads_c W2 S q c R d i va B (h.below hB) (by omega) (by omega) hBS (fun W hW => hA W ((hB.mono hB0).trans hW)) hi hal)
 obtain ⟨aa, ac, hva, ha1, ha2, -⟩ := hA w (Below.refl _ _)
 subst hva
 have hRD := h.B.reads hi
 have HTO := Lib.hid (ht.reads hRD.2.1)
 have HRO := Lib.hid hRD.2.1
 have hlen : (readsD d i).1.args.length = i.args.length := readL_len i.args _
 clear h hB hA hBS hRD hi ht
 rw [insD_rest]
 unfold ReadQ at ER
 generalize readsD d i = rd at *
 obtain ⟨j, d1⟩ := rd
 dsimp only at ER HTO HRO hlen ⊢
 unfold insO insZ at HW2
 unfold insO at H0
 unfold aggI at ER ⊢
 obtain ⟨x0, x1, x2, x3, x4, x5, x6, x7, x8, x9, x10, -⟩ := cl11 H0.out
 go_enter Tryd.func27, Tryd.ntmps27
 go_wp2_with fail
 rw [HW2.out]
 clear HW2
 refine ER.out.mono ?_
 clear ER
 rintro e w3 ⟨va', S3, rfl, ho3, hv3, hd3, p3⟩
 clear x0 x1 x2 x3 x4 x5 x6 x7 x8 x9 x10
 have hx3 := (p3.keep _ lx HNS.out.1).trans H0.out
 obtain ⟨x0, x1, x2, x3, x4, x5, x6, x7, x8, x9, x10, l3⟩ := cl11 hx3
 have fx := fun o => frozen_of_heap hx3 o
 have f0 := fx 0
 have f1 := fx 1
 have f2 := fx 2
 have f3 := fx 3
 have f4 := fx 4
 have f5 := fx 5
 have f6 := fx 6
 have f7 := fx 7
 have f8 := fx 8
 have f9 := fx 9
 have f10 := fx 10
 clear fx
 have hp := put11 (i := i) (va := .slice aa i.args.length ac) hx3 j va'
 rw [← hlen] at ho3
 obtain ⟨av, cv, rfl⟩ := ow_form ho3
 have HIN : Hid (∀ wz, wz.heap[w.heap.size]? = some (insO j (.slice av j.args.length cv)) ∧ But w.heap.size w3 wz → ∃ S', InW R w S q w.heap.size (c + 4 + 2 * i.args.length) d1 j (.slice av j.args.length cv) wz S') := fun wz ⟨hz, hb⟩ => by
  have hs3 := p3.size
  refine ⟨S3, hd3.but hb (p3.away lx HNS.out.1), (HP.out.trans p3).but hb (Nat.le_refl _), hz, (hb.block _ (by omega) (by omega)).trans ((p3.keep _ ly HNS.out.2).trans H1.out), ⟨p3.away lx HNS.out.1, p3.away ly HNS.out.2⟩, ?_, hv3⟩
  exact ow_same (ow_base ho3 (by omega)) fun g hg => hb.block g (World.ownsRow.lt ho3 g hg).2 (by have := (World.ownsRow.lt ho3 g hg).1; omega)
 have HI4 := Lib.hid (HIN.out _ hp)
 clear hp ho3 hv3 hd3 p3 HIN hx3 H0 H1 HNS HP lx ly
 have HLEN := Lib.hid hlen
 clear hlen ha1 ha2 hal hB0
 obtain ⟨d2, HD2⟩ : ∃ d2, Hid (turnD d1 j.op = d2) := ⟨_, rfl⟩
 obtain ⟨d3, HD3⟩ : ∃ d3, Hid (putD d2 j = d3) := ⟨_, rfl⟩
 have HRS : Hid (restD d1 j = if defI j = -1 then ((j, true), d3) else setsD d3 j) := by
  show _ = _
  unfold restD
  rw [HD2.out, HD3.out]
 go_upto_region 2 with (fail)
 generalize ((((((((((w3.setCell ⟨w.heap.size, 0, none⟩ (.int .i64 j.op)).setCell ⟨w.heap.size, 1, none⟩ (.int .i64 j.d)).setCell ⟨w.heap.size, 2, none⟩ (.int .i64 j.a)).setCell ⟨w.heap.size, 3, none⟩ (.int .i64 j.b)).setCell ⟨w.heap.size, 4, none⟩ (.int .i64 j.fn)).setCell ⟨w.heap.size, 5, none⟩ (.int .i64 j.obj)).setCell ⟨w.heap.size, 6, none⟩ (.int .i64 j.off)).setCell ⟨w.heap.size, 7, none⟩ (.int .i64 j.size)).setCell ⟨w.heap.size, 8, none⟩ (.int .u32 j.num)).setCell ⟨w.heap.size, 9, none⟩ (.slice av j.args.length cv)).setCell ⟨w.heap.size, 10, none⟩ (.bool j.log) = w4 at *
 clear x0 x1 x2 x3 x4 x5 x6 x7 x8 x9 x10 l3 f0 f1 f2 f3 f4 f5 f6 f7 f8 f9 f10
 obtain ⟨S4, hI4⟩ := HI4.out
 have I4 := Lib.hid hI4
 clear HI4 hI4
 have hbd := I4.out.dk.bd
 have hx3 := I4.out.b3
 unfold insO at hx3
 obtain ⟨x0, x1, x2, x3, x4, x5, x6, x7, x8, x9, x10, lx⟩ := cl11 hx3
 clear hx3
 obtain ⟨y0, y1, y2, y3, y4, y5, ly⟩ := cl6 I4.out.dk.st
 have fy5 := frozen_of_heap I4.out.dk.st 5
 go_upto_block 0 with (fail)
 go_cut [5] from 6 to 28 (fun t5 wx => t5 = .bool false ∧ Hid (∃ S', InW R w S q w.heap.size (c + 5 + 2 * i.args.length) d2 j (.slice av j.args.length cv) wx S'))
 case first =>
  by_cases o6 : j.op = 6
  ·have g6 : (j.op == 6) = true := beq_iff_eq.2 o6
   have HT : Hid (d2 = ⟨d1.of, d1.ky, d1.num, d1.fs, d1.vs, d1.mm + 1⟩) := by show _ = _; rw [← HD2.out]; unfold turnD; rw [if_pos (.inl o6)]
   clear o6
   go_wp2_with fail
   go_meet
   case rel => exact ⟨rfl, S4, by rw [HT.out]; exact (I4.out.desk (by omega)).mono (by omega)⟩
  ·have g6 : (j.op == 6) = false := beq_eq_false_iff_ne.2 o6
   by_cases o9 : j.op = 9
   ·have g9 : (j.op == 9) = true := beq_iff_eq.2 o9
    have HT : Hid (d2 = ⟨d1.of, d1.ky, d1.num, d1.fs, d1.vs, d1.mm + 1⟩) := by show _ = _; rw [← HD2.out]; unfold turnD; rw [if_pos (.inr o9)]
    clear o6 o9
    go_wp2_with fail
    go_meet
    case rel => exact ⟨rfl, S4, by rw [HT.out]; exact (I4.out.desk (by omega)).mono (by omega)⟩
   ·have g9 : (j.op == 9) = false := beq_eq_false_iff_ne.2 o9
    have HT : Hid (d2 = d1) := by show _ = _; rw [← HD2.out]; unfold turnD; rw [if_neg (by omega)]
    clear o6 o9
    go_wp2_with fail
    go_meet
    case rel => exact ⟨rfl, S4, by rw [HT.out]; exact I4.out.mono (by omega)⟩
 case rest =>
  obtain ⟨rfl, HI5⟩ := hcut
  clear x0 x1 x2 x3 x4 x5 x6 x7 x8 x9 x10 lx
  clear y0 y1 y2 y3 y4 y5 ly
  clear fy5 I4 HD2
  obtain ⟨w5, rfl⟩ : ∃ w5, w5 = wc := ⟨_, rfl⟩
  obtain ⟨S5, hI5⟩ := HI5.out
  have I5 := Lib.hid hI5
  clear HI5 hI5
  have hbd := I5.out.dk.bd
  have hx3 := I5.out.b3
  unfold insO at hx3
  obtain ⟨x0, x1, x2, x3, x4, x5, x6, x7, x8, x9, x10, lx⟩ := cl11 hx3
  clear hx3
  go_upto_region 6 with (fail)
  go_cut [36] from 29 to 36 (fun t36 wx => t36 = .bool ((j.op == 6) && (j.size == 4)) ∧ w5 = wx)
  case first =>
   rcases boolTF (j.op == 6) with o6 | o6
   ·go_wp2_with fail
    go_meet
    case rel => exact ⟨by simp [o6], rfl⟩
   ·rcases boolTF (j.size == 4) with o4 | o4
    ·go_wp2_with fail
     go_meet
     case rel => exact ⟨by simp [o6, o4], rfl⟩
    ·go_wp2_with fail
     go_meet
     case rel => exact ⟨by simp [o6, o4], rfl⟩
  case rest =>
   obtain ⟨rfl, rfl⟩ := hcut
   generalize hz36 : ((j.op == 6) && (j.size == 4)) = z36 at *
   have HZ := Lib.hid hz36
   clear hz36
   go_upto_if 36 with (fail)
   go_cut [5] from 6 to 49 (fun t5 wx => t5 = .bool false ∧ Hid (∃ S', InW R w S q w.heap.size (c + 10 + 2 * i.args.length) d3 j (.slice av j.args.length cv) wx S'))
   case first =>
    cases z36
    ·have HT : Hid (d3 = d2) := by
      show _ = _
      rw [← HD3.out]
      unfold putD
      refine if_neg fun e => ?_
      have := HZ.out
      rw [e.1, e.2] at this
      cases this
     go_wp2_with fail
     go_meet
     case rel => exact ⟨rfl, S5, by rw [HT.out]; exact I5.out.mono (by omega)⟩
    ·have ho : j.op = 6 ∧ j.size = 4 := by
      have := HZ.out
      simpa using this
     have hra : 0 ≤ j.a ∧ j.a < R := by have h1 := HRO.out.a; have h2 := HRO.out.useA (by omega); omega
     have hrb : 0 ≤ j.b ∧ j.b < R := by have h1 := HRO.out.b; have h2 := HRO.out.useB (by omega); omega
     have HT : Hid (setKy (valueD (liesD d2 j).2 j.b).2 (liesD d2 j).1 (valueD (liesD d2 j).2 j.b).1 = d3) := by
      show _ = _
      rw [← HD3.out]
      unfold putD
      rw [if_pos ho]
     clear ho HZ HD3
     have HKW : Hid (KyW (liesD d2 j).1) := by
      have hv := value_le I5.out.dk.B hra
      have h5 := HTO.out.off
      have h6 := HTO.out.size
      refine kyW_of (i64_lit 5 rfl) (i64_lit 0 rfl) (i64_nat ?_) (i64_lit 0 rfl) (i64_lit 0 rfl) h5 h6 ⟨Int.le_refl 0, (by show (0 : Int) < 4294967296; decide)⟩ (i64_nat ?_)
      ·show _ ≤ (valueD d2 j.a).1 ∧ (valueD d2 j.a).1 ≤ _; omega
      ·show _ ≤ (valueD d2 j.a).2.mm ∧ (valueD d2 j.a).2.mm ≤ _; rw [mm_value]; omega
     have HVV : Hid (1 ≤ (valueD (liesD d2 j).2 j.b).1 ∧ (valueD (liesD d2 j).2 j.b).1 ≤ (valueD (liesD d2 j).2 j.b).2.vs) := ((I5.out.dk.B.value hra).1.value hrb).2.1
     have EL : Hid (∀ W S', DkM W S' q (c + 5 + 2 * i.args.length) R d2 → Calls Tryd.prog 38 #[.pointer (some ⟨q.bd, 0, none⟩), aggI j (.slice av j.args.length cv)] W (DkQ S' q (c + 5 + 2 * i.args.length + 2) R (keyV (liesD d2 j).1) (liesD d2 j).2 W)) := fun W S' h => lies_c W S' q _ R d2 j _ h (by omega) hra
     have EV : Hid (∀ W S', DkM W S' q (c + 5 + 2 * i.args.length + 2) R (liesD d2 j).2 → Calls Tryd.prog 28 #[.pointer (some ⟨q.bd, 0, none⟩), .int .i64 j.b] W (DkQ S' q (c + 5 + 2 * i.args.length + 2 + 2) R (.int .i64 (valueD (liesD d2 j).2 j.b).1) (valueD (liesD d2 j).2 j.b).2 W)) := fun W S' h => value_c W S' q _ R _ j.b h (by omega) hrb
     clear hra hrb
     generalize liesD d2 j = ld at *
     obtain ⟨ky, d5⟩ := ld
     dsimp only at EL EV HT HKW HVV
     generalize valueD d5 j.b = vd at *
     obtain ⟨v, d6⟩ := vd
     dsimp only at EV HT HVV
     unfold aggI keyV at EL
     go_upto_region 7 with (fail)
     go_cut [6, 7] from 37 to 43 (fun t6 t7 wx => ∃ kb, t6 = .pointer (some ⟨kb, 0, none⟩) ∧ t7 = .int .i64 v ∧ Hid (wx.heap[kb]? = some (keyO ky)) ∧ Hid (∃ S', InW R w S q w.heap.size (c + 5 + 2 * i.args.length + 2 + 2) d6 j (.slice av j.args.length cv) wx S'))
     case first =>
      refine wp_region_game (fun z => z = w.heap.size) (by kernel_rfl) ?_
      show wpE _ _ _ _ _ _ _ w5.drew
      refine E_mob2s [0, 1, 3, 4, 5] _ _ _ _ (by kernel_rfl) ?_
      simp only [List.map_cons, List.map_nil, List.getElem?_toArray, List.getElem?_cons_succ, List.getElem?_cons_zero, Option.getD_some, List.size_toArray, List.length_cons, List.length_nil, Nat.reduceAdd, Nat.reduceSub]
      repeat (go_big_quiet_step (fail))
      refine wpQuiet_nil ?_
      clear x0 x1 x2 x3 x4 x5 x6 x7 x8 x9 x10 lx
      have I6 := Lib.hid (I5.out.below (Below.refl _ _).drew)
      clear I5
      obtain ⟨w6, hw6⟩ : ∃ w6, w6 = w5.drew := ⟨_, rfl⟩
      rw [← hw6] at I6 ⊢
      clear hw6
      refine E_loud2 2 7 _ _ rfl rfl (by kernel_rfl) ?_ ?_
      all_goals simp only [List.getElem_toArray, List.getElem_cons_succ, List.getElem_cons_zero]
      ·go_wp2_with fail
       refine (EL.out _ _ I6.out.dk).mono ?_
       rintro e w7 ⟨rfl, S7, h7, p7⟩
       have HK7 := Lib.hid (p7.keepK (T := fun z => z = w.heap.size) (fun z hz => by rw [hz]; exact ⟨(Array.getElem?_eq_some_iff.1 I6.out.b3).1, I6.out.n3.1⟩))
       have I7 := Lib.hid (I6.out.step h7 p7)
       clear h7 p7
       go_wp2_with fail
       refine ⟨HK7.out, ?_⟩
       clear HK7
       refine E_loud2 6 7 _ _ rfl rfl (by kernel_rfl) ?_ ?_
       all_goals simp only [List.getElem_toArray, List.getElem_cons_succ, List.getElem_cons_zero]
       ·go_wp2_with fail
        refine (EV.out _ _ I7.out.dk).mono ?_
        rintro e w8 ⟨rfl, S8, h8, p8⟩
        have HK8 := Lib.hid (p8.keepK (T := fun z => z = w.heap.size) (fun z hz => by rw [hz]; exact ⟨(Array.getElem?_eq_some_iff.1 I7.out.b3).1, I7.out.n3.1⟩))
        have I8 := Lib.hid (I7.out.step h8 p8)
        clear h8 p8
        go_wp2_with fail
        refine ⟨HK8.out, ?_⟩
        clear HK8
        refine E_loud1 7 _ rfl (by kernel_rfl) ?_
        simp only [List.getElem_toArray, List.getElem_cons_succ, List.getElem_cons_zero]
        go_wp2_with fail
        have hA := below_alloc w8 (keyO ⟨0, 0, 0, 0, 0, 0, 0, 0, 0⟩)
        have HKB := Lib.hid (heap_alloc_new w8 (keyO ⟨0, 0, 0, 0, 0, 0, 0, 0, 0⟩))
        have HNK : Hid (¬ S8 w8.heap.size) := fun e => by have := I8.out.dk.lt e; omega
        have lkb : Hid (w8.heap.size < (w8.alloc (keyO ⟨0, 0, 0, 0, 0, 0, 0, 0, 0⟩)).heap.size) := (Array.getElem?_eq_some_iff.1 HKB.out).1
        have HK9 := Lib.hid (keep_below (S := fun z => z = w.heap.size) hA (fun z hz => by rw [hz]; exact (Array.getElem?_eq_some_iff.1 I8.out.b3).1))
        have I9 := Lib.hid (I8.out.below hA)
        refine ⟨HK9.out, ?_⟩
        clear hA HK9
        have hkb0 : w8.heap.size ≠ w.heap.size ∧ w8.heap.size ≠ w.heap.size + 1 ∧ w.heap.size ≤ w8.heap.size := by
         have := (Array.getElem?_eq_some_iff.1 I8.out.b3).1
         have := (Array.getElem?_eq_some_iff.1 I8.out.b4).1
         exact ⟨by omega, by omega, by omega⟩
        have HKN := Lib.hid hkb0
        clear hkb0
        unfold keyO at HKB I9 lkb
        generalize hkk : w8.heap.size = kb at HKB HNK lkb HKN ⊢
        generalize w8.alloc (.cells #[.int .i64 0, .int .i64 0, .int .i64 0, .int .i64 0, .int .i64 0, .int .i64 0, .int .i64 0, .int .u32 0, .int .i64 0] 94) = w9 at HKB I9 lkb ⊢
        clear hkk
        have hk9 := put9 (k0 := ⟨0, 0, 0, 0, 0, 0, 0, 0, 0⟩) (k := ky) HKB.out
        have IZ := Lib.hid (I9.out.but hk9.2 HNK.out HKN.out HKB.out (by decide))
        have HK9 := Lib.hid hk9.1
        have HKZ := Lib.hid (hk9.2.keepT (T := fun z => z = w.heap.size) (fun z hz => by rw [hz]; exact ⟨(Array.getElem?_eq_some_iff.1 I9.out.b3).1, Ne.symm HKN.out.1⟩))
        clear hk9
        have fk := fun o => frozen_of_heap HKB.out o
        have o0 := fk 0
        have o1 := fk 1
        have o2 := fk 2
        have o3 := fk 3
        have o4 := fk 4
        have o5 := fk 5
        have o6 := fk 6
        have o7 := fk 7
        have o8 := fk 8
        obtain ⟨k0, k1, k2, k3, k4, k5, k6, k7, k8, lk⟩ := cl9 HKB.out
        try dsimp only at k0 k1 k2 k3 k4 k5 k6 k7 k8
        clear fk
        refine E_loud1 8 _ rfl (by kernel_rfl) ?_
        simp only [List.getElem_toArray, List.getElem_cons_succ, List.getElem_cons_zero]
        go_wp2_with fail
        refine ⟨HKZ.out, ?_⟩
        refine E_mob2s [9] _ _ _ _ (by kernel_rfl) ?_
        simp only [List.map_cons, List.map_nil, List.getElem?_toArray, List.getElem?_cons_succ, List.getElem?_cons_zero, Option.getD_some, List.size_toArray, List.length_cons, List.length_nil, Nat.reduceAdd, Nat.reduceSub]
        repeat (go_big_quiet_step (fail))
        refine wpQuiet_nil ?_
        refine E_done (by kernel_rfl) ?_ _
        go_wp2_with fail
        go_meet
        case rel => exact ⟨kb, rfl, rfl, HK9, _, IZ.out⟩
       ·go_wp2_with fail
        have hA := below_alloc w7 (keyO ⟨0, 0, 0, 0, 0, 0, 0, 0, 0⟩)
        have HKB := Lib.hid (heap_alloc_new w7 (keyO ⟨0, 0, 0, 0, 0, 0, 0, 0, 0⟩))
        have HNK : Hid (¬ S7 w7.heap.size) := fun e => by have := I7.out.dk.lt e; omega
        have lkb : Hid (w7.heap.size < (w7.alloc (keyO ⟨0, 0, 0, 0, 0, 0, 0, 0, 0⟩)).heap.size) := (Array.getElem?_eq_some_iff.1 HKB.out).1
        have HK8 := Lib.hid (keep_below (S := fun z => z = w.heap.size) hA (fun z hz => by rw [hz]; exact (Array.getElem?_eq_some_iff.1 I7.out.b3).1))
        have I8 := Lib.hid (I7.out.below hA)
        refine ⟨HK8.out, ?_⟩
        clear hA HK8
        have hkb0 : w7.heap.size ≠ w.heap.size ∧ w7.heap.size ≠ w.heap.size + 1 ∧ w.heap.size ≤ w7.heap.size := by
         have := (Array.getElem?_eq_some_iff.1 I7.out.b3).1
         have := (Array.getElem?_eq_some_iff.1 I7.out.b4).1
         exact ⟨by omega, by omega, by omega⟩
        have HKN := Lib.hid hkb0
        clear hkb0
        unfold keyO at HKB I8 lkb
        generalize hkk : w7.heap.size = kb at HKB HNK lkb HKN ⊢
        generalize w7.alloc (.cells #[.int .i64 0, .int .i64 0, .int .i64 0, .int .i64 0, .int .i64 0, .int .i64 0, .int .i64 0, .int .u32 0, .int .i64 0] 94) = w8 at HKB I8 lkb ⊢
        clear hkk
        refine E_loud1 6 _ rfl (by kernel_rfl) ?_
        simp only [List.getElem_toArray, List.getElem_cons_succ, List.getElem_cons_zero]
        go_wp2_with fail
        refine (EV.out _ _ I8.out.dk).mono ?_
        rintro e w9 ⟨rfl, S9, h9, p9⟩
        have HK9 := Lib.hid (p9.keepK (T := fun z => z = w.heap.size) (fun z hz => by rw [hz]; exact ⟨(Array.getElem?_eq_some_iff.1 I8.out.b3).1, I8.out.n3.1⟩))
        have I9 := Lib.hid (I8.out.step h9 p9)
        have HKB := Lib.hid ((p9.keep _ (Array.getElem?_eq_some_iff.1 HKB.out).1 HNK.out).trans HKB.out)
        have HNK := Lib.hid (p9.away lkb.out HNK.out)
        have lkb : Hid (kb < w9.heap.size) := Nat.lt_of_lt_of_le lkb.out p9.size
        clear h9 p9
        go_wp2_with fail
        refine ⟨HK9.out, ?_⟩
        clear HK9
        have hk9 := put9 (k0 := ⟨0, 0, 0, 0, 0, 0, 0, 0, 0⟩) (k := ky) HKB.out
        have IZ := Lib.hid (I9.out.but hk9.2 HNK.out HKN.out HKB.out (by decide))
        have HK9 := Lib.hid hk9.1
        have HKZ := Lib.hid (hk9.2.keepT (T := fun z => z = w.heap.size) (fun z hz => by rw [hz]; exact ⟨(Array.getElem?_eq_some_iff.1 I9.out.b3).1, Ne.symm HKN.out.1⟩))
        clear hk9
        have fk := fun o => frozen_of_heap HKB.out o
        have o0 := fk 0
        have o1 := fk 1
        have o2 := fk 2
        have o3 := fk 3
        have o4 := fk 4
        have o5 := fk 5
        have o6 := fk 6
        have o7 := fk 7
        have o8 := fk 8
        obtain ⟨k0, k1, k2, k3, k4, k5, k6, k7, k8, lk⟩ := cl9 HKB.out
        try dsimp only at k0 k1 k2 k3 k4 k5 k6 k7 k8
        clear fk
        refine E_loud1 8 _ rfl (by kernel_rfl) ?_
        simp only [List.getElem_toArray, List.getElem_cons_succ, List.getElem_cons_zero]
        go_wp2_with fail
        refine ⟨HKZ.out, ?_⟩
        refine E_mob2s [9] _ _ _ _ (by kernel_rfl) ?_
        simp only [List.map_cons, List.map_nil, List.getElem?_toArray, List.getElem?_cons_succ, List.getElem?_cons_zero, Option.getD_some, List.size_toArray, List.length_cons, List.length_nil, Nat.reduceAdd, Nat.reduceSub]
        repeat (go_big_quiet_step (fail))
        refine wpQuiet_nil ?_
        refine E_done (by kernel_rfl) ?_ _
        go_wp2_with fail
        go_meet
        case rel => exact ⟨kb, rfl, rfl, HK9, _, IZ.out⟩
      ·go_wp2_with fail
       have hA := below_alloc w6 (keyO ⟨0, 0, 0, 0, 0, 0, 0, 0, 0⟩)
       have HKB := Lib.hid (heap_alloc_new w6 (keyO ⟨0, 0, 0, 0, 0, 0, 0, 0, 0⟩))
       have HNK : Hid (¬ S5 w6.heap.size) := fun e => by have := I6.out.dk.lt e; omega
       have lkb : Hid (w6.heap.size < (w6.alloc (keyO ⟨0, 0, 0, 0, 0, 0, 0, 0, 0⟩)).heap.size) := (Array.getElem?_eq_some_iff.1 HKB.out).1
       have HK7 := Lib.hid (keep_below (S := fun z => z = w.heap.size) hA (fun z hz => by rw [hz]; exact (Array.getElem?_eq_some_iff.1 I6.out.b3).1))
       have I7 := Lib.hid (I6.out.below hA)
       refine ⟨HK7.out, ?_⟩
       clear hA HK7
       have hkb0 : w6.heap.size ≠ w.heap.size ∧ w6.heap.size ≠ w.heap.size + 1 ∧ w.heap.size ≤ w6.heap.size := by
        have := (Array.getElem?_eq_some_iff.1 I6.out.b3).1
        have := (Array.getElem?_eq_some_iff.1 I6.out.b4).1
        exact ⟨by omega, by omega, by omega⟩
       have HKN := Lib.hid hkb0
       clear hkb0
       unfold keyO at HKB I7 lkb
       generalize hkk : w6.heap.size = kb at HKB HNK lkb HKN ⊢
       generalize w6.alloc (.cells #[.int .i64 0, .int .i64 0, .int .i64 0, .int .i64 0, .int .i64 0, .int .i64 0, .int .i64 0, .int .u32 0, .int .i64 0] 94) = w7 at HKB I7 lkb ⊢
       clear hkk
       refine E_loud1 2 _ rfl (by kernel_rfl) ?_
       simp only [List.getElem_toArray, List.getElem_cons_succ, List.getElem_cons_zero]
       go_wp2_with fail
       refine (EL.out _ _ I7.out.dk).mono ?_
       rintro e w8 ⟨rfl, S8, h8, p8⟩
       have HK8 := Lib.hid (p8.keepK (T := fun z => z = w.heap.size) (fun z hz => by rw [hz]; exact ⟨(Array.getElem?_eq_some_iff.1 I7.out.b3).1, I7.out.n3.1⟩))
       have I8 := Lib.hid (I7.out.step h8 p8)
       have HKB := Lib.hid ((p8.keep _ (Array.getElem?_eq_some_iff.1 HKB.out).1 HNK.out).trans HKB.out)
       have HNK := Lib.hid (p8.away lkb.out HNK.out)
       have lkb : Hid (kb < w8.heap.size) := Nat.lt_of_lt_of_le lkb.out p8.size
       clear h8 p8
       go_wp2_with fail
       refine ⟨HK8.out, ?_⟩
       clear HK8
       refine E_loud1 6 _ rfl (by kernel_rfl) ?_
       simp only [List.getElem_toArray, List.getElem_cons_succ, List.getElem_cons_zero]
       go_wp2_with fail
       refine (EV.out _ _ I8.out.dk).mono ?_
       rintro e w9 ⟨rfl, S9, h9, p9⟩
       have HK9 := Lib.hid (p9.keepK (T := fun z => z = w.heap.size) (fun z hz => by rw [hz]; exact ⟨(Array.getElem?_eq_some_iff.1 I8.out.b3).1, I8.out.n3.1⟩))
       have I9 := Lib.hid (I8.out.step h9 p9)
       have HKB := Lib.hid ((p9.keep _ (Array.getElem?_eq_some_iff.1 HKB.out).1 HNK.out).trans HKB.out)
       have HNK := Lib.hid (p9.away lkb.out HNK.out)
       have lkb : Hid (kb < w9.heap.size) := Nat.lt_of_lt_of_le lkb.out p9.size
       clear h9 p9
       go_wp2_with fail
       refine ⟨HK9.out, ?_⟩
       clear HK9
       have hk9 := put9 (k0 := ⟨0, 0, 0, 0, 0, 0, 0, 0, 0⟩) (k := ky) HKB.out
       have IZ := Lib.hid (I9.out.but hk9.2 HNK.out HKN.out HKB.out (by decide))
       have HK9 := Lib.hid hk9.1
       have HKZ := Lib.hid (hk9.2.keepT (T := fun z => z = w.heap.size) (fun z hz => by rw [hz]; exact ⟨(Array.getElem?_eq_some_iff.1 I9.out.b3).1, Ne.symm HKN.out.1⟩))
       clear hk9
       have fk := fun o => frozen_of_heap HKB.out o
       have o0 := fk 0
       have o1 := fk 1
       have o2 := fk 2
       have o3 := fk 3
       have o4 := fk 4
       have o5 := fk 5
       have o6 := fk 6
       have o7 := fk 7
       have o8 := fk 8
       obtain ⟨k0, k1, k2, k3, k4, k5, k6, k7, k8, lk⟩ := cl9 HKB.out
       try dsimp only at k0 k1 k2 k3 k4 k5 k6 k7 k8
       clear fk
       refine E_loud1 8 _ rfl (by kernel_rfl) ?_
       simp only [List.getElem_toArray, List.getElem_cons_succ, List.getElem_cons_zero]
       go_wp2_with fail
       refine ⟨HKZ.out, ?_⟩
       refine E_mob2s [9] _ _ _ _ (by kernel_rfl) ?_
       simp only [List.map_cons, List.map_nil, List.getElem?_toArray, List.getElem?_cons_succ, List.getElem?_cons_zero, Option.getD_some, List.size_toArray, List.length_cons, List.length_nil, Nat.reduceAdd, Nat.reduceSub]
       repeat (go_big_quiet_step (fail))
       refine wpQuiet_nil ?_
       refine E_done (by kernel_rfl) ?_ _
       go_wp2_with fail
       go_meet
       case rel => exact ⟨kb, rfl, rfl, HK9, _, IZ.out⟩
     case rest =>
      obtain ⟨kb, rfl, rfl, HKB, HI6⟩ := hcut
      clear x0 x1 x2 x3 x4 x5 x6 x7 x8 x9 x10 lx
      clear I5 EL EV
      obtain ⟨w6, rfl⟩ : ∃ w6, w6 = wc := ⟨_, rfl⟩
      obtain ⟨S6, hI6⟩ := HI6.out
      have I6 := Lib.hid hI6
      clear HI6 hI6
      obtain ⟨y0, y1, y2, y3, y4, y5, ly⟩ := cl6 I6.out.dk.st
      unfold keyO at HKB
      obtain ⟨k0, k1, k2, k3, k4, k5, k6, k7, k8, lk⟩ := cl9 HKB.out
      have hcm : c + 5 + 2 * i.args.length + 2 + 2 < maxLen := by unfold maxLen; omega
      go_upto_region 8 with (fail)
      refine wp_region_game (fun z => z = q.bd ∨ z = kb) (by kernel_rfl) ?_
      show wpE _ _ _ _ _ _ _ w6.drew
      refine E_mob2s [0, 1, 2, 3, 4, 5] _ _ _ _ (by kernel_rfl) ?_
      simp only [List.map_cons, List.map_nil, List.getElem?_toArray, List.getElem?_cons_succ, List.getElem?_cons_zero, Option.getD_some, List.size_toArray, List.length_cons, List.length_nil, Nat.reduceAdd, Nat.reduceSub]
      repeat (go_big_quiet_step (fail))
      refine wpQuiet_nil ?_
      clear y0 y1 y2 y3 y4 y5 ly
      clear k0 k1 k2 k3 k4 k5 k6 k7 k8 lk
      refine E_last 6 _ rfl (by kernel_rfl) ?_
      simp only [List.getElem_toArray, List.getElem_cons_succ, List.getElem_cons_zero]
      have hd6 := I6.out.dk
      obtain ⟨vf, h1⟩ := hd6
      have HX := Lib.hid (h1.same (w' := w6.drew) (Nat.le_refl _) (fun _ _ => rfl))
      clear h1
      go_wp2_with (at_mapUpdate; refine MapH.put HX.out.mky Tryd.underlying76 ky (.int .i64 v) HKW.out hcm rfl _ _ _ rfl rfl rfl rfl ?_; intro w7 hm7 hg7)
      refine E_done (by kernel_rfl) ?_ _
      have I7 : Hid (InW R w S q w.heap.size (c + 10 + 2 * i.args.length) d3 j (.slice av j.args.length cv) w7 S6) := by
       obtain ⟨hx2, px⟩ := HX.out.setKy (v := v) (k := ky) HVV.out hg7 (hm7.ext fun y => by split <;> rfl)
       have h2 := (I6.out.below (Below.refl _ _).drew).step ⟨vf, hx2⟩ px
       rw [HT.out] at h2
       exact h2.mono (by omega)
      clear hm7 hg7 HX I6
      go_wp2_with fail
      go_meet
      case rel => exact ⟨rfl, S6, I7.out⟩
   case rest =>
    obtain ⟨rfl, HI7⟩ := hcut
    clear x0 x1 x2 x3 x4 x5 x6 x7 x8 x9 x10 lx
    clear I5 HZ HD3
    obtain ⟨w7, rfl⟩ : ∃ w7, w7 = wc := ⟨_, rfl⟩
    obtain ⟨S7, hI7⟩ := HI7.out
    have I7 := Lib.hid hI7
    clear HI7 hI7 hbd
    have hx3 := I7.out.b3
    unfold insO at hx3
    obtain ⟨x0, x1, x2, x3, x4, x5, x6, x7, x8, x9, x10, lx⟩ := cl11 hx3
    clear hx3
    have EDF := Lib.hid (def_v j (.slice av j.args.length cv) w7)
    unfold aggI at EDF
    go_wp2_with fail
    refine EDF.out.mono ?_
    rintro e w8 ⟨rfl, hb8⟩
    have I8 := Lib.hid (I7.out.below hb8)
    clear x0 x1 x2 x3 x4 x5 x6 x7 x8 x9 x10 lx
    clear hb8 I7 EDF
    have hx3 := I8.out.b3
    unfold insO at hx3
    obtain ⟨x0, x1, x2, x3, x4, x5, x6, x7, x8, x9, x10, lx⟩ := cl11 hx3
    clear hx3
    have hdd := HRO.out.d
    have HSD : Hid (∀ v d4, toldD d3 j = (v, d4) → setsD d3 j = if v = 0 then ((j, true), haveD (freshD d4) (defI j) (d4.vs + 1)) else if (d4.of (defI j)).getD 0 = v then ((j, false), d4) else ((outD d4 j v, true), haveD d4 (defI j) v)) := fun v d4 e => by unfold setsD; rw [e]
    by_cases e1 : defI j = -1
    ·have g1 : (defI j == -1) = true := beq_iff_eq.2 e1
     have HR1 : Hid (restD d1 j = ((j, true), d3)) := by show _ = _; rw [HRS.out, if_pos e1]
     clear e1 HRS HSD hdd
     have hx4 := I8.out.b4
     unfold insZ at hx4
     obtain ⟨z0, z1, z2, z3, z4, z5, z6, z7, z8, z9, z10, lz⟩ := cl11 hx4
     have fz := fun o => frozen_of_heap hx4 o
     have f0 := fz 0
     have f1 := fz 1
     have f2 := fz 2
     have f3 := fz 3
     have f4 := fz 4
     have f5 := fz 5
     have f6 := fz 6
     have f7 := fz 7
     have f8 := fz 8
     have f9 := fz 9
     have f10 := fz 10
     clear hx4 fz
     go_wp2_with fail
     refine bodyPost_ret (v := .tuple #[aggI j (.slice av j.args.length cv), .bool true]) (by simp [results, Tryd.results27, go_sem, aggI, z0, z1, z2, z3, z4, z5, z6, z7, z8, z9, z10, f0, f1, f2, f3, f4, f5, f6, f7, f8, f9, f10]) rfl ?_
     rw [HR1.out]
     exact I8.out.fin ((((((((((((But.setCell _ _ _ _).trans (But.setCell _ _ _ _)).trans (But.setCell _ _ _ _)).trans (But.setCell _ _ _ _)).trans (But.setCell _ _ _ _)).trans (But.setCell _ _ _ _)).trans (But.setCell _ _ _ _)).trans (But.setCell _ _ _ _)).trans (But.setCell _ _ _ _)).trans (But.setCell _ _ _ _)).trans (But.setCell _ _ _ _))) (by omega) true
    ·have g1 : (defI j == -1) = false := beq_eq_false_iff_ne.2 e1
     have HR1 : Hid (restD d1 j = setsD d3 j) := by show _ = _; rw [HRS.out, if_neg e1]
     have hdr : 0 ≤ defI j ∧ defI j < R := by omega
     have HTD := Lib.hid (I8.out.dk.B.told HRO.out)
     have ET := Lib.hid (told_c w8 S7 q _ R d3 j (.slice av j.args.length cv) I8.out.dk (by omega) HTO.out)
     unfold aggI at ET
     clear e1 HRS hdd
     have HSX : Hid (∀ v d4, toldD d3 j = (v, d4) → restD d1 j = if v = 0 then ((j, true), haveD (freshD d4) (defI j) (d4.vs + 1)) else if (d4.of (defI j)).getD 0 = v then ((j, false), d4) else ((outD d4 j v, true), haveD d4 (defI j) v)) := fun v d4 e => HR1.out.trans (HSD.out v d4 e)
     have HOD : Hid (∀ d4 v, outD d4 j v = match d4.num v with | some n => constI (defI j) n | none => if holderD d4 v ≠ -1 then copyI (defI j) (holderD d4 v) else j) := fun d4 v => rfl
     clear HR1 HSD
     obtain ⟨td, htd⟩ : ∃ td, td = toldD d3 j := ⟨_, rfl⟩
     rw [← htd] at ET HTD
     obtain ⟨v, d4⟩ := td
     have HR2 := Lib.hid (HSX.out v d4 htd.symm)
     have HO2 := Lib.hid (HOD.out d4 v)
     clear HSX HOD htd
     dsimp only at ET HTD
     obtain ⟨dj, hdj⟩ : ∃ dj, dj = defI j := ⟨_, rfl⟩
     rw [← hdj] at g1 hdr HR2 HO2 ⊢
     clear hdj
     go_wp2_with fail
     refine ET.out.mono ?_
     rintro e w9 ⟨rfl, S9, h9, p9⟩
     have I9 := Lib.hid (I8.out.step h9 p9)
     clear h9 p9 ET I8
     clear x0 x1 x2 x3 x4 x5 x6 x7 x8 x9 x10 lx
     have hbd := I9.out.dk.bd
     by_cases v0 : v = 0
     ·have g2 : (v == 0) = true := beq_iff_eq.2 v0
      have HR3 : Hid (restD d1 j = ((j, true), haveD (freshD d4) dj (d4.vs + 1))) := by show _ = _; rw [HR2.out, if_pos v0]
      clear v0 HR2 HO2
      have EF := Lib.hid (fresh_c w9 S9 q _ R d4 I9.out.dk (by omega))
      go_wp2_with fail
      refine EF.out.mono ?_
      rintro e w10 ⟨rfl, S10, h10, p10⟩
      have I10 := Lib.hid (I9.out.step h10 p10)
      clear h10 p10 EF I9
      have EH := Lib.hid (have_c w10 S10 q _ R (freshD d4) dj (d4.vs + 1) I10.out.dk (by omega) hdr ⟨by omega, Int.le_refl _⟩)
      go_wp2_with fail
      refine EH.out.mono ?_
      rintro e w11 ⟨rfl, S11, h11, p11⟩
      have I11 := Lib.hid (I10.out.step h11 p11)
      clear h11 p11 EH I10
      have hx3 := I11.out.b3
      unfold insO at hx3
      obtain ⟨x0, x1, x2, x3, x4, x5, x6, x7, x8, x9, x10, lx⟩ := cl11 hx3
      clear hx3
      have hx4 := I11.out.b4
      unfold insZ at hx4
      obtain ⟨z0, z1, z2, z3, z4, z5, z6, z7, z8, z9, z10, lz⟩ := cl11 hx4
      have fz := fun o => frozen_of_heap hx4 o
      have f0 := fz 0
      have f1 := fz 1
      have f2 := fz 2
      have f3 := fz 3
      have f4 := fz 4
      have f5 := fz 5
      have f6 := fz 6
      have f7 := fz 7
      have f8 := fz 8
      have f9 := fz 9
      have f10 := fz 10
      clear hx4 fz
      go_wp2_with fail
      refine bodyPost_ret (v := .tuple #[aggI j (.slice av j.args.length cv), .bool true]) (by simp [results, Tryd.results27, go_sem, aggI, z0, z1, z2, z3, z4, z5, z6, z7, z8, z9, z10, f0, f1, f2, f3, f4, f5, f6, f7, f8, f9, f10]) rfl ?_
      rw [HR3.out]
      exact I11.out.fin ((((((((((((But.setCell _ _ _ _).trans (But.setCell _ _ _ _)).trans (But.setCell _ _ _ _)).trans (But.setCell _ _ _ _)).trans (But.setCell _ _ _ _)).trans (But.setCell _ _ _ _)).trans (But.setCell _ _ _ _)).trans (But.setCell _ _ _ _)).trans (But.setCell _ _ _ _)).trans (But.setCell _ _ _ _)).trans (But.setCell _ _ _ _))) (by omega) true
     ·have g2 : (v == 0) = false := beq_eq_false_iff_ne.2 v0
      have hvr : 1 ≤ v ∧ v ≤ d4.vs := by have := HTD.out.2; omega
      have hlk : (Instr.lookup 75 (.map (some q.bo)) (.int .i64 dj) false).run Tryd.prog w9 = .ok (.int .i64 ((d4.of dj).getD 0)) w9 := let ⟨vf, h⟩ := I9.out.dk; (h.lookOf hdr).2
      rw [if_neg v0] at HR2
      obtain ⟨y0, y1, y2, y3, y4, y5, ly⟩ := cl6 I9.out.dk.st
      by_cases v1 : (d4.of dj).getD 0 = v
      ·have g3 : ((d4.of dj).getD 0 == v) = true := beq_iff_eq.2 v1
       have HR3 : Hid (restD d1 j = ((j, false), d4)) := by show _ = _; rw [HR2.out, if_pos v1]
       clear v0 v1 HR2 HO2
       have hx3 := I9.out.b3
       unfold insO at hx3
       obtain ⟨x0, x1, x2, x3, x4, x5, x6, x7, x8, x9, x10, lx⟩ := cl11 hx3
       clear hx3
       have hx4 := I9.out.b4
       unfold insZ at hx4
       obtain ⟨z0, z1, z2, z3, z4, z5, z6, z7, z8, z9, z10, lz⟩ := cl11 hx4
       have fz := fun o => frozen_of_heap hx4 o
       have f0 := fz 0
       have f1 := fz 1
       have f2 := fz 2
       have f3 := fz 3
       have f4 := fz 4
       have f5 := fz 5
       have f6 := fz 6
       have f7 := fz 7
       have f8 := fz 8
       have f9 := fz 9
       have f10 := fz 10
       clear hx4 fz
       generalize (d4.of dj).getD 0 = ov at *
       go_wp2_with fail
       refine bodyPost_ret (v := .tuple #[aggI j (.slice av j.args.length cv), .bool false]) (by simp [results, Tryd.results27, go_sem, aggI, z0, z1, z2, z3, z4, z5, z6, z7, z8, z9, z10, f0, f1, f2, f3, f4, f5, f6, f7, f8, f9, f10]) rfl ?_
       rw [HR3.out]
       exact I9.out.fin ((((((((((((But.setCell _ _ _ _).trans (But.setCell _ _ _ _)).trans (But.setCell _ _ _ _)).trans (But.setCell _ _ _ _)).trans (But.setCell _ _ _ _)).trans (But.setCell _ _ _ _)).trans (But.setCell _ _ _ _)).trans (But.setCell _ _ _ _)).trans (But.setCell _ _ _ _)).trans (But.setCell _ _ _ _)).trans (But.setCell _ _ _ _))) (by omega) false
      ·have g3 : ((d4.of dj).getD 0 == v) = false := beq_eq_false_iff_ne.2 v1
       have HR3 : Hid (restD d1 j = ((outD d4 j v, true), haveD d4 dj v)) := by show _ = _; rw [HR2.out, if_neg v1]
       clear v0 v1 HR2
       have hx3 := I9.out.b3
       unfold insO at hx3
       obtain ⟨x0, x1, x2, x3, x4, x5, x6, x7, x8, x9, x10, lx⟩ := cl11 hx3
       clear hx3
       have X9 := Lib.hid I9.out.copy
       unfold insO at X9
       generalize (d4.of dj).getD 0 = ov at *
       go_upto_region 19 with (fail)
       clear hlk g3 ly
       clear x0 x1 x2 x3 x4 x5 x6 x7 x8 x9 x10 lx
       generalize w9.alloc (.cells #[.int .i64 j.op, .int .i64 j.d, .int .i64 j.a, .int .i64 j.b, .int .i64 j.fn, .int .i64 j.obj, .int .i64 j.off, .int .i64 j.size, .int .u32 j.num, .slice av j.args.length cv, .bool j.log] 40) = w10 at X9 ⊢
       generalize w9.heap.size = bx at X9 ⊢
       obtain ⟨y0, y1, y2, y3, y4, y5, ly⟩ := cl6 X9.out.dk.st
       have hx3 := X9.out.bb
       unfold insO at hx3
       skip
       obtain ⟨x0, x1, x2, x3, x4, x5, x6, x7, x8, x9, x10, lx⟩ := cl11 hx3
       clear hx3
       have hlk : (Instr.lookup 77 (.map (some q.bn)) (.int .i64 v) true).run Tryd.prog w10 = .ok (.tuple #[.int .u32 ((d4.num v).getD 0), .bool (d4.num v).isSome]) w10 := let ⟨vf, h⟩ := X9.out.dk; h.lookNum (v := v) ⟨by omega, by omega⟩
       have EH : Hid (∀ W S', DkM W S' q (c + 10 + 2 * i.args.length + 7) R d4 → Calls Tryd.prog 40 #[.pointer (some ⟨q.bd, 0, none⟩), .int .i64 dj, .int .i64 v] W fun e w' => e = .returned (.tuple #[]) ∧ ∃ S'', DkM w' S'' q (c + 10 + 2 * i.args.length + 7 + 1) R (haveD d4 dj v) ∧ Stp S' W w' S'') := fun W S' h => have_c W S' q _ R d4 dj v h (by omega) hdr hvr
       have EHO := Lib.hid (holder_c w10 S9 q _ R d4 v X9.out.dk (by omega) hvr)
       generalize holderD d4 v = hh at HO2 EHO
       cases hnum : d4.num v with
       | some n =>
        rw [hnum] at hlk HO2
        simp only [Option.isSome_some, Option.getD_some] at hlk
        have EK := Lib.hid (constant_c dj n w10)
        clear hnum EHO
        go_wp2_with fail
        refine EK.out.mono ?_
        rintro e w11 ⟨rfl, hb11⟩
        have X11 := Lib.hid (X9.out.below hb11)
        clear x0 x1 x2 x3 x4 x5 x6 x7 x8 x9 x10 lx
        clear y0 y1 y2 y3 y4 y5 ly
        clear hb11 EK X9 hlk
        have hx3 := X11.out.bb
        unfold insO at hx3
        skip
        obtain ⟨x0, x1, x2, x3, x4, x5, x6, x7, x8, x9, x10, lx⟩ := cl11 hx3
        have fx := fun o => frozen_of_heap hx3 o
        have f0 := fx 0
        have f1 := fx 1
        have f2 := fx 2
        have f3 := fx 3
        have f4 := fx 4
        have f5 := fx 5
        have f6 := fx 6
        have f7 := fx 7
        have f8 := fx 8
        have f9 := fx 9
        have f10 := fx 10
        clear fx hx3
        have hp := put11 X11.out.bb (constI dj n) (.slice none 0 0)
        have X12 := Lib.hid (X11.out.lay (o' := constI dj n) (vo' := .slice none 0 0) hp.2 hp.1 rfl rfl)
        clear hp X11
        go_wp2_with fail
        clear x0 x1 x2 x3 x4 x5 x6 x7 x8 x9 x10 lx
        clear f0 f1 f2 f3 f4 f5 f6 f7 f8 f9 f10
        refine (EH.out _ _ X12.out.dk).mono ?_
        rintro e w13 ⟨rfl, S13, h13, p13⟩
        have X13 := Lib.hid (X12.out.step h13 p13)
        clear h13 p13 EH X12
        have hx3 := X13.out.bb
        unfold insO at hx3
        unfold constI at hx3
        obtain ⟨x0, x1, x2, x3, x4, x5, x6, x7, x8, x9, x10, lx⟩ := cl11 hx3
        clear hx3
        have hx4 := X13.out.b4
        unfold insZ at hx4
        obtain ⟨z0, z1, z2, z3, z4, z5, z6, z7, z8, z9, z10, lz⟩ := cl11 hx4
        have fz := fun o => frozen_of_heap hx4 o
        have f0 := fz 0
        have f1 := fz 1
        have f2 := fz 2
        have f3 := fz 3
        have f4 := fz 4
        have f5 := fz 5
        have f6 := fz 6
        have f7 := fz 7
        have f8 := fz 8
        have f9 := fz 9
        have f10 := fz 10
        clear hx4 fz
        go_wp2_with fail
        refine bodyPost_ret (v := .tuple #[aggI (constI dj n) (.slice none 0 0), .bool true]) (by simp [results, Tryd.results27, go_sem, aggI, constI, copyI, z0, z1, z2, z3, z4, z5, z6, z7, z8, z9, z10, f0, f1, f2, f3, f4, f5, f6, f7, f8, f9, f10]) rfl ?_
        rw [HR3.out, HO2.out]
        exact X13.out.fin ((((((((((((But.setCell _ _ _ _).trans (But.setCell _ _ _ _)).trans (But.setCell _ _ _ _)).trans (But.setCell _ _ _ _)).trans (But.setCell _ _ _ _)).trans (But.setCell _ _ _ _)).trans (But.setCell _ _ _ _)).trans (But.setCell _ _ _ _)).trans (But.setCell _ _ _ _)).trans (But.setCell _ _ _ _)).trans (But.setCell _ _ _ _))) (by omega)
       | none =>
        rw [hnum] at hlk HO2
        simp only [Option.isSome_none, Option.getD_none] at hlk
        clear hnum
        go_wp2_with fail
        refine EHO.out.mono ?_
        clear EHO
        rintro e w11 ⟨rfl, rfl⟩
        by_cases h1 : hh = -1
        ·have g4 : (hh != -1) = false := by rw [h1]; rfl
         have HO2 : Hid (outD d4 j v = j) := by
          refine HO2.out.trans ?_
          exact if_neg fun e => e h1
         clear h1
         go_wp2_with fail
         clear x0 x1 x2 x3 x4 x5 x6 x7 x8 x9 x10 lx
         clear y0 y1 y2 y3 y4 y5 ly
         refine (EH.out _ _ X9.out.dk).mono ?_
         rintro e w13 ⟨rfl, S13, h13, p13⟩
         have X13 := Lib.hid (X9.out.step h13 p13)
         clear h13 p13 EH X9
         have hx3 := X13.out.bb
         unfold insO at hx3
         skip
         obtain ⟨x0, x1, x2, x3, x4, x5, x6, x7, x8, x9, x10, lx⟩ := cl11 hx3
         clear hx3
         have hx4 := X13.out.b4
         unfold insZ at hx4
         obtain ⟨z0, z1, z2, z3, z4, z5, z6, z7, z8, z9, z10, lz⟩ := cl11 hx4
         have fz := fun o => frozen_of_heap hx4 o
         have f0 := fz 0
         have f1 := fz 1
         have f2 := fz 2
         have f3 := fz 3
         have f4 := fz 4
         have f5 := fz 5
         have f6 := fz 6
         have f7 := fz 7
         have f8 := fz 8
         have f9 := fz 9
         have f10 := fz 10
         clear hx4 fz
         go_wp2_with fail
         refine bodyPost_ret (v := .tuple #[aggI j (.slice av j.args.length cv), .bool true]) (by simp [results, Tryd.results27, go_sem, aggI, constI, copyI, z0, z1, z2, z3, z4, z5, z6, z7, z8, z9, z10, f0, f1, f2, f3, f4, f5, f6, f7, f8, f9, f10]) rfl ?_
         rw [HR3.out, HO2.out]
         exact X13.out.fin ((((((((((((But.setCell _ _ _ _).trans (But.setCell _ _ _ _)).trans (But.setCell _ _ _ _)).trans (But.setCell _ _ _ _)).trans (But.setCell _ _ _ _)).trans (But.setCell _ _ _ _)).trans (But.setCell _ _ _ _)).trans (But.setCell _ _ _ _)).trans (But.setCell _ _ _ _)).trans (But.setCell _ _ _ _)).trans (But.setCell _ _ _ _))) (by omega)
        ·have g4 : (hh != -1) = true := by simpa using h1
         have HO2 : Hid (outD d4 j v = copyI dj hh) := by
          refine HO2.out.trans ?_
          exact if_pos h1
         clear h1
         have hx3 := X9.out.bb
         have fx := fun o => frozen_of_heap hx3 o
         have f0 := fx 0
         have f1 := fx 1
         have f2 := fx 2
         have f3 := fx 3
         have f4 := fx 4
         have f5 := fx 5
         have f6 := fx 6
         have f7 := fx 7
         have f8 := fx 8
         have f9 := fx 9
         have f10 := fx 10
         clear fx hx3
         have hp := put11 X9.out.bb (copyI dj hh) (.slice none 0 0)
         have X12 := Lib.hid (X9.out.lay (o' := copyI dj hh) (vo' := .slice none 0 0) hp.2 hp.1 rfl rfl)
         clear hp
         go_wp2_with fail
         clear x0 x1 x2 x3 x4 x5 x6 x7 x8 x9 x10 lx
         clear y0 y1 y2 y3 y4 y5 ly
         clear f0 f1 f2 f3 f4 f5 f6 f7 f8 f9 f10
         refine (EH.out _ _ X12.out.dk).mono ?_
         rintro e w13 ⟨rfl, S13, h13, p13⟩
         have X13 := Lib.hid (X12.out.step h13 p13)
         clear h13 p13 EH X12
         have hx3 := X13.out.bb
         unfold insO at hx3
         unfold copyI at hx3
         obtain ⟨x0, x1, x2, x3, x4, x5, x6, x7, x8, x9, x10, lx⟩ := cl11 hx3
         clear hx3
         have hx4 := X13.out.b4
         unfold insZ at hx4
         obtain ⟨z0, z1, z2, z3, z4, z5, z6, z7, z8, z9, z10, lz⟩ := cl11 hx4
         have fz := fun o => frozen_of_heap hx4 o
         have f0 := fz 0
         have f1 := fz 1
         have f2 := fz 2
         have f3 := fz 3
         have f4 := fz 4
         have f5 := fz 5
         have f6 := fz 6
         have f7 := fz 7
         have f8 := fz 8
         have f9 := fz 9
         have f10 := fz 10
         clear hx4 fz
         go_wp2_with fail
         refine bodyPost_ret (v := .tuple #[aggI (copyI dj hh) (.slice none 0 0), .bool true]) (by simp [results, Tryd.results27, go_sem, aggI, constI, copyI, z0, z1, z2, z3, z4, z5, z6, z7, z8, z9, z10, f0, f1, f2, f3, f4, f5, f6, f7, f8, f9, f10]) rfl ?_
         rw [HR3.out, HO2.out]
         exact X13.out.fin ((((((((((((But.setCell _ _ _ _).trans (But.setCell _ _ _ _)).trans (But.setCell _ _ _ _)).trans (But.setCell _ _ _ _)).trans (But.setCell _ _ _ _)).trans (But.setCell _ _ _ _)).trans (But.setCell _ _ _ _)).trans (But.setCell _ _ _ _)).trans (But.setCell _ _ _ _)).trans (But.setCell _ _ _ _)).trans (But.setCell _ _ _ _))) (by omega)
end Go.Proofs.YtkhfddodmjnecaaDoor
