/-
 Contracts of the parts of ir.Check: ends of blocks, instructions without what their operations have.
-/
import Derived.Test.YtchoiankeohonaaGreatDoorZInlineAll08
set_option linter.all false
namespace Go.Proofs.YtchoiankeohonaaGreatDoor
open Go.ChangeShapes Go.WideShapes Go.ChangeAt Go.RowKit
set_option maxHeartbeats 2000000
set_option maxRecDepth 20000

theorem end_c (m : Md) (p : Pr) (v V : Value) (b : Bk) (w : World) (h : LkV w v m p) (hb : BkV w V b) :
  Calls Tryz.prog 51 #[v, V] w fun e w' => e = .returned (.bool (endF p b)) ∧ Below w.heap.size w w' := by
 have EB : Hid (∀ n w', Ext w w' → Calls Tryz.prog 69 #[v, .int .i64 n] w' fun e w'' => e = .returned (.bool (blockF p n)) ∧ Below w'.heap.size w' w'') := fun n w' he => block_c m p v n w' (h.ext he)
 have ER : Hid (∀ r s w', Ext w w' → Calls Tryz.prog 67 #[v, .int .i64 r, .bool s] w' fun e w'' => e = .returned (.bool (regF p r s)) ∧ Below w'.heap.size w' w'') := fun r s w' he => reg_c m p v r s w' (h.ext he)
 obtain ⟨vg, vd, vp, nm, vo, vb, rfl, ⟨ag, cg, rfl, -⟩, ⟨ad, cd, rfl, -⟩, ⟨ap, cp, rfl, -⟩, ⟨ao, co, rfl, -⟩, ⟨ab, cb, rfl, -⟩⟩ := h
 obtain ⟨vi, rfl, ⟨ai, ci, rfl, -⟩⟩ := hb
 obtain ⟨W0, hW0⟩ : ∃ W0, W0 = (w.alloc (.cells #[.slice ag m.globs.length cg, .slice ad m.data.length cd, .slice ap m.procs.length cp, .int .i64 m.main, .string nm, .bool p.void, .int .i64 p.params, .int .i64 p.regs, .slice ao p.objs.length co, .slice ab p.blks.length cb] 89)).alloc (.cells #[.slice ai b.ins.length ci, .int .i64 b.fin, .int .i64 b.a, .int .i64 b.to, .int .i64 b.els] 51) := ⟨_, rfl⟩
 have hz0 : W0.heap.size = w.heap.size + 2 := by rw [hW0]; simp
 have HBX : Hid (∀ w', Below W0.heap.size W0 w' → ∀ j : Nat, j < 10 → w'.cell? ⟨w.heap.size, j, none⟩ = #[Value.slice ag m.globs.length cg, .slice ad m.data.length cd, .slice ap m.procs.length cp, .int .i64 m.main, .string nm, .bool p.void, .int .i64 p.params, .int .i64 p.regs, .slice ao p.objs.length co, .slice ab p.blks.length cb][j]?) := fun w' hb j _ => by
  rw [hb.cell (p := ⟨w.heap.size, j, none⟩) (by rw [hz0]; simp only; omega), hW0, (below_alloc (w.alloc (.cells #[.slice ag m.globs.length cg, .slice ad m.data.length cd, .slice ap m.procs.length cp, .int .i64 m.main, .string nm, .bool p.void, .int .i64 p.params, .int .i64 p.regs, .slice ao p.objs.length co, .slice ab p.blks.length cb] 89)) _).cell (p := ⟨w.heap.size, j, none⟩) (by simp)]
  exact cell_of_heap (heap_alloc_new w _) j
 have HBY : Hid (∀ w', Below W0.heap.size W0 w' → ∀ j : Nat, j < 5 → w'.cell? ⟨w.heap.size + 1, j, none⟩ = #[Value.slice ai b.ins.length ci, .int .i64 b.fin, .int .i64 b.a, .int .i64 b.to, .int .i64 b.els][j]?) := fun w' hb j _ => by
  rw [hb.cell (p := ⟨w.heap.size + 1, j, none⟩) (by rw [hz0]; simp only; omega), hW0]
  have := cell_of_heap (heap_alloc_new (w.alloc (.cells #[.slice ag m.globs.length cg, .slice ad m.data.length cd, .slice ap m.procs.length cp, .int .i64 m.main, .string nm, .bool p.void, .int .i64 p.params, .int .i64 p.regs, .slice ao p.objs.length co, .slice ab p.blks.length cb] 89)) (.cells #[.slice ai b.ins.length ci, .int .i64 b.fin, .int .i64 b.a, .int .i64 b.to, .int .i64 b.els] 51)) j
  simpa using this
 have HE : Hid (∀ w', Below W0.heap.size W0 w' → Ext w w') := fun w' hb => (show Ext w W0 by rw [hW0]; exact (Ext.alloc w _).trans (Ext.alloc _ _)).trans (Ext.below hb)
 have HR : Hid (∀ w', Below W0.heap.size W0 w' → Below w.heap.size w w') := fun w' hb => (show Below w.heap.size w W0 by rw [hW0]; exact (below_alloc w _).alloc (by simp) _).trans (hb.mono (by omega))
 have B0 : Hid (Below W0.heap.size W0 W0) := Below.refl _ _
 have HF : Hid (endF p b = if b.fin = 1 then blockF p b.to && (b.a == -1 && b.els == 0) else if b.fin = 2 then blockF p b.to && (blockF p b.els && regF p b.a true) else if b.fin = 3 then regF p b.a (!p.void) && (b.to == 0 && b.els == 0) else false) := rfl
 have HW0 := Lib.hid hW0
 clear hW0
 by_cases f1 : b.fin = 1
 ·rw [if_pos f1] at HF
  have g1 : (b.fin == 1) = true := beq_iff_eq.2 f1
  clear f1
  cases hx : blockF p b.to
  ·have HV : Hid (endF p b = false) := by show _ = _; rw [HF.out, hx]; rfl
   have EB1 := Lib.hid (EB.out b.to)
   rw [hx] at EB1
   clear hx
   go_enter Tryz.func51, Tryz.ntmps51
   go_wp2_with fail
   rw [← HW0.out]
   refine (EB1.out W0 (HE.out _ B0.out)).mono ?_
   rintro e w1 ⟨rfl, hb1⟩
   have B1 : Hid (Below W0.heap.size W0 w1) := B0.out.trans (hb1.mono B0.out.size)
   clear hb1
   have x0 := HBX.out w1 B1.out 0 (by decide)
   have x1 := HBX.out w1 B1.out 1 (by decide)
   have x2 := HBX.out w1 B1.out 2 (by decide)
   have x3 := HBX.out w1 B1.out 3 (by decide)
   have x4 := HBX.out w1 B1.out 4 (by decide)
   have x5 := HBX.out w1 B1.out 5 (by decide)
   have x6 := HBX.out w1 B1.out 6 (by decide)
   have x7 := HBX.out w1 B1.out 7 (by decide)
   have x8 := HBX.out w1 B1.out 8 (by decide)
   have x9 := HBX.out w1 B1.out 9 (by decide)
   simp at x0 x1 x2 x3 x4 x5 x6 x7 x8 x9
   have y0 := HBY.out w1 B1.out 0 (by decide)
   have y1 := HBY.out w1 B1.out 1 (by decide)
   have y2 := HBY.out w1 B1.out 2 (by decide)
   have y3 := HBY.out w1 B1.out 3 (by decide)
   have y4 := HBY.out w1 B1.out 4 (by decide)
   simp at y0 y1 y2 y3 y4
   go_wp2_with fail
   go_ret
   exact ⟨ret_b HV.out.symm, HR.out _ B1.out⟩
  ·have EB1 := Lib.hid (EB.out b.to)
   rw [hx] at EB1
   cases hy : (b.a == -1)
   ·have HV : Hid (endF p b = false) := by show _ = _; rw [HF.out, hx, hy]; rfl
    clear hx
    go_enter Tryz.func51, Tryz.ntmps51
    go_wp2_with fail
    rw [← HW0.out]
    refine (EB1.out W0 (HE.out _ B0.out)).mono ?_
    rintro e w1 ⟨rfl, hb1⟩
    have B1 : Hid (Below W0.heap.size W0 w1) := B0.out.trans (hb1.mono B0.out.size)
    clear hb1
    have x0 := HBX.out w1 B1.out 0 (by decide)
    have x1 := HBX.out w1 B1.out 1 (by decide)
    have x2 := HBX.out w1 B1.out 2 (by decide)
    have x3 := HBX.out w1 B1.out 3 (by decide)
    have x4 := HBX.out w1 B1.out 4 (by decide)
    have x5 := HBX.out w1 B1.out 5 (by decide)
    have x6 := HBX.out w1 B1.out 6 (by decide)
    have x7 := HBX.out w1 B1.out 7 (by decide)
    have x8 := HBX.out w1 B1.out 8 (by decide)
    have x9 := HBX.out w1 B1.out 9 (by decide)
    simp at x0 x1 x2 x3 x4 x5 x6 x7 x8 x9
    have y0 := HBY.out w1 B1.out 0 (by decide)
    have y1 := HBY.out w1 B1.out 1 (by decide)
    have y2 := HBY.out w1 B1.out 2 (by decide)
    have y3 := HBY.out w1 B1.out 3 (by decide)
    have y4 := HBY.out w1 B1.out 4 (by decide)
    simp at y0 y1 y2 y3 y4
    go_wp2_with fail
    go_ret
    exact ⟨ret_b HV.out.symm, HR.out _ B1.out⟩
   ·have HV : Hid (endF p b = (b.els == 0)) := by show _ = _; rw [HF.out, hx, hy]; rfl
    clear hx
    go_enter Tryz.func51, Tryz.ntmps51
    go_wp2_with fail
    rw [← HW0.out]
    refine (EB1.out W0 (HE.out _ B0.out)).mono ?_
    rintro e w1 ⟨rfl, hb1⟩
    have B1 : Hid (Below W0.heap.size W0 w1) := B0.out.trans (hb1.mono B0.out.size)
    clear hb1
    have x0 := HBX.out w1 B1.out 0 (by decide)
    have x1 := HBX.out w1 B1.out 1 (by decide)
    have x2 := HBX.out w1 B1.out 2 (by decide)
    have x3 := HBX.out w1 B1.out 3 (by decide)
    have x4 := HBX.out w1 B1.out 4 (by decide)
    have x5 := HBX.out w1 B1.out 5 (by decide)
    have x6 := HBX.out w1 B1.out 6 (by decide)
    have x7 := HBX.out w1 B1.out 7 (by decide)
    have x8 := HBX.out w1 B1.out 8 (by decide)
    have x9 := HBX.out w1 B1.out 9 (by decide)
    simp at x0 x1 x2 x3 x4 x5 x6 x7 x8 x9
    have y0 := HBY.out w1 B1.out 0 (by decide)
    have y1 := HBY.out w1 B1.out 1 (by decide)
    have y2 := HBY.out w1 B1.out 2 (by decide)
    have y3 := HBY.out w1 B1.out 3 (by decide)
    have y4 := HBY.out w1 B1.out 4 (by decide)
    simp at y0 y1 y2 y3 y4
    go_wp2_with fail
    go_ret
    exact ⟨ret_b HV.out.symm, HR.out _ B1.out⟩
 ·have g1 : (b.fin == 1) = false := beq_eq_false_iff_ne.2 f1
  rw [if_neg f1] at HF
  clear f1
  by_cases f2 : b.fin = 2
  ·rw [if_pos f2] at HF
   have g2 : (b.fin == 2) = true := beq_iff_eq.2 f2
   clear f2
   have EB1 := Lib.hid (EB.out b.to)
   have EB2 := Lib.hid (EB.out b.els)
   have ER3 := Lib.hid (ER.out b.a true)
   cases hx : blockF p b.to
   ·have HV : Hid (endF p b = false) := by show _ = _; rw [HF.out, hx]; rfl
    rw [hx] at EB1
    clear hx
    go_enter Tryz.func51, Tryz.ntmps51
    go_wp2_with fail
    rw [← HW0.out]
    refine (EB1.out W0 (HE.out _ B0.out)).mono ?_
    rintro e w1 ⟨rfl, hb1⟩
    have B1 : Hid (Below W0.heap.size W0 w1) := B0.out.trans (hb1.mono B0.out.size)
    clear hb1
    have x0 := HBX.out w1 B1.out 0 (by decide)
    have x1 := HBX.out w1 B1.out 1 (by decide)
    have x2 := HBX.out w1 B1.out 2 (by decide)
    have x3 := HBX.out w1 B1.out 3 (by decide)
    have x4 := HBX.out w1 B1.out 4 (by decide)
    have x5 := HBX.out w1 B1.out 5 (by decide)
    have x6 := HBX.out w1 B1.out 6 (by decide)
    have x7 := HBX.out w1 B1.out 7 (by decide)
    have x8 := HBX.out w1 B1.out 8 (by decide)
    have x9 := HBX.out w1 B1.out 9 (by decide)
    simp at x0 x1 x2 x3 x4 x5 x6 x7 x8 x9
    have y0 := HBY.out w1 B1.out 0 (by decide)
    have y1 := HBY.out w1 B1.out 1 (by decide)
    have y2 := HBY.out w1 B1.out 2 (by decide)
    have y3 := HBY.out w1 B1.out 3 (by decide)
    have y4 := HBY.out w1 B1.out 4 (by decide)
    simp at y0 y1 y2 y3 y4
    go_wp2_with fail
    go_ret
    exact ⟨ret_b HV.out.symm, HR.out _ B1.out⟩
   ·rw [hx] at EB1
    cases hy : blockF p b.els
    ·have HV : Hid (endF p b = false) := by show _ = _; rw [HF.out, hx, hy]; rfl
     rw [hy] at EB2
     clear hx hy
     go_enter Tryz.func51, Tryz.ntmps51
     go_wp2_with fail
     rw [← HW0.out]
     refine (EB1.out W0 (HE.out _ B0.out)).mono ?_
     rintro e w1 ⟨rfl, hb1⟩
     have B1 : Hid (Below W0.heap.size W0 w1) := B0.out.trans (hb1.mono B0.out.size)
     clear hb1
     have x0 := HBX.out w1 B1.out 0 (by decide)
     have x1 := HBX.out w1 B1.out 1 (by decide)
     have x2 := HBX.out w1 B1.out 2 (by decide)
     have x3 := HBX.out w1 B1.out 3 (by decide)
     have x4 := HBX.out w1 B1.out 4 (by decide)
     have x5 := HBX.out w1 B1.out 5 (by decide)
     have x6 := HBX.out w1 B1.out 6 (by decide)
     have x7 := HBX.out w1 B1.out 7 (by decide)
     have x8 := HBX.out w1 B1.out 8 (by decide)
     have x9 := HBX.out w1 B1.out 9 (by decide)
     simp at x0 x1 x2 x3 x4 x5 x6 x7 x8 x9
     have y0 := HBY.out w1 B1.out 0 (by decide)
     have y1 := HBY.out w1 B1.out 1 (by decide)
     have y2 := HBY.out w1 B1.out 2 (by decide)
     have y3 := HBY.out w1 B1.out 3 (by decide)
     have y4 := HBY.out w1 B1.out 4 (by decide)
     simp at y0 y1 y2 y3 y4
     go_wp2_with fail
     skip
     refine (EB2.out w1 (HE.out _ B1.out)).mono ?_
     rintro e w2 ⟨rfl, hb2⟩
     have B2 : Hid (Below W0.heap.size W0 w2) := B1.out.trans (hb2.mono B1.out.size)
     clear hb2
     clear x0 x1 x2 x3 x4 x5 x6 x7 x8 x9 y0 y1 y2 y3 y4
     have x0 := HBX.out w2 B2.out 0 (by decide)
     have x1 := HBX.out w2 B2.out 1 (by decide)
     have x2 := HBX.out w2 B2.out 2 (by decide)
     have x3 := HBX.out w2 B2.out 3 (by decide)
     have x4 := HBX.out w2 B2.out 4 (by decide)
     have x5 := HBX.out w2 B2.out 5 (by decide)
     have x6 := HBX.out w2 B2.out 6 (by decide)
     have x7 := HBX.out w2 B2.out 7 (by decide)
     have x8 := HBX.out w2 B2.out 8 (by decide)
     have x9 := HBX.out w2 B2.out 9 (by decide)
     simp at x0 x1 x2 x3 x4 x5 x6 x7 x8 x9
     have y0 := HBY.out w2 B2.out 0 (by decide)
     have y1 := HBY.out w2 B2.out 1 (by decide)
     have y2 := HBY.out w2 B2.out 2 (by decide)
     have y3 := HBY.out w2 B2.out 3 (by decide)
     have y4 := HBY.out w2 B2.out 4 (by decide)
     simp at y0 y1 y2 y3 y4
     go_wp2_with fail
     go_ret
     exact ⟨ret_b HV.out.symm, HR.out _ B2.out⟩
    ·have HV : Hid (endF p b = regF p b.a true) := by show _ = _; rw [HF.out, hx, hy]; rfl
     rw [hy] at EB2
     clear hx hy
     go_enter Tryz.func51, Tryz.ntmps51
     go_wp2_with fail
     rw [← HW0.out]
     refine (EB1.out W0 (HE.out _ B0.out)).mono ?_
     rintro e w1 ⟨rfl, hb1⟩
     have B1 : Hid (Below W0.heap.size W0 w1) := B0.out.trans (hb1.mono B0.out.size)
     clear hb1
     have x0 := HBX.out w1 B1.out 0 (by decide)
     have x1 := HBX.out w1 B1.out 1 (by decide)
     have x2 := HBX.out w1 B1.out 2 (by decide)
     have x3 := HBX.out w1 B1.out 3 (by decide)
     have x4 := HBX.out w1 B1.out 4 (by decide)
     have x5 := HBX.out w1 B1.out 5 (by decide)
     have x6 := HBX.out w1 B1.out 6 (by decide)
     have x7 := HBX.out w1 B1.out 7 (by decide)
     have x8 := HBX.out w1 B1.out 8 (by decide)
     have x9 := HBX.out w1 B1.out 9 (by decide)
     simp at x0 x1 x2 x3 x4 x5 x6 x7 x8 x9
     have y0 := HBY.out w1 B1.out 0 (by decide)
     have y1 := HBY.out w1 B1.out 1 (by decide)
     have y2 := HBY.out w1 B1.out 2 (by decide)
     have y3 := HBY.out w1 B1.out 3 (by decide)
     have y4 := HBY.out w1 B1.out 4 (by decide)
     simp at y0 y1 y2 y3 y4
     go_wp2_with fail
     skip
     refine (EB2.out w1 (HE.out _ B1.out)).mono ?_
     rintro e w2 ⟨rfl, hb2⟩
     have B2 : Hid (Below W0.heap.size W0 w2) := B1.out.trans (hb2.mono B1.out.size)
     clear hb2
     clear x0 x1 x2 x3 x4 x5 x6 x7 x8 x9 y0 y1 y2 y3 y4
     have x0 := HBX.out w2 B2.out 0 (by decide)
     have x1 := HBX.out w2 B2.out 1 (by decide)
     have x2 := HBX.out w2 B2.out 2 (by decide)
     have x3 := HBX.out w2 B2.out 3 (by decide)
     have x4 := HBX.out w2 B2.out 4 (by decide)
     have x5 := HBX.out w2 B2.out 5 (by decide)
     have x6 := HBX.out w2 B2.out 6 (by decide)
     have x7 := HBX.out w2 B2.out 7 (by decide)
     have x8 := HBX.out w2 B2.out 8 (by decide)
     have x9 := HBX.out w2 B2.out 9 (by decide)
     simp at x0 x1 x2 x3 x4 x5 x6 x7 x8 x9
     have y0 := HBY.out w2 B2.out 0 (by decide)
     have y1 := HBY.out w2 B2.out 1 (by decide)
     have y2 := HBY.out w2 B2.out 2 (by decide)
     have y3 := HBY.out w2 B2.out 3 (by decide)
     have y4 := HBY.out w2 B2.out 4 (by decide)
     simp at y0 y1 y2 y3 y4
     go_wp2_with fail
     skip
     refine (ER3.out w2 (HE.out _ B2.out)).mono ?_
     rintro e w3 ⟨rfl, hb3⟩
     have B3 : Hid (Below W0.heap.size W0 w3) := B2.out.trans (hb3.mono B2.out.size)
     clear hb3
     go_wp2_with fail
     go_ret
     exact ⟨ret_b HV.out.symm, HR.out _ B3.out⟩
  ·have g2 : (b.fin == 2) = false := beq_eq_false_iff_ne.2 f2
   rw [if_neg f2] at HF
   clear f2
   by_cases f3 : b.fin = 3
   ·rw [if_pos f3] at HF
    have g3 : (b.fin == 3) = true := beq_iff_eq.2 f3
    clear f3
    have ER1 := Lib.hid (ER.out b.a (!p.void))
    cases hx : regF p b.a (!p.void)
    ·have HV : Hid (endF p b = false) := by show _ = _; rw [HF.out, hx]; rfl
     rw [hx] at ER1
     clear hx
     go_enter Tryz.func51, Tryz.ntmps51
     go_wp2_with fail
     rw [← HW0.out]
     refine (ER1.out W0 (HE.out _ B0.out)).mono ?_
     rintro e w1 ⟨rfl, hb1⟩
     have B1 : Hid (Below W0.heap.size W0 w1) := B0.out.trans (hb1.mono B0.out.size)
     clear hb1
     have x0 := HBX.out w1 B1.out 0 (by decide)
     have x1 := HBX.out w1 B1.out 1 (by decide)
     have x2 := HBX.out w1 B1.out 2 (by decide)
     have x3 := HBX.out w1 B1.out 3 (by decide)
     have x4 := HBX.out w1 B1.out 4 (by decide)
     have x5 := HBX.out w1 B1.out 5 (by decide)
     have x6 := HBX.out w1 B1.out 6 (by decide)
     have x7 := HBX.out w1 B1.out 7 (by decide)
     have x8 := HBX.out w1 B1.out 8 (by decide)
     have x9 := HBX.out w1 B1.out 9 (by decide)
     simp at x0 x1 x2 x3 x4 x5 x6 x7 x8 x9
     have y0 := HBY.out w1 B1.out 0 (by decide)
     have y1 := HBY.out w1 B1.out 1 (by decide)
     have y2 := HBY.out w1 B1.out 2 (by decide)
     have y3 := HBY.out w1 B1.out 3 (by decide)
     have y4 := HBY.out w1 B1.out 4 (by decide)
     simp at y0 y1 y2 y3 y4
     go_wp2_with fail
     go_ret
     exact ⟨ret_b HV.out.symm, HR.out _ B1.out⟩
    ·rw [hx] at ER1
     cases hy : (b.to == 0)
     ·have HV : Hid (endF p b = false) := by show _ = _; rw [HF.out, hx, hy]; rfl
      clear hx
      go_enter Tryz.func51, Tryz.ntmps51
      go_wp2_with fail
      rw [← HW0.out]
      refine (ER1.out W0 (HE.out _ B0.out)).mono ?_
      rintro e w1 ⟨rfl, hb1⟩
      have B1 : Hid (Below W0.heap.size W0 w1) := B0.out.trans (hb1.mono B0.out.size)
      clear hb1
      have x0 := HBX.out w1 B1.out 0 (by decide)
      have x1 := HBX.out w1 B1.out 1 (by decide)
      have x2 := HBX.out w1 B1.out 2 (by decide)
      have x3 := HBX.out w1 B1.out 3 (by decide)
      have x4 := HBX.out w1 B1.out 4 (by decide)
      have x5 := HBX.out w1 B1.out 5 (by decide)
      have x6 := HBX.out w1 B1.out 6 (by decide)
      have x7 := HBX.out w1 B1.out 7 (by decide)
      have x8 := HBX.out w1 B1.out 8 (by decide)
      have x9 := HBX.out w1 B1.out 9 (by decide)
      simp at x0 x1 x2 x3 x4 x5 x6 x7 x8 x9
      have y0 := HBY.out w1 B1.out 0 (by decide)
      have y1 := HBY.out w1 B1.out 1 (by decide)
      have y2 := HBY.out w1 B1.out 2 (by decide)
      have y3 := HBY.out w1 B1.out 3 (by decide)
      have y4 := HBY.out w1 B1.out 4 (by decide)
      simp at y0 y1 y2 y3 y4
      go_wp2_with fail
      go_ret
      exact ⟨ret_b HV.out.symm, HR.out _ B1.out⟩
     ·have HV : Hid (endF p b = (b.els == 0)) := by show _ = _; rw [HF.out, hx, hy]; rfl
      clear hx
      go_enter Tryz.func51, Tryz.ntmps51
      go_wp2_with fail
      rw [← HW0.out]
      refine (ER1.out W0 (HE.out _ B0.out)).mono ?_
      rintro e w1 ⟨rfl, hb1⟩
      have B1 : Hid (Below W0.heap.size W0 w1) := B0.out.trans (hb1.mono B0.out.size)
      clear hb1
      have x0 := HBX.out w1 B1.out 0 (by decide)
      have x1 := HBX.out w1 B1.out 1 (by decide)
      have x2 := HBX.out w1 B1.out 2 (by decide)
      have x3 := HBX.out w1 B1.out 3 (by decide)
      have x4 := HBX.out w1 B1.out 4 (by decide)
      have x5 := HBX.out w1 B1.out 5 (by decide)
      have x6 := HBX.out w1 B1.out 6 (by decide)
      have x7 := HBX.out w1 B1.out 7 (by decide)
      have x8 := HBX.out w1 B1.out 8 (by decide)
      have x9 := HBX.out w1 B1.out 9 (by decide)
      simp at x0 x1 x2 x3 x4 x5 x6 x7 x8 x9
      have y0 := HBY.out w1 B1.out 0 (by decide)
      have y1 := HBY.out w1 B1.out 1 (by decide)
      have y2 := HBY.out w1 B1.out 2 (by decide)
      have y3 := HBY.out w1 B1.out 3 (by decide)
      have y4 := HBY.out w1 B1.out 4 (by decide)
      simp at y0 y1 y2 y3 y4
      go_wp2_with fail
      go_ret
      exact ⟨ret_b HV.out.symm, HR.out _ B1.out⟩
   ·have g3 : (b.fin == 3) = false := beq_eq_false_iff_ne.2 f3
    have HV : Hid (endF p b = false) := by show _ = _; rw [HF.out, if_neg f3]
    clear f3
    go_enter Tryz.func51, Tryz.ntmps51
    go_wp2_with fail
    rw [← HW0.out]
    go_ret
    exact ⟨ret_b HV.out.symm, HR.out _ B0.out⟩
end Go.Proofs.YtchoiankeohonaaGreatDoor
