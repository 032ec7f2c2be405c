/-
 Contracts of the parts of ir.Check: instructions.
-/
import Derived.Test.YtchoiankeohonaaGreatDoorZInlineAll18
set_option linter.all false
namespace Go.Proofs.YtchoiankeohonaaGreatDoor
open Go.ChangeShapes Go.WideShapes Go.ChangeAt Go.RowKit
set_option maxHeartbeats 4000000
set_option maxRecDepth 20000

theorem insL_c (m : Md) (p : Pr) (v V : Value) (i : In) (w : World) (h : LkV w v m p) (hi : InV w V i) :
  Calls Tryz.prog 50 #[v, V] w fun e w' => e = .returned (.bool (okI m p i)) ∧ Below w.heap.size w w' := by
 have ER : Hid (∀ r s w', Ext w w' → Calls Tryz.prog 67 #[v, .int .i64 r, .bool s] w' fun e w'' => e = .returned (.bool (regF p r s)) ∧ Below w'.heap.size w' w'') := fun r s w' he => reg_c m p v r s w' (h.ext he)
 have EB : Hid (∀ w', Ext w w' → Calls Tryz.prog 65 #[V] w' fun e w'' => e = .returned (.bool (bareF i)) ∧ Below w'.heap.size w' w'') := fun w' he => bare_c i V w' (hi.ext he)
 have EC : Hid (∀ w', Ext w w' → Calls Tryz.prog 66 #[v, V] w' fun e w'' => e = .returned (.bool (callF m p i)) ∧ Below w'.heap.size w' w'') := fun w' he => call_c m p v V i w' (h.ext he) (hi.ext he)
 obtain ⟨vg, vd, vp, nm, vo, vb, rfl, ⟨ag, cg, rfl, -⟩, ⟨ad, cd, rfl, -⟩, ⟨ap, cp, rfl, -⟩, ⟨ao, co, rfl, -⟩, ⟨ab, cb, rfl, -⟩⟩ := h
 obtain ⟨va, rfl, ⟨aa, ca, rfl, -⟩⟩ := hi
 obtain ⟨W0, hW0⟩ : ∃ W0, W0 = (w.alloc (.cells #[.slice ag m.globs.length cg, .slice ad m.data.length cd, .slice ap m.procs.length cp, .int .i64 m.main, .string nm, .bool p.void, .int .i64 p.params, .int .i64 p.regs, .slice ao p.objs.length co, .slice ab p.blks.length cb] 89)).alloc (.cells #[.int .i64 i.op, .int .i64 i.d, .int .i64 i.a, .int .i64 i.b, .int .i64 i.fn, .int .i64 i.obj, .int .i64 i.off, .int .i64 i.size, .int .u32 i.num, .slice aa i.args.length ca, .bool i.log] 48) := ⟨_, rfl⟩
 have hz0 : W0.heap.size = w.heap.size + 2 := by rw [hW0]; simp
 have HBX : Hid (∀ w', Below W0.heap.size W0 w' → ∀ j : Nat, j < 10 → w'.cell? ⟨w.heap.size, j, none⟩ = #[Value.slice ag m.globs.length cg, .slice ad m.data.length cd, .slice ap m.procs.length cp, .int .i64 m.main, .string nm, .bool p.void, .int .i64 p.params, .int .i64 p.regs, .slice ao p.objs.length co, .slice ab p.blks.length cb][j]?) := fun w' hb j _ => by
  rw [hb.cell (p := ⟨w.heap.size, j, none⟩) (by rw [hz0]; simp only; omega), hW0, (below_alloc (w.alloc (.cells #[.slice ag m.globs.length cg, .slice ad m.data.length cd, .slice ap m.procs.length cp, .int .i64 m.main, .string nm, .bool p.void, .int .i64 p.params, .int .i64 p.regs, .slice ao p.objs.length co, .slice ab p.blks.length cb] 89)) _).cell (p := ⟨w.heap.size, j, none⟩) (by simp)]
  exact cell_of_heap (heap_alloc_new w _) j
 have HBY : Hid (∀ w', Below W0.heap.size W0 w' → ∀ j : Nat, j < 11 → w'.cell? ⟨w.heap.size + 1, j, none⟩ = #[Value.int .i64 i.op, .int .i64 i.d, .int .i64 i.a, .int .i64 i.b, .int .i64 i.fn, .int .i64 i.obj, .int .i64 i.off, .int .i64 i.size, .int .u32 i.num, .slice aa i.args.length ca, .bool i.log][j]?) := fun w' hb j _ => by
  rw [hb.cell (p := ⟨w.heap.size + 1, j, none⟩) (by rw [hz0]; simp only; omega), hW0]
  have := cell_of_heap (heap_alloc_new (w.alloc (.cells #[.slice ag m.globs.length cg, .slice ad m.data.length cd, .slice ap m.procs.length cp, .int .i64 m.main, .string nm, .bool p.void, .int .i64 p.params, .int .i64 p.regs, .slice ao p.objs.length co, .slice ab p.blks.length cb] 89)) (.cells #[.int .i64 i.op, .int .i64 i.d, .int .i64 i.a, .int .i64 i.b, .int .i64 i.fn, .int .i64 i.obj, .int .i64 i.off, .int .i64 i.size, .int .u32 i.num, .slice aa i.args.length ca, .bool i.log] 48)) j
  simpa using this
 have HE : Hid (∀ w', Below W0.heap.size W0 w' → Ext w w') := fun w' hb => (show Ext w W0 by rw [hW0]; exact (Ext.alloc w _).trans (Ext.alloc _ _)).trans (Ext.below hb)
 have HR : Hid (∀ w', Below W0.heap.size W0 w' → Below w.heap.size w w') := fun w' hb => (show Below w.heap.size w W0 by rw [hW0]; exact (below_alloc w _).alloc (by simp) _).trans (hb.mono (by omega))
 have B0 : Hid (Below W0.heap.size W0 W0) := Below.refl _ _
 have hza : W0.heap.size ≤ w.heap.size + 2 := Nat.le_of_eq hz0
 have hzb : w.heap.size + 2 ≤ W0.heap.size := Nat.le_of_eq hz0.symm
 have hl0 : w.heap.size < W0.heap.size := by omega
 have hl1 : w.heap.size + 1 < W0.heap.size := by omega
 have HW0 := Lib.hid hW0
 clear hW0 hz0
 have HF : Hid (okI m p i = ((decide (1 ≤ i.op) && (decide (i.op ≤ 12) && bareF i)) && if i.op = 9 then callF m p i && (regF p i.a false && regF p i.b false) else (regF p i.d (i.op != 6 && (i.op != 10 && i.op != 12)) && (regF p i.a (readsA i.op) && regF p i.b (readsB i.op))) && moreF m p i)) := rfl
 have HM : Hid (moreF m p i = if i.op = 3 then decide (1 ≤ i.fn) && decide (i.fn ≤ 16) else if i.op = 4 then decide (17 ≤ i.fn) && decide (i.fn ≤ 19) else if i.op = 5 ∨ i.op = 6 then (i.size == 1 || i.size == 4) && offF i.off else if i.op = 7 then (decide (0 ≤ i.obj) && decide (i.obj < p.objs.length)) && offF i.off else if i.op = 8 then (decide (0 ≤ i.obj) && decide (i.obj < m.globs.length)) && offF i.off else true) := rfl
 go_enter Tryz.func50, Tryz.ntmps50
 go_upto_region 2 with (go_at_call 64; refine (reads_c _ _).mono ?_; rintro e w' ⟨rfl, rfl⟩)
 rw [← HW0.out]
 have y0 := HBY.out W0 B0.out 0 (by decide)
 have y1 := HBY.out W0 B0.out 1 (by decide)
 have y2 := HBY.out W0 B0.out 2 (by decide)
 have y3 := HBY.out W0 B0.out 3 (by decide)
 have y4 := HBY.out W0 B0.out 4 (by decide)
 have y5 := HBY.out W0 B0.out 5 (by decide)
 have y6 := HBY.out W0 B0.out 6 (by decide)
 have y7 := HBY.out W0 B0.out 7 (by decide)
 have y8 := HBY.out W0 B0.out 8 (by decide)
 have y9 := HBY.out W0 B0.out 9 (by decide)
 have y10 := HBY.out W0 B0.out 10 (by decide)
 simp at y0 y1 y2 y3 y4 y5 y6 y7 y8 y9 y10
 go_cut [7] from 14 to 26 (fun d wx => d = .bool (i.op != 6 && (i.op != 10 && i.op != 12)) ∧ W0 = wx)
 case first =>
  cases h6 : (i.op != 6)
  ·go_wp2_with fail
   go_meet
   case rel => exact ⟨by rw [h6]; rfl, rfl⟩
  ·cases h10 : (i.op != 10)
   ·go_wp2_with fail
    go_meet
    case rel => exact ⟨by rw [h6, h10]; rfl, rfl⟩
   ·go_wp2_with fail
    go_meet
    case rel => exact ⟨by rw [h6, h10]; rfl, rfl⟩
 case rest =>
  obtain ⟨rfl, rfl⟩ := hcut
  have H9 : Hid (i.op = 9 → okI m p i = ((decide (1 ≤ i.op) && (decide (i.op ≤ 12) && bareF i)) && (callF m p i && (regF p i.a false && regF p i.b false)))) := fun h => by rw [HF.out, if_pos h]
  have H8 : Hid (i.op ≠ 9 → okI m p i = ((decide (1 ≤ i.op) && (decide (i.op ≤ 12) && bareF i)) && ((regF p i.d (i.op != 6 && (i.op != 10 && i.op != 12)) && (regF p i.a (readsA i.op) && regF p i.b (readsB i.op))) && moreF m p i))) := fun h => by rw [HF.out, if_neg h]
  have ER1 := Lib.hid (ER.out i.d (i.op != 6 && (i.op != 10 && i.op != 12)))
  generalize hdd : (i.op != 6 && (i.op != 10 && i.op != 12)) = dd at H8 ER1
  clear hdd
  by_cases l1 : 1 ≤ i.op
  ·have e1 : decide (i.op < 1) = false := decide_eq_false (by omega)
   by_cases l2 : i.op ≤ 12
   ·have e2 : decide (12 < i.op) = false := decide_eq_false (by omega)
    have d1 : decide (1 ≤ i.op) = true := decide_eq_true l1
    have d2 : decide (i.op ≤ 12) = true := decide_eq_true l2
    rw [d1, d2, Bool.true_and, Bool.true_and] at H9 H8
    clear d1 d2 HF
    go_wp2_with fail
    refine (EB.out W0 (HE.out _ B0.out)).mono ?_
    rintro e w1 ⟨rfl, hb1⟩
    have B1 : Hid (Below W0.heap.size W0 w1) := B0.out.trans (hb1.mono B0.out.size)
    clear hb1
    clear y0 y1 y2 y3 y4 y5 y6 y7 y8 y9 y10
    have x0 := HBX.out w1 B1.out 0 (by decide)
    have x1 := HBX.out w1 B1.out 1 (by decide)
    have x2 := HBX.out w1 B1.out 2 (by decide)
    have x3 := HBX.out w1 B1.out 3 (by decide)
    have x4 := HBX.out w1 B1.out 4 (by decide)
    have x5 := HBX.out w1 B1.out 5 (by decide)
    have x6 := HBX.out w1 B1.out 6 (by decide)
    have x7 := HBX.out w1 B1.out 7 (by decide)
    have x8 := HBX.out w1 B1.out 8 (by decide)
    have x9 := HBX.out w1 B1.out 9 (by decide)
    simp at x0 x1 x2 x3 x4 x5 x6 x7 x8 x9
    have y0 := HBY.out w1 B1.out 0 (by decide)
    have y1 := HBY.out w1 B1.out 1 (by decide)
    have y2 := HBY.out w1 B1.out 2 (by decide)
    have y3 := HBY.out w1 B1.out 3 (by decide)
    have y4 := HBY.out w1 B1.out 4 (by decide)
    have y5 := HBY.out w1 B1.out 5 (by decide)
    have y6 := HBY.out w1 B1.out 6 (by decide)
    have y7 := HBY.out w1 B1.out 7 (by decide)
    have y8 := HBY.out w1 B1.out 8 (by decide)
    have y9 := HBY.out w1 B1.out 9 (by decide)
    have y10 := HBY.out w1 B1.out 10 (by decide)
    simp at y0 y1 y2 y3 y4 y5 y6 y7 y8 y9 y10
    cases hb : bareF i
    ·have HV : Hid (okI m p i = false) := by
      show _ = _
      by_cases h : i.op = 9
      ·rw [H9.out h, hb]; rfl
      ·rw [H8.out h, hb]; rfl
     go_wp2_with fail
     go_ret
     exact ⟨ret_b HV.out.symm, HR.out _ B1.out⟩
    ·rw [hb, Bool.true_and] at H9 H8
     clear hb EB
     by_cases h9 : i.op = 9
     ·have HF9 := Lib.hid (H9.out h9)
      have g9 : (i.op == 9) = true := beq_iff_eq.2 h9
      clear H9 H8 h9 HM ER1
      go_wp2_with fail
      refine (EC.out w1 (HE.out _ B1.out)).mono ?_
      rintro e w2 ⟨rfl, hb2⟩
      have B2 : Hid (Below W0.heap.size W0 w2) := B1.out.trans (hb2.mono B1.out.size)
      clear hb2
      clear x0 x1 x2 x3 x4 x5 x6 x7 x8 x9
      clear y0 y1 y2 y3 y4 y5 y6 y7 y8 y9 y10
      have x0 := HBX.out w2 B2.out 0 (by decide)
      have x1 := HBX.out w2 B2.out 1 (by decide)
      have x2 := HBX.out w2 B2.out 2 (by decide)
      have x3 := HBX.out w2 B2.out 3 (by decide)
      have x4 := HBX.out w2 B2.out 4 (by decide)
      have x5 := HBX.out w2 B2.out 5 (by decide)
      have x6 := HBX.out w2 B2.out 6 (by decide)
      have x7 := HBX.out w2 B2.out 7 (by decide)
      have x8 := HBX.out w2 B2.out 8 (by decide)
      have x9 := HBX.out w2 B2.out 9 (by decide)
      simp at x0 x1 x2 x3 x4 x5 x6 x7 x8 x9
      have y0 := HBY.out w2 B2.out 0 (by decide)
      have y1 := HBY.out w2 B2.out 1 (by decide)
      have y2 := HBY.out w2 B2.out 2 (by decide)
      have y3 := HBY.out w2 B2.out 3 (by decide)
      have y4 := HBY.out w2 B2.out 4 (by decide)
      have y5 := HBY.out w2 B2.out 5 (by decide)
      have y6 := HBY.out w2 B2.out 6 (by decide)
      have y7 := HBY.out w2 B2.out 7 (by decide)
      have y8 := HBY.out w2 B2.out 8 (by decide)
      have y9 := HBY.out w2 B2.out 9 (by decide)
      have y10 := HBY.out w2 B2.out 10 (by decide)
      simp at y0 y1 y2 y3 y4 y5 y6 y7 y8 y9 y10
      cases hc : callF m p i
      ·have HV : Hid (okI m p i = false) := by show _ = _; rw [HF9.out, hc]; rfl
       go_wp2_with fail
       go_ret
       exact ⟨ret_b HV.out.symm, HR.out _ B2.out⟩
      ·go_wp2_with fail
       refine (ER.out _ _ w2 (HE.out _ B2.out)).mono ?_
       rintro e w3 ⟨rfl, hb3⟩
       have B3 : Hid (Below W0.heap.size W0 w3) := B2.out.trans (hb3.mono B2.out.size)
       clear hb3
       clear x0 x1 x2 x3 x4 x5 x6 x7 x8 x9
       clear y0 y1 y2 y3 y4 y5 y6 y7 y8 y9 y10
       have x0 := HBX.out w3 B3.out 0 (by decide)
       have x1 := HBX.out w3 B3.out 1 (by decide)
       have x2 := HBX.out w3 B3.out 2 (by decide)
       have x3 := HBX.out w3 B3.out 3 (by decide)
       have x4 := HBX.out w3 B3.out 4 (by decide)
       have x5 := HBX.out w3 B3.out 5 (by decide)
       have x6 := HBX.out w3 B3.out 6 (by decide)
       have x7 := HBX.out w3 B3.out 7 (by decide)
       have x8 := HBX.out w3 B3.out 8 (by decide)
       have x9 := HBX.out w3 B3.out 9 (by decide)
       simp at x0 x1 x2 x3 x4 x5 x6 x7 x8 x9
       have y0 := HBY.out w3 B3.out 0 (by decide)
       have y1 := HBY.out w3 B3.out 1 (by decide)
       have y2 := HBY.out w3 B3.out 2 (by decide)
       have y3 := HBY.out w3 B3.out 3 (by decide)
       have y4 := HBY.out w3 B3.out 4 (by decide)
       have y5 := HBY.out w3 B3.out 5 (by decide)
       have y6 := HBY.out w3 B3.out 6 (by decide)
       have y7 := HBY.out w3 B3.out 7 (by decide)
       have y8 := HBY.out w3 B3.out 8 (by decide)
       have y9 := HBY.out w3 B3.out 9 (by decide)
       have y10 := HBY.out w3 B3.out 10 (by decide)
       simp at y0 y1 y2 y3 y4 y5 y6 y7 y8 y9 y10
       cases hr : regF p i.a false
       ·have HV : Hid (okI m p i = false) := by show _ = _; rw [HF9.out, hc, hr]; rfl
        go_wp2_with fail
        go_ret
        exact ⟨ret_b HV.out.symm, HR.out _ B3.out⟩
       ·have HV : Hid (okI m p i = regF p i.b false) := by show _ = _; rw [HF9.out, hc, hr]; rfl
        go_wp2_with fail
        refine (ER.out _ _ w3 (HE.out _ B3.out)).mono ?_
        rintro e w4 ⟨rfl, hb4⟩
        have B4 : Hid (Below W0.heap.size W0 w4) := B3.out.trans (hb4.mono B3.out.size)
        clear hb4
        go_wp2_with fail
        go_ret
        exact ⟨ret_b HV.out.symm, HR.out _ B4.out⟩
     ·have HF8 := Lib.hid (H8.out h9)
      have g9 : (i.op == 9) = false := beq_eq_false_iff_ne.2 h9
      clear H9 H8 EC
      go_wp2_with fail
      refine (ER1.out w1 (HE.out _ B1.out)).mono ?_
      rintro e w2 ⟨rfl, hb2⟩
      have B2 : Hid (Below W0.heap.size W0 w2) := B1.out.trans (hb2.mono B1.out.size)
      clear hb2
      clear x0 x1 x2 x3 x4 x5 x6 x7 x8 x9
      clear y0 y1 y2 y3 y4 y5 y6 y7 y8 y9 y10
      have x0 := HBX.out w2 B2.out 0 (by decide)
      have x1 := HBX.out w2 B2.out 1 (by decide)
      have x2 := HBX.out w2 B2.out 2 (by decide)
      have x3 := HBX.out w2 B2.out 3 (by decide)
      have x4 := HBX.out w2 B2.out 4 (by decide)
      have x5 := HBX.out w2 B2.out 5 (by decide)
      have x6 := HBX.out w2 B2.out 6 (by decide)
      have x7 := HBX.out w2 B2.out 7 (by decide)
      have x8 := HBX.out w2 B2.out 8 (by decide)
      have x9 := HBX.out w2 B2.out 9 (by decide)
      simp at x0 x1 x2 x3 x4 x5 x6 x7 x8 x9
      have y0 := HBY.out w2 B2.out 0 (by decide)
      have y1 := HBY.out w2 B2.out 1 (by decide)
      have y2 := HBY.out w2 B2.out 2 (by decide)
      have y3 := HBY.out w2 B2.out 3 (by decide)
      have y4 := HBY.out w2 B2.out 4 (by decide)
      have y5 := HBY.out w2 B2.out 5 (by decide)
      have y6 := HBY.out w2 B2.out 6 (by decide)
      have y7 := HBY.out w2 B2.out 7 (by decide)
      have y8 := HBY.out w2 B2.out 8 (by decide)
      have y9 := HBY.out w2 B2.out 9 (by decide)
      have y10 := HBY.out w2 B2.out 10 (by decide)
      simp at y0 y1 y2 y3 y4 y5 y6 y7 y8 y9 y10
      cases hr : regF p i.d dd
      ·have HV : Hid (okI m p i = false) := by show _ = _; rw [HF8.out, hr]; rfl
       go_wp2_with fail
       go_ret
       exact ⟨ret_b HV.out.symm, HR.out _ B2.out⟩
      ·rw [hr, Bool.true_and] at HF8
       clear hr
       go_wp2_with fail
       refine (ER.out _ _ w2 (HE.out _ B2.out)).mono ?_
       rintro e w3 ⟨rfl, hb3⟩
       have B3 : Hid (Below W0.heap.size W0 w3) := B2.out.trans (hb3.mono B2.out.size)
       clear hb3
       clear x0 x1 x2 x3 x4 x5 x6 x7 x8 x9
       clear y0 y1 y2 y3 y4 y5 y6 y7 y8 y9 y10
       have x0 := HBX.out w3 B3.out 0 (by decide)
       have x1 := HBX.out w3 B3.out 1 (by decide)
       have x2 := HBX.out w3 B3.out 2 (by decide)
       have x3 := HBX.out w3 B3.out 3 (by decide)
       have x4 := HBX.out w3 B3.out 4 (by decide)
       have x5 := HBX.out w3 B3.out 5 (by decide)
       have x6 := HBX.out w3 B3.out 6 (by decide)
       have x7 := HBX.out w3 B3.out 7 (by decide)
       have x8 := HBX.out w3 B3.out 8 (by decide)
       have x9 := HBX.out w3 B3.out 9 (by decide)
       simp at x0 x1 x2 x3 x4 x5 x6 x7 x8 x9
       have y0 := HBY.out w3 B3.out 0 (by decide)
       have y1 := HBY.out w3 B3.out 1 (by decide)
       have y2 := HBY.out w3 B3.out 2 (by decide)
       have y3 := HBY.out w3 B3.out 3 (by decide)
       have y4 := HBY.out w3 B3.out 4 (by decide)
       have y5 := HBY.out w3 B3.out 5 (by decide)
       have y6 := HBY.out w3 B3.out 6 (by decide)
       have y7 := HBY.out w3 B3.out 7 (by decide)
       have y8 := HBY.out w3 B3.out 8 (by decide)
       have y9 := HBY.out w3 B3.out 9 (by decide)
       have y10 := HBY.out w3 B3.out 10 (by decide)
       simp at y0 y1 y2 y3 y4 y5 y6 y7 y8 y9 y10
       cases hr : regF p i.a (readsA i.op)
       ·have HV : Hid (okI m p i = false) := by show _ = _; rw [HF8.out, hr]; rfl
        go_wp2_with fail
        go_ret
        exact ⟨ret_b HV.out.symm, HR.out _ B3.out⟩
       ·rw [hr, Bool.true_and] at HF8
        clear hr
        go_wp2_with fail
        refine (ER.out _ _ w3 (HE.out _ B3.out)).mono ?_
        rintro e w4 ⟨rfl, hb4⟩
        have B4 : Hid (Below W0.heap.size W0 w4) := B3.out.trans (hb4.mono B3.out.size)
        clear hb4
        clear x0 x1 x2 x3 x4 x5 x6 x7 x8 x9
        clear y0 y1 y2 y3 y4 y5 y6 y7 y8 y9 y10
        have x0 := HBX.out w4 B4.out 0 (by decide)
        have x1 := HBX.out w4 B4.out 1 (by decide)
        have x2 := HBX.out w4 B4.out 2 (by decide)
        have x3 := HBX.out w4 B4.out 3 (by decide)
        have x4 := HBX.out w4 B4.out 4 (by decide)
        have x5 := HBX.out w4 B4.out 5 (by decide)
        have x6 := HBX.out w4 B4.out 6 (by decide)
        have x7 := HBX.out w4 B4.out 7 (by decide)
        have x8 := HBX.out w4 B4.out 8 (by decide)
        have x9 := HBX.out w4 B4.out 9 (by decide)
        simp at x0 x1 x2 x3 x4 x5 x6 x7 x8 x9
        have y0 := HBY.out w4 B4.out 0 (by decide)
        have y1 := HBY.out w4 B4.out 1 (by decide)
        have y2 := HBY.out w4 B4.out 2 (by decide)
        have y3 := HBY.out w4 B4.out 3 (by decide)
        have y4 := HBY.out w4 B4.out 4 (by decide)
        have y5 := HBY.out w4 B4.out 5 (by decide)
        have y6 := HBY.out w4 B4.out 6 (by decide)
        have y7 := HBY.out w4 B4.out 7 (by decide)
        have y8 := HBY.out w4 B4.out 8 (by decide)
        have y9 := HBY.out w4 B4.out 9 (by decide)
        have y10 := HBY.out w4 B4.out 10 (by decide)
        simp at y0 y1 y2 y3 y4 y5 y6 y7 y8 y9 y10
        cases hr : regF p i.b (readsB i.op)
        ·have HV : Hid (okI m p i = false) := by show _ = _; rw [HF8.out, hr]; rfl
         go_wp2_with fail
         go_ret
         exact ⟨ret_b HV.out.symm, HR.out _ B4.out⟩
        ·have HV : Hid (okI m p i = moreF m p i) := by show _ = _; rw [HF8.out, hr]; rfl
         clear hr HF8
         go_upto_region 9 with (fail)
         by_cases h3 : i.op = 3
         ·have g3 : (i.op == 3) = true := beq_iff_eq.2 h3
          have HV2 : Hid (okI m p i = (decide (1 ≤ i.fn) && decide (i.fn ≤ 16))) := by show _ = _; rw [HV.out, HM.out, if_pos h3]
          clear h3 h9 HM HV
          by_cases hf : 1 ≤ i.fn
          ·have ef : decide (1 ≤ i.fn) = true := decide_eq_true hf
           have HV : Hid (okI m p i = decide (i.fn ≤ 16)) := by show _ = _; rw [HV2.out, ef]; rfl
           go_wp2_with fail
           go_ret
           exact ⟨ret_b HV.out.symm, HR.out _ B4.out⟩
          ·have ef : decide (1 ≤ i.fn) = false := decide_eq_false hf
           have HV : Hid (okI m p i = false) := by show _ = _; rw [HV2.out, ef]; rfl
           go_wp2_with fail
           go_ret
           exact ⟨ret_b HV.out.symm, HR.out _ B4.out⟩
         ·have g3 : (i.op == 3) = false := beq_eq_false_iff_ne.2 h3
          rw [if_neg h3] at HM
          by_cases h4 : i.op = 4
          ·have g4 : (i.op == 4) = true := beq_iff_eq.2 h4
           have HV2 : Hid (okI m p i = (decide (17 ≤ i.fn) && decide (i.fn ≤ 19))) := by show _ = _; rw [HV.out, HM.out, if_pos h4]
           clear h3 h4 h9 HM HV
           by_cases hf : 17 ≤ i.fn
           ·have ef : decide (17 ≤ i.fn) = true := decide_eq_true hf
            have HV : Hid (okI m p i = decide (i.fn ≤ 19)) := by show _ = _; rw [HV2.out, ef]; rfl
            go_wp2_with fail
            go_ret
            exact ⟨ret_b HV.out.symm, HR.out _ B4.out⟩
           ·have ef : decide (17 ≤ i.fn) = false := decide_eq_false hf
            have HV : Hid (okI m p i = false) := by show _ = _; rw [HV2.out, ef]; rfl
            go_wp2_with fail
            go_ret
            exact ⟨ret_b HV.out.symm, HR.out _ B4.out⟩
          ·have g4 : (i.op == 4) = false := beq_eq_false_iff_ne.2 h4
           rw [if_neg h4] at HM
           by_cases h56 : i.op = 5 ∨ i.op = 6
           ·have HV2 : Hid (okI m p i = ((i.size == 1 || i.size == 4) && offF i.off)) := by show _ = _; rw [HV.out, HM.out, if_pos h56]
            have g56 : (i.op == 5) = true ∨ ((i.op == 5) = false ∧ (i.op == 6) = true) := by
             rcases h56 with h | h
             ·exact .inl (beq_iff_eq.2 h)
             ·exact .inr ⟨beq_eq_false_iff_ne.2 (by omega), beq_iff_eq.2 h⟩
            clear h3 h4 h56 h9 HM HV
            have g56 := Lib.hid g56
            cases hs : (i.size == 1)
            ·cases hs4 : (i.size == 4)
             ·have HV : Hid (okI m p i = false) := by show _ = _; rw [HV2.out, hs, hs4]; rfl
              rcases g56.out with g5 | ⟨g5, g6⟩
              ·go_wp2_with fail
               go_ret
               exact ⟨ret_b HV.out.symm, HR.out _ B4.out⟩
              ·go_wp2_with fail
               go_ret
               exact ⟨ret_b HV.out.symm, HR.out _ B4.out⟩
             ·have HV : Hid (okI m p i = offF i.off) := by show _ = _; rw [HV2.out, hs, hs4]; rfl
              rcases g56.out with g5 | ⟨g5, g6⟩
              ·go_wp2_with (go_at_call 68; refine (off_c _ _).mono ?_; rintro e w' ⟨rfl, rfl⟩)
               go_ret
               exact ⟨ret_b HV.out.symm, HR.out _ B4.out⟩
              ·go_wp2_with (go_at_call 68; refine (off_c _ _).mono ?_; rintro e w' ⟨rfl, rfl⟩)
               go_ret
               exact ⟨ret_b HV.out.symm, HR.out _ B4.out⟩
            ·have HV : Hid (okI m p i = offF i.off) := by show _ = _; rw [HV2.out, hs]; rfl
             rcases g56.out with g5 | ⟨g5, g6⟩
             ·go_wp2_with (go_at_call 68; refine (off_c _ _).mono ?_; rintro e w' ⟨rfl, rfl⟩)
              go_ret
              exact ⟨ret_b HV.out.symm, HR.out _ B4.out⟩
             ·go_wp2_with (go_at_call 68; refine (off_c _ _).mono ?_; rintro e w' ⟨rfl, rfl⟩)
              go_ret
              exact ⟨ret_b HV.out.symm, HR.out _ B4.out⟩
           ·have g5 : (i.op == 5) = false := beq_eq_false_iff_ne.2 (fun h => h56 (.inl h))
            have g6 : (i.op == 6) = false := beq_eq_false_iff_ne.2 (fun h => h56 (.inr h))
            rw [if_neg h56] at HM
            by_cases h7 : i.op = 7
            ·have g7 : (i.op == 7) = true := beq_iff_eq.2 h7
             have HV2 : Hid (okI m p i = ((decide (0 ≤ i.obj) && decide (i.obj < p.objs.length)) && offF i.off)) := by show _ = _; rw [HV.out, HM.out, if_pos h7]
             clear h3 h4 h56 h7 h9 HM HV
             by_cases hl : 0 ≤ i.obj
             ·have el : decide (0 ≤ i.obj) = true := decide_eq_true hl
              by_cases hu : i.obj < (p.objs.length : Int)
              ·have eu : decide (i.obj < (p.objs.length : Int)) = true := decide_eq_true hu
               have HV : Hid (okI m p i = offF i.off) := by show _ = _; rw [HV2.out, el, eu]; rfl
               go_wp2_with (go_at_call 68; refine (off_c _ _).mono ?_; rintro e w' ⟨rfl, rfl⟩)
               go_ret
               exact ⟨ret_b HV.out.symm, HR.out _ B4.out⟩
              ·have eu : decide (i.obj < (p.objs.length : Int)) = false := decide_eq_false hu
               have HV : Hid (okI m p i = false) := by show _ = _; rw [HV2.out, el, eu]; rfl
               go_wp2_with fail
               go_ret
               exact ⟨ret_b HV.out.symm, HR.out _ B4.out⟩
             ·have el : decide (0 ≤ i.obj) = false := decide_eq_false hl
              have HV : Hid (okI m p i = false) := by show _ = _; rw [HV2.out, el]; rfl
              go_wp2_with fail
              go_ret
              exact ⟨ret_b HV.out.symm, HR.out _ B4.out⟩
            ·have g7 : (i.op == 7) = false := beq_eq_false_iff_ne.2 h7
             rw [if_neg h7] at HM
             by_cases h8 : i.op = 8
             ·have g8 : (i.op == 8) = true := beq_iff_eq.2 h8
              have HV2 : Hid (okI m p i = ((decide (0 ≤ i.obj) && decide (i.obj < m.globs.length)) && offF i.off)) := by show _ = _; rw [HV.out, HM.out, if_pos h8]
              clear h3 h4 h56 h7 h8 h9 HM HV
              by_cases hl : 0 ≤ i.obj
              ·have el : decide (0 ≤ i.obj) = true := decide_eq_true hl
               by_cases hu : i.obj < (m.globs.length : Int)
               ·have eu : decide (i.obj < (m.globs.length : Int)) = true := decide_eq_true hu
                have HV : Hid (okI m p i = offF i.off) := by show _ = _; rw [HV2.out, el, eu]; rfl
                go_wp2_with (go_at_call 68; refine (off_c _ _).mono ?_; rintro e w' ⟨rfl, rfl⟩)
                go_ret
                exact ⟨ret_b HV.out.symm, HR.out _ B4.out⟩
               ·have eu : decide (i.obj < (m.globs.length : Int)) = false := decide_eq_false hu
                have HV : Hid (okI m p i = false) := by show _ = _; rw [HV2.out, el, eu]; rfl
                go_wp2_with fail
                go_ret
                exact ⟨ret_b HV.out.symm, HR.out _ B4.out⟩
              ·have el : decide (0 ≤ i.obj) = false := decide_eq_false hl
               have HV : Hid (okI m p i = false) := by show _ = _; rw [HV2.out, el]; rfl
               go_wp2_with fail
               go_ret
               exact ⟨ret_b HV.out.symm, HR.out _ B4.out⟩
             ·have g8 : (i.op == 8) = false := beq_eq_false_iff_ne.2 h8
              rw [if_neg h8] at HM
              have HV2 : Hid (okI m p i = true) := HV.out.trans HM.out
              clear h3 h4 h56 h7 h8 h9 HM
              go_wp2_with fail
              go_ret
              exact ⟨ret_b HV2.out.symm, HR.out _ B4.out⟩
   ·have HV : Hid (okI m p i = false) := by
     show _ = _
     rw [HF.out, decide_eq_false l2]
     simp
    have e2 : decide (12 < i.op) = true := decide_eq_true (by omega)
    go_wp2_with fail
    go_ret
    exact ⟨ret_b HV.out.symm, HR.out _ B0.out⟩
  ·have HV : Hid (okI m p i = false) := by
    show _ = _
    rw [HF.out, decide_eq_false l1]
    simp
   have e1 : decide (i.op < 1) = true := decide_eq_true (by omega)
   go_wp2_with fail
   go_ret
   exact ⟨ret_b HV.out.symm, HR.out _ B0.out⟩
end Go.Proofs.YtchoiankeohonaaGreatDoor
