/-
 Contracts of the parts of ir.Check: calls and instructions.
-/
import Derived.Test.YtchoiankeohonaaGreatDoorZInlineAll17
import Derived.Test.YtchoiankeohonaaGreatDoorZInlineAll03
import Derived.Deep.CutRange
import Derived.Deep.Cut
import Derived.Deep.CutBlock
set_option linter.all false
namespace Go.Proofs.YtchoiankeohonaaGreatDoor
open Go.ChangeShapes Go.WideShapes Go.ChangeAt Go.RowKit
set_option maxHeartbeats 2000000
set_option maxRecDepth 20000

theorem RdPrs.at6 {w : World} {a : Option Addr} {n c : Nat} {l : List Pr} (h : RdPrs w (.slice a n c) l) : n = l.length ∧ ∀ k, k < l.length → ∃ b o nm vo vb, a = some ⟨b, o, none⟩ ∧ RdSls w vo (l.getD k default).objs ∧ RdBks w vb (l.getD k default).blks ∧
  w.cell? ⟨b, o + k * 6, none⟩ = some (.string nm) ∧ w.cell? ⟨b, o + k * 6 + 1, none⟩ = some (.bool (l.getD k default).void) ∧ w.cell? ⟨b, o + k * 6 + 2, none⟩ = some (.int .i64 (l.getD k default).params) ∧ w.cell? ⟨b, o + k * 6 + 3, none⟩ = some (.int .i64 (l.getD k default).regs) ∧
  w.cell? ⟨b, o + k * 6 + 4, none⟩ = some vo ∧ w.cell? ⟨b, o + k * 6 + 5, none⟩ = some vb := by
 obtain ⟨a', c', e, h1, h2, hc⟩ := h
 simp only [Value.slice.injEq] at e
 obtain ⟨rfl, rfl, rfl⟩ := e
 refine ⟨rfl, fun k hk => ?_⟩
 obtain ⟨b, o, rfl, ⟨nm, h0⟩, h1, h2, h3, ⟨vo, h4, ho⟩, ⟨vb, h5, hb⟩⟩ := hc k hk
 exact ⟨b, o, nm, vo, vb, rfl, ho, hb, by simpa using h0, h1, h2, h3, h4, h5⟩
theorem call_c (m : Md) (p : Pr) (v V : Value) (i : In) (w : World) (h : LkV w v m p) (hi : InV w V i) :
  Calls Tryz.prog 66 #[v, V] w fun e w' => e = .returned (.bool (callF m p i)) ∧ Below w.heap.size w w' := by
 have ER : Hid (∀ r s w', Ext w w' → Calls Tryz.prog 67 #[v, .int .i64 r, .bool s] w' fun e w'' => e = .returned (.bool (regF p r s)) ∧ Below w'.heap.size w' w'') := fun r s w' he => reg_c m p v r s w' (h.ext he)
 obtain ⟨vg, vd, vp, nm, vo, vb, rfl, ⟨ag, cg, rfl, -⟩, ⟨ad, cd, rfl, -⟩, hps, ⟨ao, co, rfl, -⟩, ⟨ab, cb, rfl, -⟩⟩ := h
 have hps' := hps
 obtain ⟨ap, cp, rfl, hp1, hp2, -⟩ := hps'
 have HPS := Lib.hid (RdPrs.at6 hps).2
 clear hps
 obtain ⟨va, rfl, ⟨aa, ca, rfl, ha1, ha2, ha⟩⟩ := hi
 have HA := Lib.hid ha
 unfold maxLen at hp2 ha2
 clear ha
 obtain ⟨W0, hW0⟩ : ∃ W0, W0 = (w.alloc (.cells #[.slice ag m.globs.length cg, .slice ad m.data.length cd, .slice ap m.procs.length cp, .int .i64 m.main, .string nm, .bool p.void, .int .i64 p.params, .int .i64 p.regs, .slice ao p.objs.length co, .slice ab p.blks.length cb] 89)).alloc (.cells #[.int .i64 i.op, .int .i64 i.d, .int .i64 i.a, .int .i64 i.b, .int .i64 i.fn, .int .i64 i.obj, .int .i64 i.off, .int .i64 i.size, .int .u32 i.num, .slice aa i.args.length ca, .bool i.log] 48) := ⟨_, rfl⟩
 have hz0 : W0.heap.size = w.heap.size + 2 := by rw [hW0]; simp
 have HBX : Hid (∀ w', Below W0.heap.size W0 w' → ∀ j : Nat, j < 10 → w'.cell? ⟨w.heap.size, j, none⟩ = #[Value.slice ag m.globs.length cg, .slice ad m.data.length cd, .slice ap m.procs.length cp, .int .i64 m.main, .string nm, .bool p.void, .int .i64 p.params, .int .i64 p.regs, .slice ao p.objs.length co, .slice ab p.blks.length cb][j]?) := fun w' hb j _ => by
  rw [hb.cell (p := ⟨w.heap.size, j, none⟩) (by rw [hz0]; simp only; omega), hW0, (below_alloc (w.alloc (.cells #[.slice ag m.globs.length cg, .slice ad m.data.length cd, .slice ap m.procs.length cp, .int .i64 m.main, .string nm, .bool p.void, .int .i64 p.params, .int .i64 p.regs, .slice ao p.objs.length co, .slice ab p.blks.length cb] 89)) _).cell (p := ⟨w.heap.size, j, none⟩) (by simp)]
  exact cell_of_heap (heap_alloc_new w _) j
 have HBY : Hid (∀ w', Below W0.heap.size W0 w' → ∀ j : Nat, j < 11 → w'.cell? ⟨w.heap.size + 1, j, none⟩ = #[Value.int .i64 i.op, .int .i64 i.d, .int .i64 i.a, .int .i64 i.b, .int .i64 i.fn, .int .i64 i.obj, .int .i64 i.off, .int .i64 i.size, .int .u32 i.num, .slice aa i.args.length ca, .bool i.log][j]?) := fun w' hb j _ => by
  rw [hb.cell (p := ⟨w.heap.size + 1, j, none⟩) (by rw [hz0]; simp only; omega), hW0]
  have := cell_of_heap (heap_alloc_new (w.alloc (.cells #[.slice ag m.globs.length cg, .slice ad m.data.length cd, .slice ap m.procs.length cp, .int .i64 m.main, .string nm, .bool p.void, .int .i64 p.params, .int .i64 p.regs, .slice ao p.objs.length co, .slice ab p.blks.length cb] 89)) (.cells #[.int .i64 i.op, .int .i64 i.d, .int .i64 i.a, .int .i64 i.b, .int .i64 i.fn, .int .i64 i.obj, .int .i64 i.off, .int .i64 i.size, .int .u32 i.num, .slice aa i.args.length ca, .bool i.log] 48)) j
  simpa using this
 have HE : Hid (∀ w', Below W0.heap.size W0 w' → Ext w w') := fun w' hb => (show Ext w W0 by rw [hW0]; exact (Ext.alloc w _).trans (Ext.alloc _ _)).trans (Ext.below hb)
 have HR : Hid (∀ w', Below W0.heap.size W0 w' → Below w.heap.size w w') := fun w' hb => (show Below w.heap.size w W0 by rw [hW0]; exact (below_alloc w _).alloc (by simp) _).trans (hb.mono (by omega))
 have B0 : Hid (Below W0.heap.size W0 W0) := Below.refl _ _
 have hza : W0.heap.size ≤ w.heap.size + 2 := Nat.le_of_eq hz0
 have hzb : w.heap.size + 2 ≤ W0.heap.size := Nat.le_of_eq hz0.symm
 have hl0 : w.heap.size < W0.heap.size := by omega
 have hl1 : w.heap.size + 1 < W0.heap.size := by omega
 have HW0 := Lib.hid hW0
 clear hW0 hz0
 have HF : Hid (callF m p i = (decide (0 ≤ i.obj) && (decide (i.obj < m.procs.length) && (decide ((i.args.length : Int) = (m.procs.getD i.obj.toNat default).params) && (regF p i.d (!(m.procs.getD i.obj.toNat default).void) && i.args.all fun r => regF p r true))))) := rfl
 by_cases h0 : 0 ≤ i.obj
 ·by_cases h1 : i.obj < (m.procs.length : Int)
  ·obtain ⟨k, hk⟩ : ∃ k : Nat, i.obj = (k : Int) := ⟨i.obj.toNat, by omega⟩
   have hkl : k < m.procs.length := by omega
   rw [decide_eq_true h0, decide_eq_true h1, hk, Int.toNat_natCast, Bool.true_and, Bool.true_and] at HF
   obtain ⟨bp, op, tnm, tvo, tvb, hap, ⟨tao, tco, rfl, -⟩, ⟨tab, tcb, rfl, -⟩, t0, t1, t2, t3, t4, t5⟩ := HPS.out k hkl
   subst hap
   generalize m.procs.getD k default = T at *
   have TT : Hid (W0.cell? ⟨bp, op + k * 6, none⟩ = some (.string tnm) ∧ W0.cell? ⟨bp, op + k * 6 + 1, none⟩ = some (.bool T.void) ∧ W0.cell? ⟨bp, op + k * 6 + 2, none⟩ = some (.int .i64 T.params) ∧ W0.cell? ⟨bp, op + k * 6 + 3, none⟩ = some (.int .i64 T.regs) ∧ W0.cell? ⟨bp, op + k * 6 + 4, none⟩ = some (.slice tao T.objs.length tco) ∧ W0.cell? ⟨bp, op + k * 6 + 5, none⟩ = some (.slice tab T.blks.length tcb)) :=
    ⟨HE.out W0 B0.out _ _ t0, HE.out W0 B0.out _ _ t1, HE.out W0 B0.out _ _ t2, HE.out W0 B0.out _ _ t3, HE.out W0 B0.out _ _ t4, HE.out W0 B0.out _ _ t5⟩
   have HK := Lib.hid hk
   rw [hk] at h0 h1 HW0 HBY
   clear t0 t1 t2 t3 t4 t5 HPS
   have B1 : Hid (∀ o, Below W0.heap.size W0 (W0.alloc o)) := fun o => below_alloc _ _
   cases h2 : ((i.args.length : Int) != T.params)
   ·have e2 : decide ((i.args.length : Int) = T.params) = true := decide_eq_true (by simpa using h2)
    rw [e2, Bool.true_and] at HF
    have ER1 := Lib.hid (ER.out i.d (!T.void))
    cases h3 : regF p i.d (!T.void)
    ·have HV : Hid (callF m p i = false) := by show _ = _; rw [HF.out, h3]; rfl
     rw [h3] at ER1
     clear h3 e2 hk
     go_enter Tryz.func66, Tryz.ntmps66
     go_upto_region 1 with (fail)
     rw [HK.out]
     rw [← HW0.out]
     obtain ⟨t0, t1, t2, t3, t4, t5⟩ := TT.out
     have x0 := HBX.out W0 B0.out 0 (by decide)
     have x1 := HBX.out W0 B0.out 1 (by decide)
     have x2 := HBX.out W0 B0.out 2 (by decide)
     have x3 := HBX.out W0 B0.out 3 (by decide)
     have x4 := HBX.out W0 B0.out 4 (by decide)
     have x5 := HBX.out W0 B0.out 5 (by decide)
     have x6 := HBX.out W0 B0.out 6 (by decide)
     have x7 := HBX.out W0 B0.out 7 (by decide)
     have x8 := HBX.out W0 B0.out 8 (by decide)
     have x9 := HBX.out W0 B0.out 9 (by decide)
     simp at x0 x1 x2 x3 x4 x5 x6 x7 x8 x9
     have y0 := HBY.out W0 B0.out 0 (by decide)
     have y1 := HBY.out W0 B0.out 1 (by decide)
     have y2 := HBY.out W0 B0.out 2 (by decide)
     have y3 := HBY.out W0 B0.out 3 (by decide)
     have y4 := HBY.out W0 B0.out 4 (by decide)
     have y5 := HBY.out W0 B0.out 5 (by decide)
     have y6 := HBY.out W0 B0.out 6 (by decide)
     have y7 := HBY.out W0 B0.out 7 (by decide)
     have y8 := HBY.out W0 B0.out 8 (by decide)
     have y9 := HBY.out W0 B0.out 9 (by decide)
     have y10 := HBY.out W0 B0.out 10 (by decide)
     simp at y0 y1 y2 y3 y4 y5 y6 y7 y8 y9 y10
     go_wp2_with fail
     refine (ER1.out _ (HE.out _ (B1.out _))).mono ?_
     rintro e w2 ⟨rfl, hb2⟩
     have B2 : Hid (Below W0.heap.size W0 w2) := (B1.out _).trans (hb2.mono (by simp))
     go_wp2_with fail
     go_ret
     exact ⟨ret_b HV.out.symm, HR.out _ B2.out⟩
    ·rw [h3] at ER1 HF
     have HV : Hid (callF m p i = i.args.all fun r => regF p r true) := by show _ = _; rw [HF.out]; rfl
     clear h3 e2 hk HF
     go_enter Tryz.func66, Tryz.ntmps66
     go_upto_region 1 with (fail)
     rw [HK.out]
     rw [← HW0.out]
     obtain ⟨t0, t1, t2, t3, t4, t5⟩ := TT.out
     have x0 := HBX.out W0 B0.out 0 (by decide)
     have x1 := HBX.out W0 B0.out 1 (by decide)
     have x2 := HBX.out W0 B0.out 2 (by decide)
     have x3 := HBX.out W0 B0.out 3 (by decide)
     have x4 := HBX.out W0 B0.out 4 (by decide)
     have x5 := HBX.out W0 B0.out 5 (by decide)
     have x6 := HBX.out W0 B0.out 6 (by decide)
     have x7 := HBX.out W0 B0.out 7 (by decide)
     have x8 := HBX.out W0 B0.out 8 (by decide)
     have x9 := HBX.out W0 B0.out 9 (by decide)
     simp at x0 x1 x2 x3 x4 x5 x6 x7 x8 x9
     have y0 := HBY.out W0 B0.out 0 (by decide)
     have y1 := HBY.out W0 B0.out 1 (by decide)
     have y2 := HBY.out W0 B0.out 2 (by decide)
     have y3 := HBY.out W0 B0.out 3 (by decide)
     have y4 := HBY.out W0 B0.out 4 (by decide)
     have y5 := HBY.out W0 B0.out 5 (by decide)
     have y6 := HBY.out W0 B0.out 6 (by decide)
     have y7 := HBY.out W0 B0.out 7 (by decide)
     have y8 := HBY.out W0 B0.out 8 (by decide)
     have y9 := HBY.out W0 B0.out 9 (by decide)
     have y10 := HBY.out W0 B0.out 10 (by decide)
     simp at y0 y1 y2 y3 y4 y5 y6 y7 y8 y9 y10
     go_wp2_with fail
     refine (ER1.out _ (HE.out _ (B1.out _))).mono ?_
     rintro e w2 ⟨rfl, hb2⟩
     have B2 : Hid (Below W0.heap.size W0 w2) := (B1.out _).trans (hb2.mono (by simp))
     clear hb2 t0 t1 t2 t3 t4 t5 x0 x1 x2 x3 x4 x5 x6 x7 x8 x9 y0 y1 y2 y3 y4 y5 y6 y7 y8 y9 y10
     have y9 := HBY.out w2 B2.out 9 (by decide)
     simp at y9
     go_wp2_with fail
     clear y9
     go_loopw [46] (fun j wr => ∃ n : Nat, n ≤ i.args.length ∧ j = .int .i64 (n : Int) ∧ Hid (Below W0.heap.size W0 wr) ∧ Hid ((i.args.take n).all (fun r => regF p r true) = true)) (fun j _ => i.args.length - (intOf j).toNat)
     case atStart => exact ⟨0, Nat.zero_le _, rfl, B2, rfl⟩
     case round =>
      clear B2
      obtain ⟨n, hn, rfl, hB, HA2⟩ := hrel
      by_cases hlt : n < i.args.length
      ·obtain ⟨ba, oa, rfl, c0⟩ := HA.out n hlt
       simp only [Nat.mul_one, Nat.add_zero] at c0
       replace c0 := HE.out _ hB.out _ _ c0
       have hY := allG_take (fun r => regF p r true) i.args n hlt HA2.out
       have hZ := allG_no (fun r => regF p r true) i.args n hlt
       rw [show (default : Int) = 0 from rfl] at hY hZ
       generalize i.args.getD n 0 = r at c0 hY hZ
       have ER2 := Lib.hid (ER.out r true wr (HE.out _ hB.out))
       have hzr := hB.out.size
       cases hx : regF p r true
       ·rw [hx] at ER2
        have HV2 : Hid (callF m p i = false) := by show _ = _; rw [HV.out]; exact hZ hx
        clear hY hZ hx
        have x0 := HBX.out wr hB.out 0 (by decide)
        have x1 := HBX.out wr hB.out 1 (by decide)
        have x2 := HBX.out wr hB.out 2 (by decide)
        have x3 := HBX.out wr hB.out 3 (by decide)
        have x4 := HBX.out wr hB.out 4 (by decide)
        have x5 := HBX.out wr hB.out 5 (by decide)
        have x6 := HBX.out wr hB.out 6 (by decide)
        have x7 := HBX.out wr hB.out 7 (by decide)
        have x8 := HBX.out wr hB.out 8 (by decide)
        have x9 := HBX.out wr hB.out 9 (by decide)
        simp at x0 x1 x2 x3 x4 x5 x6 x7 x8 x9
        go_wp2_with fail
        refine ER2.out.mono ?_
        rintro e w3 ⟨rfl, hb3⟩
        have B3 : Hid (Below W0.heap.size W0 w3) := hB.out.trans (hb3.mono hzr)
        go_wp2_with fail
        go_ret
        exact ⟨ret_b HV2.out.symm, HR.out _ B3.out⟩
       ·rw [hx] at ER2
        have HA3 := Lib.hid (hY hx)
        clear hY hZ hx
        have x0 := HBX.out wr hB.out 0 (by decide)
        have x1 := HBX.out wr hB.out 1 (by decide)
        have x2 := HBX.out wr hB.out 2 (by decide)
        have x3 := HBX.out wr hB.out 3 (by decide)
        have x4 := HBX.out wr hB.out 4 (by decide)
        have x5 := HBX.out wr hB.out 5 (by decide)
        have x6 := HBX.out wr hB.out 6 (by decide)
        have x7 := HBX.out wr hB.out 7 (by decide)
        have x8 := HBX.out wr hB.out 8 (by decide)
        have x9 := HBX.out wr hB.out 9 (by decide)
        simp at x0 x1 x2 x3 x4 x5 x6 x7 x8 x9
        go_wp2_with fail
        refine ER2.out.mono ?_
        rintro e w3 ⟨rfl, hb3⟩
        have B3 : Hid (Below W0.heap.size W0 w3) := hB.out.trans (hb3.mono hzr)
        clear hb3 x0 x1 x2 x3 x4 x5 x6 x7 x8 x9 c0
        go_wp2_with fail
        go_roundw
        case rel => exact ⟨n + 1, by omega, by go_num, B3, HA3⟩
        case measure => simp [intOf]; omega
      ·have HV2 : Hid (callF m p i = true) := by
        show _ = _
        rw [HV.out]; have := HA2.out; rwa [List.take_of_length_le (by omega)] at this
       go_wp2_with fail
       go_ret
       exact ⟨ret_b HV2.out.symm, HR.out _ hB.out⟩
   ·have e2 : decide ((i.args.length : Int) = T.params) = false := decide_eq_false (by simpa using h2)
    have HV : Hid (callF m p i = false) := by show _ = _; rw [HF.out, e2]; rfl
    clear e2 hk
    go_enter Tryz.func66, Tryz.ntmps66
    go_upto_region 1 with (fail)
    rw [HK.out]
    rw [← HW0.out]
    obtain ⟨t0, t1, t2, t3, t4, t5⟩ := TT.out
    have x0 := HBX.out W0 B0.out 0 (by decide)
    have x1 := HBX.out W0 B0.out 1 (by decide)
    have x2 := HBX.out W0 B0.out 2 (by decide)
    have x3 := HBX.out W0 B0.out 3 (by decide)
    have x4 := HBX.out W0 B0.out 4 (by decide)
    have x5 := HBX.out W0 B0.out 5 (by decide)
    have x6 := HBX.out W0 B0.out 6 (by decide)
    have x7 := HBX.out W0 B0.out 7 (by decide)
    have x8 := HBX.out W0 B0.out 8 (by decide)
    have x9 := HBX.out W0 B0.out 9 (by decide)
    simp at x0 x1 x2 x3 x4 x5 x6 x7 x8 x9
    have y0 := HBY.out W0 B0.out 0 (by decide)
    have y1 := HBY.out W0 B0.out 1 (by decide)
    have y2 := HBY.out W0 B0.out 2 (by decide)
    have y3 := HBY.out W0 B0.out 3 (by decide)
    have y4 := HBY.out W0 B0.out 4 (by decide)
    have y5 := HBY.out W0 B0.out 5 (by decide)
    have y6 := HBY.out W0 B0.out 6 (by decide)
    have y7 := HBY.out W0 B0.out 7 (by decide)
    have y8 := HBY.out W0 B0.out 8 (by decide)
    have y9 := HBY.out W0 B0.out 9 (by decide)
    have y10 := HBY.out W0 B0.out 10 (by decide)
    simp at y0 y1 y2 y3 y4 y5 y6 y7 y8 y9 y10
    go_wp2_with fail
    go_ret
    exact ⟨ret_b HV.out.symm, HR.out _ (B1.out _)⟩
  ·have HV : Hid (callF m p i = false) := by show _ = _; rw [HF.out, decide_eq_false h1, Bool.false_and, Bool.and_false]
   have e0 : decide (i.obj < 0) = false := decide_eq_false (by omega)
   have e1 : decide ((m.procs.length : Int) ≤ i.obj) = true := decide_eq_true (by omega)
   go_enter Tryz.func66, Tryz.ntmps66
   go_wp2_with fail
   rw [← HW0.out]
   go_ret
   exact ⟨ret_b HV.out.symm, HR.out _ B0.out⟩
 ·have HV : Hid (callF m p i = false) := by show _ = _; rw [HF.out, decide_eq_false h0, Bool.false_and]
  have e0 : decide (i.obj < 0) = true := decide_eq_true (by omega)
  go_enter Tryz.func66, Tryz.ntmps66
  go_wp2_with fail
  rw [← HW0.out]
  go_ret
  exact ⟨ret_b HV.out.symm, HR.out _ B0.out⟩
end Go.Proofs.YtchoiankeohonaaGreatDoor
