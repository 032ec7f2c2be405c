/-
 Contracts of ir.Size and of the look at a whole procedure.
-/
import Derived.Test.YtchoiankeohonaaGreatDoorZInlineAll20
import Derived.Test.YtchoiankeohonaaGreatDoorZInlineAll01
import Derived.Test.YtchoiankeohonaaGreatDoorZInlineAll07
set_option linter.all false
namespace Go.Proofs.YtchoiankeohonaaGreatDoor
open Go.ChangeShapes Go.WideShapes Go.ChangeAt Go.RowKit
set_option maxHeartbeats 4000000
set_option maxRecDepth 20000

def insS (l : List Bk) : Nat := (l.map fun b => b.ins.length).sum
theorem insS_take (l : List Bk) (k : Nat) (h : k < l.length) : insS (l.take (k + 1)) = insS (l.take k) + (l.getD k default).ins.length := by
 unfold insS
 rw [List.take_succ_eq_append_getElem h, List.map_append, List.sum_append]
 simp [List.getD, h]
theorem insS_le (l : List Bk) (h : ∀ b ∈ l, b.ins.length ≤ 100000) : insS l ≤ 100000 * l.length := by
 unfold insS
 induction l with
 | nil => simp
 | cons b l ih =>
  have h1 := h b List.mem_cons_self
  have h2 := ih fun x hx => h x (List.mem_cons_of_mem _ hx)
  simp only [List.map_cons, List.sum_cons, List.length_cons]
  omega
theorem insS_take_le (l : List Bk) (k : Nat) (h : ∀ b ∈ l, b.ins.length ≤ 100000) (hl : l.length ≤ 100000) : insS (l.take k) ≤ 10000000000 := by
 have h1 := insS_le (l.take k) fun b hb => h b (List.mem_of_mem_take hb)
 rw [List.length_take] at h1
 omega
theorem size_c (p : Pr) (V : Value) (w : World) (hP : PrV w V p) (hs : SzP p) :
  Calls Tryz.prog 31 #[V] w fun e w' => e = .returned (.int .i64 ((p.blks.length : Int) + (insN p : Int))) ∧ Below w.heap.size w w' := by
 obtain ⟨nm, vo, vb, rfl, ⟨ao, co, rfl, -⟩, hvb⟩ := hP
 have hvb' := hvb
 obtain ⟨ab, cb, rfl, h1, h2, -⟩ := hvb'
 have HBk := Lib.hid (RdBks.at hvb).2
 clear hvb
 unfold maxLen at h2
 have hbl := hs.blks
 have HSz := Lib.hid (fun k => insS_take_le p.blks k hs.ins hbl)
 have HIn : Hid (insN p = insS p.blks) := rfl
 go_enter Tryz.func31, Tryz.ntmps31
 go_wp2_with fail
 have B0 : Hid (Below w.heap.size w (w.alloc (.cells #[.string nm, .bool p.void, .int .i64 p.params, .int .i64 p.regs, .slice ao p.objs.length co, .slice ab p.blks.length cb] 35))) := below_alloc w _
 generalize w.alloc (.cells #[.string nm, .bool p.void, .int .i64 p.params, .int .i64 p.regs, .slice ao p.objs.length co, .slice ab p.blks.length cb] 35) = W0 at B0 ⊢
 go_loopw [3, 12] (fun n i wr => ∃ k : Nat, k ≤ p.blks.length ∧ i = .int .i64 (k : Int) ∧ n = .int .i64 ((p.blks.length : Int) + (insS (p.blks.take k) : Int)) ∧ Hid (Below w.heap.size w wr)) (fun _ i _ => p.blks.length - (intOf i).toNat)
 case atStart => exact ⟨0, Nat.zero_le _, rfl, by simp [insS], B0⟩
 case round =>
  clear B0
  obtain ⟨k, hk, rfl, rfl, hB⟩ := hrel
  by_cases hlt : k < p.blks.length
  ·obtain ⟨b, o, vi, rfl, ⟨ai, ci, rfl, hi1, hi2, -⟩, c0, c1, c2, c3, c4⟩ := HBk.out k hlt
   replace c0 := Ext.below hB.out _ _ c0
   replace c1 := Ext.below hB.out _ _ c1
   replace c2 := Ext.below hB.out _ _ c2
   replace c3 := Ext.below hB.out _ _ c3
   replace c4 := Ext.below hB.out _ _ c4
   have hst := insS_take p.blks k hlt
   have hs1 := HSz.out (k + 1)
   have hs0 := HSz.out k
   rw [hst] at hs1
   have HST := Lib.hid hst
   clear hst
   generalize insS (p.blks.take k) = S at hs0 hs1 HST ⊢
   generalize p.blks.getD k default = K at *
   have hz := hB.out.size
   unfold maxLen at hi2
   go_wp2_with fail
   go_roundw
   case rel => exact ⟨k + 1, by omega, by go_num, by rw [HST.out]; congr 1; omega, hB.out.alloc hz _⟩
   case measure => simp [intOf]; omega
  ·obtain rfl : k = p.blks.length := by omega
   go_wp2_with fail
   go_ret
   exact ⟨ret_i (by rw [HIn.out, List.take_length]), hB.out⟩
theorem keep_below {S : Nat → Prop} {w w' : World} (hb : Below w.heap.size w w') (h : ∀ b, S b → b < w.heap.size) : Keep S w w' := fun b o hs => hb.cell (p := ⟨b, o, none⟩) (h b hs)
theorem proc_c (m : Md) (p : Pr) (v : Value) (w : World) (h : LkV w v m p) (hs : SzP p) :
  Calls Tryz.prog 34 #[v] w fun e w' => e = .returned (.bool (okP m p)) ∧ Below w.heap.size w w' := by
 have EI : Hid (∀ i V w', Ext w w' → InV w' V i → Calls Tryz.prog 50 #[v, V] w' fun e w'' => e = .returned (.bool (okI m p i)) ∧ Below w'.heap.size w' w'') := fun i V w' he hi => insL_c m p v V i w' (h.ext he) hi
 have EE : Hid (∀ b V w', Ext w w' → BkV w' V b → Calls Tryz.prog 51 #[v, V] w' fun e w'' => e = .returned (.bool (endF p b)) ∧ Below w'.heap.size w' w'') := fun b V w' he hi => end_c m p v V b w' (h.ext he) hi
 obtain ⟨vg, vd, vp, nm, vo, vb, rfl, ⟨ag, cg, rfl, -⟩, ⟨ad, cd, rfl, -⟩, ⟨ap, cp, rfl, -⟩, hvo, hvb⟩ := h
 have ES : Hid (∀ w', Ext w w' → Calls Tryz.prog 17 #[vo] w' fun e w'' => e = .returned (.bool (p.objs.all slotF)) ∧ Below w'.heap.size w' w'') := fun w' he => slots_c p.objs vo w' (hvo.ext he)
 have EZ : Hid (∀ w', Ext w w' → Calls Tryz.prog 31 #[.agg #[.string nm, .bool p.void, .int .i64 p.params, .int .i64 p.regs, vo, vb]] w' fun e w'' => e = .returned (.int .i64 ((p.blks.length : Int) + (insN p : Int))) ∧ Below w'.heap.size w' w'') := fun w' he => size_c p _ w' ⟨nm, vo, vb, rfl, hvo.ext he, hvb.ext he⟩ hs
 have hsz : insN p ≤ 10000000000 := by have := insS_take_le p.blks p.blks.length hs.ins hs.blks; rw [List.take_length] at this; exact this
 have hbl := hs.blks
 obtain ⟨ao, co, rfl, ho1, ho2, -⟩ := hvo
 have hvb' := hvb
 obtain ⟨ab, cb, rfl, hb1, hb2, -⟩ := hvb'
 have HBk := Lib.hid (RdBks.at hvb).2
 clear hvb
 unfold maxLen at ho2 hb2
 obtain ⟨W0, hW0⟩ : ∃ W0, W0 = (w.alloc (.cells #[.slice ag m.globs.length cg, .slice ad m.data.length cd, .slice ap m.procs.length cp, .int .i64 m.main, .string nm, .bool p.void, .int .i64 p.params, .int .i64 p.regs, .slice ao p.objs.length co, .slice ab p.blks.length cb] 89)).alloc (.cells #[.string nm, .bool p.void, .int .i64 p.params, .int .i64 p.regs, .slice ao p.objs.length co, .slice ab p.blks.length cb] 35) := ⟨_, rfl⟩
 have hz0 : W0.heap.size = w.heap.size + 2 := by rw [hW0]; simp
 have HBX : Hid (∀ w', Below W0.heap.size W0 w' → ∀ j : Nat, j < 10 → w'.cell? ⟨w.heap.size, j, none⟩ = #[Value.slice ag m.globs.length cg, .slice ad m.data.length cd, .slice ap m.procs.length cp, .int .i64 m.main, .string nm, .bool p.void, .int .i64 p.params, .int .i64 p.regs, .slice ao p.objs.length co, .slice ab p.blks.length cb][j]?) := fun w' hb j _ => by
  rw [hb.cell (p := ⟨w.heap.size, j, none⟩) (by rw [hz0]; simp only; omega), hW0, (below_alloc (w.alloc (.cells #[.slice ag m.globs.length cg, .slice ad m.data.length cd, .slice ap m.procs.length cp, .int .i64 m.main, .string nm, .bool p.void, .int .i64 p.params, .int .i64 p.regs, .slice ao p.objs.length co, .slice ab p.blks.length cb] 89)) _).cell (p := ⟨w.heap.size, j, none⟩) (by simp)]
  exact cell_of_heap (heap_alloc_new w _) j
 have HBY : Hid (∀ w', Below W0.heap.size W0 w' → ∀ j : Nat, j < 6 → w'.cell? ⟨w.heap.size + 1, j, none⟩ = #[Value.string nm, .bool p.void, .int .i64 p.params, .int .i64 p.regs, .slice ao p.objs.length co, .slice ab p.blks.length cb][j]?) := fun w' hb j _ => by
  rw [hb.cell (p := ⟨w.heap.size + 1, j, none⟩) (by rw [hz0]; simp only; omega), hW0]
  have := cell_of_heap (heap_alloc_new (w.alloc (.cells #[.slice ag m.globs.length cg, .slice ad m.data.length cd, .slice ap m.procs.length cp, .int .i64 m.main, .string nm, .bool p.void, .int .i64 p.params, .int .i64 p.regs, .slice ao p.objs.length co, .slice ab p.blks.length cb] 89)) (.cells #[.string nm, .bool p.void, .int .i64 p.params, .int .i64 p.regs, .slice ao p.objs.length co, .slice ab p.blks.length cb] 35)) j
  simpa using this
 have HE : Hid (∀ w', Below W0.heap.size W0 w' → Ext w w') := fun w' hb => (show Ext w W0 by rw [hW0]; exact (Ext.alloc w _).trans (Ext.alloc _ _)).trans (Ext.below hb)
 have HR : Hid (∀ w', Below W0.heap.size W0 w' → Below w.heap.size w w') := fun w' hb => (show Below w.heap.size w W0 by rw [hW0]; exact (below_alloc w _).alloc (by simp) _).trans (hb.mono (by omega))
 have B0 : Hid (Below W0.heap.size W0 W0) := Below.refl _ _
 have hza : W0.heap.size ≤ w.heap.size + 2 := Nat.le_of_eq hz0
 have hzb : w.heap.size + 2 ≤ W0.heap.size := Nat.le_of_eq hz0.symm
 have hl0 : w.heap.size < W0.heap.size := by omega
 have hl1 : w.heap.size + 1 < W0.heap.size := by omega
 have HW0 := Lib.hid hW0
 clear hW0 hz0
 have HF : Hid (okP m p = (okHead p && p.blks.all (okB m p))) := rfl
 have HH : Hid (okHead p = (decide (0 ≤ p.params) && (decide (p.params ≤ 6) && (decide (p.params ≤ p.regs) && (decide (p.regs ≤ 8000) && (decide (p.objs.length ≤ 400) && (decide (1 ≤ p.blks.length) && (decide (p.blks.length ≤ 4000) && (p.objs.all slotF && decide (insN p ≤ 20000)))))))))) := rfl
 go_enter Tryz.func34, Tryz.ntmps34
 go_wp2_with fail
 rw [← HW0.out]
 obtain ⟨W1, hW1⟩ : ∃ W1, W1 = W0.drew := ⟨_, rfl⟩
 have B1 : Hid (Below W0.heap.size W0 W1) := by rw [hW1]; exact B0.out.drew
 have hl1' : w.heap.size + 1 < W1.heap.size := by have := B1.out.size; omega
 refine wp_region_game (fun b => b = w.heap.size + 1) (by kernel_rfl) ?_
 show wpE _ _ _ _ _ _ _ W0.drew
 rw [← hW1]
 clear hW1
 have y0 := HBY.out W1 B1.out 0 (by decide)
 have y1 := HBY.out W1 B1.out 1 (by decide)
 have y2 := HBY.out W1 B1.out 2 (by decide)
 have y3 := HBY.out W1 B1.out 3 (by decide)
 have y4 := HBY.out W1 B1.out 4 (by decide)
 have y5 := HBY.out W1 B1.out 5 (by decide)
 simp at y0 y1 y2 y3 y4 y5
 by_cases k0 : 0 ≤ p.params
 ·have d0 : decide (0 ≤ p.params) = true := decide_eq_true k0
  have g0 : decide (p.params < 0) = false := decide_eq_false (by omega)
  by_cases k1 : p.params ≤ 6
  ·have d1 : decide (p.params ≤ 6) = true := decide_eq_true k1
   have g1 : decide (6 < p.params) = false := decide_eq_false (by omega)
   by_cases k2 : p.params ≤ p.regs
   ·have d2 : decide (p.params ≤ p.regs) = true := decide_eq_true k2
    have g2 : decide (p.regs < p.params) = false := decide_eq_false (by omega)
    by_cases k3 : p.regs ≤ 8000
    ·have d3 : decide (p.regs ≤ 8000) = true := decide_eq_true k3
     have g3 : decide (8000 < p.regs) = false := decide_eq_false (by omega)
     by_cases k4 : p.objs.length ≤ 400
     ·have d4 : decide (p.objs.length ≤ 400) = true := decide_eq_true k4
      have g4 : decide ((400 : Int) < (p.objs.length : Int)) = false := decide_eq_false (by omega)
      by_cases k5 : 1 ≤ p.blks.length
      ·have d5 : decide (1 ≤ p.blks.length) = true := decide_eq_true k5
       have g5 : decide ((p.blks.length : Int) < 1) = false := decide_eq_false (by omega)
       by_cases k6 : p.blks.length ≤ 4000
       ·have d6 : decide (p.blks.length ≤ 4000) = true := decide_eq_true k6
        have g6 : decide ((4000 : Int) < (p.blks.length : Int)) = false := decide_eq_false (by omega)
        cases hsl : p.objs.all slotF
        ·have HV : Hid (okP m p = false) := by show _ = _; rw [HF.out, HH.out, d0, d1, d2, d3, d4, d5, d6, hsl]; simp
         rw [hsl] at ES
         clear HH HF hsl
         refine E_mob2s [0, 1, 2, 3, 4, 5, 6, 7, 8, 9, 10, 11, 12, 13, 14, 15, 16, 17, 18, 19, 20, 21, 22, 23, 24, 25, 26, 27, 28, 29, 30, 31, 32, 33, 34, 35, 36, 37, 38, 39, 40] _ _ _ _ (by kernel_rfl) ?_
         simp only [List.map_cons, List.map_nil, List.getElem?_toArray, List.getElem?_cons_succ, List.getElem?_cons_zero, Option.getD_some, List.size_toArray, List.length_cons, List.length_nil, Nat.reduceAdd, Nat.reduceSub]
         repeat (go_big_quiet_step (fail))
         refine wpQuiet_nil ?_
         refine E_loud1 41 _ rfl (by kernel_rfl) ?_
         simp only [List.getElem_toArray, List.getElem_cons_succ, List.getElem_cons_zero]
         go_wp2_with fail
         refine (ES.out _ (HE.out _ B1.out)).mono ?_
         rintro e w2 ⟨rfl, hb2⟩
         have hb2 := Lib.hid hb2
         have B2 : Hid (Below W0.heap.size W0 w2) := B1.out.trans (hb2.out.mono B1.out.size)
         clear y0 y1 y2 y3 y4 y5
         have y0 := HBY.out w2 B2.out 0 (by decide)
         have y1 := HBY.out w2 B2.out 1 (by decide)
         have y2 := HBY.out w2 B2.out 2 (by decide)
         have y3 := HBY.out w2 B2.out 3 (by decide)
         have y4 := HBY.out w2 B2.out 4 (by decide)
         have y5 := HBY.out w2 B2.out 5 (by decide)
         simp at y0 y1 y2 y3 y4 y5
         have hl2 : w.heap.size + 1 < w2.heap.size := by have := B2.out.size; omega
         go_wp2_with fail
         refine ⟨keep_below hb2.out (fun b hb => by rw [hb]; exact hl1'), ?_⟩
         refine E_mob2s [42, 43, 44, 45, 47, 48, 49] _ _ _ _ (by kernel_rfl) ?_
         simp only [List.map_cons, List.map_nil, List.getElem?_toArray, List.getElem?_cons_succ, List.getElem?_cons_zero, Option.getD_some, List.size_toArray, List.length_cons, List.length_nil, Nat.reduceAdd, Nat.reduceSub]
         repeat (go_big_quiet_step (fail))
         refine wpQuiet_nil ?_
         refine E_loud1 46 _ rfl (by kernel_rfl) ?_
         simp only [List.getElem_toArray, List.getElem_cons_succ, List.getElem_cons_zero]
         go_wp2_with fail
         refine ⟨Keep.refl _ _, ?_⟩
         refine E_mob2s [50, 51, 52] _ _ _ _ (by kernel_rfl) ?_
         simp only [List.map_cons, List.map_nil, List.getElem?_toArray, List.getElem?_cons_succ, List.getElem?_cons_zero, Option.getD_some, List.size_toArray, List.length_cons, List.length_nil, Nat.reduceAdd, Nat.reduceSub]
         repeat (go_big_quiet_step (fail))
         refine wpQuiet_nil ?_
         refine E_done (by kernel_rfl) ?_ _
         go_wp2_with fail
         go_ret
         exact ⟨ret_b HV.out.symm, HR.out _ B2.out⟩
        ·rw [hsl] at ES
         by_cases k8 : insN p ≤ 20000
         ·have HV : Hid (okP m p = p.blks.all (okB m p)) := by show _ = _; rw [HF.out, HH.out, d0, d1, d2, d3, d4, d5, d6, hsl, decide_eq_true k8]; simp
          have g8 : decide ((20000 : Int) < (insN p : Int)) = false := decide_eq_false (by omega)
          have g9 : decide (20000 < insN p) = false := decide_eq_false (by omega)
          clear HH HF hsl
          refine E_mob2s [0, 1, 2, 3, 4, 5, 6, 7, 8, 9, 10, 11, 12, 13, 14, 15, 16, 17, 18, 19, 20, 21, 22, 23, 24, 25, 26, 27, 28, 29, 30, 31, 32, 33, 34, 35, 36, 37, 38, 39, 40] _ _ _ _ (by kernel_rfl) ?_
          simp only [List.map_cons, List.map_nil, List.getElem?_toArray, List.getElem?_cons_succ, List.getElem?_cons_zero, Option.getD_some, List.size_toArray, List.length_cons, List.length_nil, Nat.reduceAdd, Nat.reduceSub]
          repeat (go_big_quiet_step (fail))
          refine wpQuiet_nil ?_
          refine E_loud1 41 _ rfl (by kernel_rfl) ?_
          simp only [List.getElem_toArray, List.getElem_cons_succ, List.getElem_cons_zero]
          go_wp2_with fail
          refine (ES.out _ (HE.out _ B1.out)).mono ?_
          rintro e w2 ⟨rfl, hb2⟩
          have hb2 := Lib.hid hb2
          have B2 : Hid (Below W0.heap.size W0 w2) := B1.out.trans (hb2.out.mono B1.out.size)
          clear y0 y1 y2 y3 y4 y5
          have y0 := HBY.out w2 B2.out 0 (by decide)
          have y1 := HBY.out w2 B2.out 1 (by decide)
          have y2 := HBY.out w2 B2.out 2 (by decide)
          have y3 := HBY.out w2 B2.out 3 (by decide)
          have y4 := HBY.out w2 B2.out 4 (by decide)
          have y5 := HBY.out w2 B2.out 5 (by decide)
          simp at y0 y1 y2 y3 y4 y5
          have hl2 : w.heap.size + 1 < w2.heap.size := by have := B2.out.size; omega
          go_wp2_with fail
          refine ⟨keep_below hb2.out (fun b hb => by rw [hb]; exact hl1'), ?_⟩
          refine E_mob2s [42, 43, 44, 45, 47, 48, 49] _ _ _ _ (by kernel_rfl) ?_
          simp only [List.map_cons, List.map_nil, List.getElem?_toArray, List.getElem?_cons_succ, List.getElem?_cons_zero, Option.getD_some, List.size_toArray, List.length_cons, List.length_nil, Nat.reduceAdd, Nat.reduceSub]
          repeat (go_big_quiet_step (fail))
          refine wpQuiet_nil ?_
          refine E_loud1 46 _ rfl (by kernel_rfl) ?_
          simp only [List.getElem_toArray, List.getElem_cons_succ, List.getElem_cons_zero]
          go_wp2_with fail
          refine (EZ.out _ (HE.out _ B2.out)).mono ?_
          rintro e w3 ⟨rfl, hb3⟩
          have hb3 := Lib.hid hb3
          have B3 : Hid (Below W0.heap.size W0 w3) := B2.out.trans (hb3.out.mono B2.out.size)
          go_wp2_with fail
          refine ⟨keep_below hb3.out (fun b hb => by rw [hb]; exact hl2), ?_⟩
          refine E_mob2s [50, 51, 52] _ _ _ _ (by kernel_rfl) ?_
          simp only [List.map_cons, List.map_nil, List.getElem?_toArray, List.getElem?_cons_succ, List.getElem?_cons_zero, Option.getD_some, List.size_toArray, List.length_cons, List.length_nil, Nat.reduceAdd, Nat.reduceSub]
          repeat (go_big_quiet_step (fail))
          refine wpQuiet_nil ?_
          refine E_done (by kernel_rfl) ?_ _
          clear y0 y1 y2 y3 y4 y5
          have y0 := HBY.out w3 B3.out 0 (by decide)
          have y1 := HBY.out w3 B3.out 1 (by decide)
          have y2 := HBY.out w3 B3.out 2 (by decide)
          have y3 := HBY.out w3 B3.out 3 (by decide)
          have y4 := HBY.out w3 B3.out 4 (by decide)
          have y5 := HBY.out w3 B3.out 5 (by decide)
          simp at y0 y1 y2 y3 y4 y5
          go_wp2_with fail
          clear y0 y1 y2 y3 y4 y5
          clear g0 g1 g2 g3 g4 g5 g6 d0 d1 d2 d3 d4 d5 d6 g8 g9 k0 k1 k2 k3 k4 k5 k6 k8 hsz ES EZ hl1' hl2 B1 B2 hb2 hb3
          go_loopw [66] (fun i wr => ∃ k : Nat, k ≤ p.blks.length ∧ i = .int .i64 (k : Int) ∧ Hid (Below W0.heap.size W0 wr) ∧ Hid ((p.blks.take k).all (okB m p) = true)) (fun i _ => p.blks.length - (intOf i).toNat)
          case atStart => exact ⟨0, Nat.zero_le _, rfl, B3, rfl⟩
          case round =>
           clear B3
           obtain ⟨k, hk, rfl, hB, HA⟩ := hrel
           by_cases hlt : k < p.blks.length
           ·obtain ⟨bb, ob, vi, rfl, hvi, c0, c1, c2, c3, c4⟩ := HBk.out k hlt
            replace c0 := HE.out _ hB.out _ _ c0
            replace c1 := HE.out _ hB.out _ _ c1
            replace c2 := HE.out _ hB.out _ _ c2
            replace c3 := HE.out _ hB.out _ _ c3
            replace c4 := HE.out _ hB.out _ _ c4
            have hY := Lib.hid (allG_take (okB m p) p.blks k hlt HA.out)
            have hZ := Lib.hid (allG_no (okB m p) p.blks k hlt)
            generalize p.blks.getD k default = K at *
            have hvi' := hvi
            obtain ⟨ai, ci, rfl, hi1, hi2, -⟩ := hvi'
            have HIn := Lib.hid (RdIns.at hvi).2
            have HVI := Lib.hid hvi
            clear hvi
            unfold maxLen at hi2
            have HKF : Hid (okB m p K = (K.ins.all (okI m p) && endF p K)) := rfl
            have hzr := hB.out.size
            obtain ⟨WB, hWB⟩ : ∃ WB, WB = wr.alloc (.cells #[.slice ai K.ins.length ci, .int .i64 K.fin, .int .i64 K.a, .int .i64 K.to, .int .i64 K.els] 51) := ⟨_, rfl⟩
            have BB : Hid (Below W0.heap.size W0 WB) := by rw [hWB]; exact hB.out.alloc hzr _
            have hbz : wr.heap.size < WB.heap.size := by rw [hWB]; simp
            have HBK : Hid (∀ w', Below WB.heap.size WB w' → ∀ j : Nat, j < 5 → w'.cell? ⟨wr.heap.size, j, none⟩ = #[Value.slice ai K.ins.length ci, .int .i64 K.fin, .int .i64 K.a, .int .i64 K.to, .int .i64 K.els][j]?) := fun w' hb j _ => by
             rw [hb.cell (p := ⟨wr.heap.size, j, none⟩) hbz, hWB]
             exact cell_of_heap (heap_alloc_new wr _) j
            have HBB : Hid (Below WB.heap.size WB WB) := Below.refl _ _
            have HT : Hid (∀ w', Below WB.heap.size WB w' → Below W0.heap.size W0 w') := fun w' hb => BB.out.trans (hb.mono BB.out.size)
            go_upto_block 3 with (fail)
            rw [← hWB]
            clear hWB c0 c1 c2 c3 c4
            generalize wr.heap.size = gb at HBK hbz ⊢
            go_wp2_with fail
            go_loopw [73] (fun i wr => ∃ n : Nat, n ≤ K.ins.length ∧ i = .int .i64 (n : Int) ∧ Hid (Below WB.heap.size WB wr) ∧ Hid ((K.ins.take n).all (okI m p) = true)) (fun i _ => K.ins.length - (intOf i).toNat)
            case atStart => exact ⟨0, Nat.zero_le _, rfl, HBB, rfl⟩
            case round =>
             clear HBB
             obtain ⟨n, hn, rfl, hC, HA2⟩ := hrel
             have hD := Lib.hid (HT.out _ hC.out)
             have hzc := hC.out.size
             have hzd := hD.out.size
             by_cases hln : n < K.ins.length
             ·obtain ⟨b3, o3, va, rfl, -, hva, z0, z1, z2, z3, z4, z5, z6, z7, z8, z9, z10⟩ := HIn.out n hln
              replace z0 := HE.out _ hD.out _ _ z0
              replace z1 := HE.out _ hD.out _ _ z1
              replace z2 := HE.out _ hD.out _ _ z2
              replace z3 := HE.out _ hD.out _ _ z3
              replace z4 := HE.out _ hD.out _ _ z4
              replace z5 := HE.out _ hD.out _ _ z5
              replace z6 := HE.out _ hD.out _ _ z6
              replace z7 := HE.out _ hD.out _ _ z7
              replace z8 := HE.out _ hD.out _ _ z8
              replace z9 := HE.out _ hD.out _ _ z9
              replace z10 := HE.out _ hD.out _ _ z10
              have hY3 := allG_take (okI m p) K.ins n hln HA2.out
              have hZ3 := allG_no (okI m p) K.ins n hln
              generalize K.ins.getD n default = I at *
              have HVA := Lib.hid hva
              obtain ⟨aa, ca, rfl, ha1, ha2, -⟩ := hva
              unfold maxLen at ha2
              have hl0r : w.heap.size < wr.heap.size := by omega
              have x0 := HBX.out wr hD.out 0 (by decide)
              have x1 := HBX.out wr hD.out 1 (by decide)
              have x2 := HBX.out wr hD.out 2 (by decide)
              have x3 := HBX.out wr hD.out 3 (by decide)
              have x4 := HBX.out wr hD.out 4 (by decide)
              have x5 := HBX.out wr hD.out 5 (by decide)
              have x6 := HBX.out wr hD.out 6 (by decide)
              have x7 := HBX.out wr hD.out 7 (by decide)
              have x8 := HBX.out wr hD.out 8 (by decide)
              have x9 := HBX.out wr hD.out 9 (by decide)
              simp at x0 x1 x2 x3 x4 x5 x6 x7 x8 x9
              go_wp2_with fail
              refine (EI.out I _ _ (HE.out _ (hD.out.alloc hzd _)) ⟨_, rfl, (HVA.out.ext (HE.out _ hD.out)).ext (Ext.alloc _ _)⟩).mono ?_
              rintro e w5 ⟨rfl, hb5⟩
              have C5 : Hid (Below WB.heap.size WB w5) := hC.out.trans ((below_alloc _ _).trans (hb5.mono (by simp)) |>.mono hzc)
              clear hb5 z0 z1 z2 z3 z4 z5 z6 z7 z8 z9 z10 x0 x1 x2 x3 x4 x5 x6 x7 x8 x9
              cases hx : okI m p I
              ·have HV2 : Hid (okP m p = false) := by
                show _ = _
                rw [HV.out, hZ.out (by rw [HKF.out, hZ3 hx]; rfl)]
               clear hY3 hZ3 hx
               go_wp2_with fail
               go_ret
               exact ⟨ret_b HV2.out.symm, HR.out _ (HT.out _ C5.out)⟩
              ·have HA4 := Lib.hid (hY3 hx)
               clear hY3 hZ3 hx
               go_wp2_with fail
               go_roundw
               case rel => exact ⟨n + 1, by omega, by go_num, C5, HA4⟩
               case measure => simp [intOf]; omega
             ·have HKI : Hid (K.ins.all (okI m p) = true) := by have := HA2.out; rwa [List.take_of_length_le (by omega)] at this
              have hl0r : w.heap.size < wr.heap.size := by omega
              have x0 := HBX.out wr hD.out 0 (by decide)
              have x1 := HBX.out wr hD.out 1 (by decide)
              have x2 := HBX.out wr hD.out 2 (by decide)
              have x3 := HBX.out wr hD.out 3 (by decide)
              have x4 := HBX.out wr hD.out 4 (by decide)
              have x5 := HBX.out wr hD.out 5 (by decide)
              have x6 := HBX.out wr hD.out 6 (by decide)
              have x7 := HBX.out wr hD.out 7 (by decide)
              have x8 := HBX.out wr hD.out 8 (by decide)
              have x9 := HBX.out wr hD.out 9 (by decide)
              simp at x0 x1 x2 x3 x4 x5 x6 x7 x8 x9
              have q0 := HBK.out wr hC.out 0 (by decide)
              have q1 := HBK.out wr hC.out 1 (by decide)
              have q2 := HBK.out wr hC.out 2 (by decide)
              have q3 := HBK.out wr hC.out 3 (by decide)
              have q4 := HBK.out wr hC.out 4 (by decide)
              simp at q0 q1 q2 q3 q4
              go_wp2_with fail
              refine (EE.out K _ wr (HE.out _ hD.out) ⟨_, rfl, HVI.out.ext (HE.out _ hD.out)⟩).mono ?_
              rintro e w6 ⟨rfl, hb6⟩
              have D6 : Hid (Below W0.heap.size W0 w6) := hD.out.trans (hb6.mono hzd)
              clear hb6 q0 q1 q2 q3 q4 x0 x1 x2 x3 x4 x5 x6 x7 x8 x9
              cases hx : endF p K
              ·have HV2 : Hid (okP m p = false) := by
                show _ = _
                rw [HV.out, hZ.out (by rw [HKF.out, HKI.out, hx]; rfl)]
               clear hx
               go_wp2_with fail
               go_ret
               exact ⟨ret_b HV2.out.symm, HR.out _ D6.out⟩
              ·have HA5 : Hid ((p.blks.take (k + 1)).all (okB m p) = true) := hY.out (by rw [HKF.out, HKI.out, hx]; rfl)
               clear hx
               go_wp2_with fail
               go_roundw
               case rel => exact ⟨k + 1, by omega, by go_num, D6, HA5⟩
               case measure => simp [intOf]; omega
           ·have HV2 : Hid (okP m p = true) := by
             show _ = _
             rw [HV.out]; have := HA.out; rwa [List.take_of_length_le (by omega)] at this
            go_wp2_with fail
            go_ret
            exact ⟨ret_b HV2.out.symm, HR.out _ hB.out⟩
         ·have HV : Hid (okP m p = false) := by show _ = _; rw [HF.out, HH.out, d0, d1, d2, d3, d4, d5, d6, hsl, decide_eq_false k8]; simp
          have g8 : decide ((20000 : Int) < (insN p : Int)) = true := decide_eq_true (by omega)
          have g9 : decide (20000 < insN p) = true := decide_eq_true (by omega)
          clear HH HF hsl
          refine E_mob2s [0, 1, 2, 3, 4, 5, 6, 7, 8, 9, 10, 11, 12, 13, 14, 15, 16, 17, 18, 19, 20, 21, 22, 23, 24, 25, 26, 27, 28, 29, 30, 31, 32, 33, 34, 35, 36, 37, 38, 39, 40] _ _ _ _ (by kernel_rfl) ?_
          simp only [List.map_cons, List.map_nil, List.getElem?_toArray, List.getElem?_cons_succ, List.getElem?_cons_zero, Option.getD_some, List.size_toArray, List.length_cons, List.length_nil, Nat.reduceAdd, Nat.reduceSub]
          repeat (go_big_quiet_step (fail))
          refine wpQuiet_nil ?_
          refine E_loud1 41 _ rfl (by kernel_rfl) ?_
          simp only [List.getElem_toArray, List.getElem_cons_succ, List.getElem_cons_zero]
          go_wp2_with fail
          refine (ES.out _ (HE.out _ B1.out)).mono ?_
          rintro e w2 ⟨rfl, hb2⟩
          have hb2 := Lib.hid hb2
          have B2 : Hid (Below W0.heap.size W0 w2) := B1.out.trans (hb2.out.mono B1.out.size)
          clear y0 y1 y2 y3 y4 y5
          have y0 := HBY.out w2 B2.out 0 (by decide)
          have y1 := HBY.out w2 B2.out 1 (by decide)
          have y2 := HBY.out w2 B2.out 2 (by decide)
          have y3 := HBY.out w2 B2.out 3 (by decide)
          have y4 := HBY.out w2 B2.out 4 (by decide)
          have y5 := HBY.out w2 B2.out 5 (by decide)
          simp at y0 y1 y2 y3 y4 y5
          have hl2 : w.heap.size + 1 < w2.heap.size := by have := B2.out.size; omega
          go_wp2_with fail
          refine ⟨keep_below hb2.out (fun b hb => by rw [hb]; exact hl1'), ?_⟩
          refine E_mob2s [42, 43, 44, 45, 47, 48, 49] _ _ _ _ (by kernel_rfl) ?_
          simp only [List.map_cons, List.map_nil, List.getElem?_toArray, List.getElem?_cons_succ, List.getElem?_cons_zero, Option.getD_some, List.size_toArray, List.length_cons, List.length_nil, Nat.reduceAdd, Nat.reduceSub]
          repeat (go_big_quiet_step (fail))
          refine wpQuiet_nil ?_
          refine E_loud1 46 _ rfl (by kernel_rfl) ?_
          simp only [List.getElem_toArray, List.getElem_cons_succ, List.getElem_cons_zero]
          go_wp2_with fail
          refine (EZ.out _ (HE.out _ B2.out)).mono ?_
          rintro e w3 ⟨rfl, hb3⟩
          have hb3 := Lib.hid hb3
          have B3 : Hid (Below W0.heap.size W0 w3) := B2.out.trans (hb3.out.mono B2.out.size)
          go_wp2_with fail
          refine ⟨keep_below hb3.out (fun b hb => by rw [hb]; exact hl2), ?_⟩
          refine E_mob2s [50, 51, 52] _ _ _ _ (by kernel_rfl) ?_
          simp only [List.map_cons, List.map_nil, List.getElem?_toArray, List.getElem?_cons_succ, List.getElem?_cons_zero, Option.getD_some, List.size_toArray, List.length_cons, List.length_nil, Nat.reduceAdd, Nat.reduceSub]
          repeat (go_big_quiet_step (fail))
          refine wpQuiet_nil ?_
          refine E_done (by kernel_rfl) ?_ _
          go_wp2_with fail
          go_ret
          exact ⟨ret_b HV.out.symm, HR.out _ B3.out⟩
       ·have g6 : decide ((4000 : Int) < (p.blks.length : Int)) = true := decide_eq_true (by omega)
        have HV : Hid (okP m p = false) := by show _ = _; rw [HF.out, HH.out, d0, d1, d2, d3, d4, d5, decide_eq_false k6]; simp
        clear HH HF
        refine E_mob2s [0, 1, 2, 3, 4, 5, 6, 7, 8, 9, 10, 11, 12, 13, 14, 15, 16, 17, 18, 19, 20, 21, 22, 23, 24, 25, 26, 27, 28, 29, 30, 31, 32, 33, 34, 35, 36, 37, 38, 39, 40] _ _ _ _ (by kernel_rfl) ?_
        simp only [List.map_cons, List.map_nil, List.getElem?_toArray, List.getElem?_cons_succ, List.getElem?_cons_zero, Option.getD_some, List.size_toArray, List.length_cons, List.length_nil, Nat.reduceAdd, Nat.reduceSub]
        repeat (go_big_quiet_step (fail))
        refine wpQuiet_nil ?_
        refine E_loud1 41 _ rfl (by kernel_rfl) ?_
        simp only [List.getElem_toArray, List.getElem_cons_succ, List.getElem_cons_zero]
        go_wp2_with fail
        refine ⟨Keep.refl _ _, ?_⟩
        refine E_mob2s [42, 43, 44, 45, 47, 48, 49] _ _ _ _ (by kernel_rfl) ?_
        simp only [List.map_cons, List.map_nil, List.getElem?_toArray, List.getElem?_cons_succ, List.getElem?_cons_zero, Option.getD_some, List.size_toArray, List.length_cons, List.length_nil, Nat.reduceAdd, Nat.reduceSub]
        repeat (go_big_quiet_step (fail))
        refine wpQuiet_nil ?_
        refine E_loud1 46 _ rfl (by kernel_rfl) ?_
        simp only [List.getElem_toArray, List.getElem_cons_succ, List.getElem_cons_zero]
        go_wp2_with fail
        refine ⟨Keep.refl _ _, ?_⟩
        refine E_mob2s [50, 51, 52] _ _ _ _ (by kernel_rfl) ?_
        simp only [List.map_cons, List.map_nil, List.getElem?_toArray, List.getElem?_cons_succ, List.getElem?_cons_zero, Option.getD_some, List.size_toArray, List.length_cons, List.length_nil, Nat.reduceAdd, Nat.reduceSub]
        repeat (go_big_quiet_step (fail))
        refine wpQuiet_nil ?_
        refine E_done (by kernel_rfl) ?_ _
        go_wp2_with fail
        go_ret
        exact ⟨ret_b HV.out.symm, HR.out _ B1.out⟩
      ·have g5 : decide ((p.blks.length : Int) < 1) = true := decide_eq_true (by omega)
       have HV : Hid (okP m p = false) := by show _ = _; rw [HF.out, HH.out, d0, d1, d2, d3, d4, decide_eq_false k5]; simp
       clear HH HF
       refine E_mob2s [0, 1, 2, 3, 4, 5, 6, 7, 8, 9, 10, 11, 12, 13, 14, 15, 16, 17, 18, 19, 20, 21, 22, 23, 24, 25, 26, 27, 28, 29, 30, 31, 32, 33, 34, 35, 36, 37, 38, 39, 40] _ _ _ _ (by kernel_rfl) ?_
       simp only [List.map_cons, List.map_nil, List.getElem?_toArray, List.getElem?_cons_succ, List.getElem?_cons_zero, Option.getD_some, List.size_toArray, List.length_cons, List.length_nil, Nat.reduceAdd, Nat.reduceSub]
       repeat (go_big_quiet_step (fail))
       refine wpQuiet_nil ?_
       refine E_loud1 41 _ rfl (by kernel_rfl) ?_
       simp only [List.getElem_toArray, List.getElem_cons_succ, List.getElem_cons_zero]
       go_wp2_with fail
       refine ⟨Keep.refl _ _, ?_⟩
       refine E_mob2s [42, 43, 44, 45, 47, 48, 49] _ _ _ _ (by kernel_rfl) ?_
       simp only [List.map_cons, List.map_nil, List.getElem?_toArray, List.getElem?_cons_succ, List.getElem?_cons_zero, Option.getD_some, List.size_toArray, List.length_cons, List.length_nil, Nat.reduceAdd, Nat.reduceSub]
       repeat (go_big_quiet_step (fail))
       refine wpQuiet_nil ?_
       refine E_loud1 46 _ rfl (by kernel_rfl) ?_
       simp only [List.getElem_toArray, List.getElem_cons_succ, List.getElem_cons_zero]
       go_wp2_with fail
       refine ⟨Keep.refl _ _, ?_⟩
       refine E_mob2s [50, 51, 52] _ _ _ _ (by kernel_rfl) ?_
       simp only [List.map_cons, List.map_nil, List.getElem?_toArray, List.getElem?_cons_succ, List.getElem?_cons_zero, Option.getD_some, List.size_toArray, List.length_cons, List.length_nil, Nat.reduceAdd, Nat.reduceSub]
       repeat (go_big_quiet_step (fail))
       refine wpQuiet_nil ?_
       refine E_done (by kernel_rfl) ?_ _
       go_wp2_with fail
       go_ret
       exact ⟨ret_b HV.out.symm, HR.out _ B1.out⟩
     ·have g4 : decide ((400 : Int) < (p.objs.length : Int)) = true := decide_eq_true (by omega)
      have HV : Hid (okP m p = false) := by show _ = _; rw [HF.out, HH.out, d0, d1, d2, d3, decide_eq_false k4]; simp
      clear HH HF
      refine E_mob2s [0, 1, 2, 3, 4, 5, 6, 7, 8, 9, 10, 11, 12, 13, 14, 15, 16, 17, 18, 19, 20, 21, 22, 23, 24, 25, 26, 27, 28, 29, 30, 31, 32, 33, 34, 35, 36, 37, 38, 39, 40] _ _ _ _ (by kernel_rfl) ?_
      simp only [List.map_cons, List.map_nil, List.getElem?_toArray, List.getElem?_cons_succ, List.getElem?_cons_zero, Option.getD_some, List.size_toArray, List.length_cons, List.length_nil, Nat.reduceAdd, Nat.reduceSub]
      repeat (go_big_quiet_step (fail))
      refine wpQuiet_nil ?_
      refine E_loud1 41 _ rfl (by kernel_rfl) ?_
      simp only [List.getElem_toArray, List.getElem_cons_succ, List.getElem_cons_zero]
      go_wp2_with fail
      refine ⟨Keep.refl _ _, ?_⟩
      refine E_mob2s [42, 43, 44, 45, 47, 48, 49] _ _ _ _ (by kernel_rfl) ?_
      simp only [List.map_cons, List.map_nil, List.getElem?_toArray, List.getElem?_cons_succ, List.getElem?_cons_zero, Option.getD_some, List.size_toArray, List.length_cons, List.length_nil, Nat.reduceAdd, Nat.reduceSub]
      repeat (go_big_quiet_step (fail))
      refine wpQuiet_nil ?_
      refine E_loud1 46 _ rfl (by kernel_rfl) ?_
      simp only [List.getElem_toArray, List.getElem_cons_succ, List.getElem_cons_zero]
      go_wp2_with fail
      refine ⟨Keep.refl _ _, ?_⟩
      refine E_mob2s [50, 51, 52] _ _ _ _ (by kernel_rfl) ?_
      simp only [List.map_cons, List.map_nil, List.getElem?_toArray, List.getElem?_cons_succ, List.getElem?_cons_zero, Option.getD_some, List.size_toArray, List.length_cons, List.length_nil, Nat.reduceAdd, Nat.reduceSub]
      repeat (go_big_quiet_step (fail))
      refine wpQuiet_nil ?_
      refine E_done (by kernel_rfl) ?_ _
      go_wp2_with fail
      go_ret
      exact ⟨ret_b HV.out.symm, HR.out _ B1.out⟩
    ·have g3 : decide (8000 < p.regs) = true := decide_eq_true (by omega)
     have HV : Hid (okP m p = false) := by show _ = _; rw [HF.out, HH.out, d0, d1, d2, decide_eq_false k3]; simp
     clear HH HF
     refine E_mob2s [0, 1, 2, 3, 4, 5, 6, 7, 8, 9, 10, 11, 12, 13, 14, 15, 16, 17, 18, 19, 20, 21, 22, 23, 24, 25, 26, 27, 28, 29, 30, 31, 32, 33, 34, 35, 36, 37, 38, 39, 40] _ _ _ _ (by kernel_rfl) ?_
     simp only [List.map_cons, List.map_nil, List.getElem?_toArray, List.getElem?_cons_succ, List.getElem?_cons_zero, Option.getD_some, List.size_toArray, List.length_cons, List.length_nil, Nat.reduceAdd, Nat.reduceSub]
     repeat (go_big_quiet_step (fail))
     refine wpQuiet_nil ?_
     refine E_loud1 41 _ rfl (by kernel_rfl) ?_
     simp only [List.getElem_toArray, List.getElem_cons_succ, List.getElem_cons_zero]
     go_wp2_with fail
     refine ⟨Keep.refl _ _, ?_⟩
     refine E_mob2s [42, 43, 44, 45, 47, 48, 49] _ _ _ _ (by kernel_rfl) ?_
     simp only [List.map_cons, List.map_nil, List.getElem?_toArray, List.getElem?_cons_succ, List.getElem?_cons_zero, Option.getD_some, List.size_toArray, List.length_cons, List.length_nil, Nat.reduceAdd, Nat.reduceSub]
     repeat (go_big_quiet_step (fail))
     refine wpQuiet_nil ?_
     refine E_loud1 46 _ rfl (by kernel_rfl) ?_
     simp only [List.getElem_toArray, List.getElem_cons_succ, List.getElem_cons_zero]
     go_wp2_with fail
     refine ⟨Keep.refl _ _, ?_⟩
     refine E_mob2s [50, 51, 52] _ _ _ _ (by kernel_rfl) ?_
     simp only [List.map_cons, List.map_nil, List.getElem?_toArray, List.getElem?_cons_succ, List.getElem?_cons_zero, Option.getD_some, List.size_toArray, List.length_cons, List.length_nil, Nat.reduceAdd, Nat.reduceSub]
     repeat (go_big_quiet_step (fail))
     refine wpQuiet_nil ?_
     refine E_done (by kernel_rfl) ?_ _
     go_wp2_with fail
     go_ret
     exact ⟨ret_b HV.out.symm, HR.out _ B1.out⟩
   ·have g2 : decide (p.regs < p.params) = true := decide_eq_true (by omega)
    have HV : Hid (okP m p = false) := by show _ = _; rw [HF.out, HH.out, d0, d1, decide_eq_false k2]; simp
    clear HH HF
    refine E_mob2s [0, 1, 2, 3, 4, 5, 6, 7, 8, 9, 10, 11, 12, 13, 14, 15, 16, 17, 18, 19, 20, 21, 22, 23, 24, 25, 26, 27, 28, 29, 30, 31, 32, 33, 34, 35, 36, 37, 38, 39, 40] _ _ _ _ (by kernel_rfl) ?_
    simp only [List.map_cons, List.map_nil, List.getElem?_toArray, List.getElem?_cons_succ, List.getElem?_cons_zero, Option.getD_some, List.size_toArray, List.length_cons, List.length_nil, Nat.reduceAdd, Nat.reduceSub]
    repeat (go_big_quiet_step (fail))
    refine wpQuiet_nil ?_
    refine E_loud1 41 _ rfl (by kernel_rfl) ?_
    simp only [List.getElem_toArray, List.getElem_cons_succ, List.getElem_cons_zero]
    go_wp2_with fail
    refine ⟨Keep.refl _ _, ?_⟩
    refine E_mob2s [42, 43, 44, 45, 47, 48, 49] _ _ _ _ (by kernel_rfl) ?_
    simp only [List.map_cons, List.map_nil, List.getElem?_toArray, List.getElem?_cons_succ, List.getElem?_cons_zero, Option.getD_some, List.size_toArray, List.length_cons, List.length_nil, Nat.reduceAdd, Nat.reduceSub]
    repeat (go_big_quiet_step (fail))
    refine wpQuiet_nil ?_
    refine E_loud1 46 _ rfl (by kernel_rfl) ?_
    simp only [List.getElem_toArray, List.getElem_cons_succ, List.getElem_cons_zero]
    go_wp2_with fail
    refine ⟨Keep.refl _ _, ?_⟩
    refine E_mob2s [50, 51, 52] _ _ _ _ (by kernel_rfl) ?_
    simp only [List.map_cons, List.map_nil, List.getElem?_toArray, List.getElem?_cons_succ, List.getElem?_cons_zero, Option.getD_some, List.size_toArray, List.length_cons, List.length_nil, Nat.reduceAdd, Nat.reduceSub]
    repeat (go_big_quiet_step (fail))
    refine wpQuiet_nil ?_
    refine E_done (by kernel_rfl) ?_ _
    go_wp2_with fail
    go_ret
    exact ⟨ret_b HV.out.symm, HR.out _ B1.out⟩
  ·have g1 : decide (6 < p.params) = true := decide_eq_true (by omega)
   have HV : Hid (okP m p = false) := by show _ = _; rw [HF.out, HH.out, d0, decide_eq_false k1]; simp
   clear HH HF
   refine E_mob2s [0, 1, 2, 3, 4, 5, 6, 7, 8, 9, 10, 11, 12, 13, 14, 15, 16, 17, 18, 19, 20, 21, 22, 23, 24, 25, 26, 27, 28, 29, 30, 31, 32, 33, 34, 35, 36, 37, 38, 39, 40] _ _ _ _ (by kernel_rfl) ?_
   simp only [List.map_cons, List.map_nil, List.getElem?_toArray, List.getElem?_cons_succ, List.getElem?_cons_zero, Option.getD_some, List.size_toArray, List.length_cons, List.length_nil, Nat.reduceAdd, Nat.reduceSub]
   repeat (go_big_quiet_step (fail))
   refine wpQuiet_nil ?_
   refine E_loud1 41 _ rfl (by kernel_rfl) ?_
   simp only [List.getElem_toArray, List.getElem_cons_succ, List.getElem_cons_zero]
   go_wp2_with fail
   refine ⟨Keep.refl _ _, ?_⟩
   refine E_mob2s [42, 43, 44, 45, 47, 48, 49] _ _ _ _ (by kernel_rfl) ?_
   simp only [List.map_cons, List.map_nil, List.getElem?_toArray, List.getElem?_cons_succ, List.getElem?_cons_zero, Option.getD_some, List.size_toArray, List.length_cons, List.length_nil, Nat.reduceAdd, Nat.reduceSub]
   repeat (go_big_quiet_step (fail))
   refine wpQuiet_nil ?_
   refine E_loud1 46 _ rfl (by kernel_rfl) ?_
   simp only [List.getElem_toArray, List.getElem_cons_succ, List.getElem_cons_zero]
   go_wp2_with fail
   refine ⟨Keep.refl _ _, ?_⟩
   refine E_mob2s [50, 51, 52] _ _ _ _ (by kernel_rfl) ?_
   simp only [List.map_cons, List.map_nil, List.getElem?_toArray, List.getElem?_cons_succ, List.getElem?_cons_zero, Option.getD_some, List.size_toArray, List.length_cons, List.length_nil, Nat.reduceAdd, Nat.reduceSub]
   repeat (go_big_quiet_step (fail))
   refine wpQuiet_nil ?_
   refine E_done (by kernel_rfl) ?_ _
   go_wp2_with fail
   go_ret
   exact ⟨ret_b HV.out.symm, HR.out _ B1.out⟩
 ·have g0 : decide (p.params < 0) = true := decide_eq_true (by omega)
  have HV : Hid (okP m p = false) := by show _ = _; rw [HF.out, HH.out, decide_eq_false k0]; simp
  clear HH HF
  refine E_mob2s [0, 1, 2, 3, 4, 5, 6, 7, 8, 9, 10, 11, 12, 13, 14, 15, 16, 17, 18, 19, 20, 21, 22, 23, 24, 25, 26, 27, 28, 29, 30, 31, 32, 33, 34, 35, 36, 37, 38, 39, 40] _ _ _ _ (by kernel_rfl) ?_
  simp only [List.map_cons, List.map_nil, List.getElem?_toArray, List.getElem?_cons_succ, List.getElem?_cons_zero, Option.getD_some, List.size_toArray, List.length_cons, List.length_nil, Nat.reduceAdd, Nat.reduceSub]
  repeat (go_big_quiet_step (fail))
  refine wpQuiet_nil ?_
  refine E_loud1 41 _ rfl (by kernel_rfl) ?_
  simp only [List.getElem_toArray, List.getElem_cons_succ, List.getElem_cons_zero]
  go_wp2_with fail
  refine ⟨Keep.refl _ _, ?_⟩
  refine E_mob2s [42, 43, 44, 45, 47, 48, 49] _ _ _ _ (by kernel_rfl) ?_
  simp only [List.map_cons, List.map_nil, List.getElem?_toArray, List.getElem?_cons_succ, List.getElem?_cons_zero, Option.getD_some, List.size_toArray, List.length_cons, List.length_nil, Nat.reduceAdd, Nat.reduceSub]
  repeat (go_big_quiet_step (fail))
  refine wpQuiet_nil ?_
  refine E_loud1 46 _ rfl (by kernel_rfl) ?_
  simp only [List.getElem_toArray, List.getElem_cons_succ, List.getElem_cons_zero]
  go_wp2_with fail
  refine ⟨Keep.refl _ _, ?_⟩
  refine E_mob2s [50, 51, 52] _ _ _ _ (by kernel_rfl) ?_
  simp only [List.map_cons, List.map_nil, List.getElem?_toArray, List.getElem?_cons_succ, List.getElem?_cons_zero, Option.getD_some, List.size_toArray, List.length_cons, List.length_nil, Nat.reduceAdd, Nat.reduceSub]
  repeat (go_big_quiet_step (fail))
  refine wpQuiet_nil ?_
  refine E_done (by kernel_rfl) ?_ _
  go_wp2_with fail
  go_ret
  exact ⟨ret_b HV.out.symm, HR.out _ B1.out⟩
end Go.Proofs.YtchoiankeohonaaGreatDoor
