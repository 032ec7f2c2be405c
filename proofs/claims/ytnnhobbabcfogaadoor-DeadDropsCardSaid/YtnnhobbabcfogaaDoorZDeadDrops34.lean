/-
 dead's page example answers yes.; dead.Drop.
-/
import Derived.Test.YtnnhobbabcfogaaDoorZDeadDrops33
import Derived.Test.YtnnhobbabcfogaaDoorZDeadDrops26

set_option linter.all false
namespace Go.Proofs.YtnnhobbabcfogaaDoor
open Go.ChangeShapes Go.WideShapes Go.ChangeAt Go.RowKit Go.Maps
set_option maxHeartbeats 4000000
set_option linter.unusedVariables false
set_option maxRecDepth 100000

def aI0 : In := ⟨1, 1, -1, -1, 0, 0, 0, 0, 2, [], false⟩
def aI1 : In := ⟨1, 1, -1, -1, 0, 0, 0, 0, 3, [], false⟩
def aI2 : In := ⟨10, -1, 1, -1, 0, 0, 0, 0, 0, [], false⟩
def aP : Pr := ⟨false, 0, 2, [], [⟨[aI0, aI1, aI2], 3, 0, 0, 0⟩]⟩
theorem aP_idle : (List.range aP.blks.length).map (idleL aP) = [[0]] := by rfl
theorem aP_dead : (deadP aP).blks = [⟨[aI1, aI2], 3, 0, 0, 0⟩] := by rfl
theorem aP_ok : DeadOk aP := by
 refine ⟨⟨by decide, by decide⟩, ⟨by unfold I64; decide, by decide⟩, fun n hn => ?_, fun n hn => ?_⟩
 ·obtain rfl : n = 0 := by have : n < 1 := hn; omega
  refine ⟨by decide, fun k hk => ?_⟩
  have h3 : k < 3 := hk
  have : k = 0 ∨ k = 1 ∨ k = 2 := by omega
  rcases this with rfl | rfl | rfl <;> decide
 ·obtain rfl : n = 0 := by have : n < 1 := hn; omega
  intro k hk
  have h3 : k < 3 := hk
  have : k = 0 ∨ k = 1 ∨ k = 2 := by omega
  rcases this with rfl | rfl | rfl <;> decide
def aIns (w : World) : Obj := .cells #[.int .i64 1, .int .i64 1, .int .i64 (-1), .int .i64 (-1), .int .i64 0, .int .i64 0, .int .i64 0, .int .i64 0, .int .u32 2, .slice none 0 0, .bool false, .int .i64 1, .int .i64 1, .int .i64 (-1), .int .i64 (-1), .int .i64 0, .int .i64 0, .int .i64 0, .int .i64 0, .int .u32 3, .slice none 0 0, .bool false, .int .i64 10, .int .i64 (-1), .int .i64 1, .int .i64 (-1), .int .i64 0, .int .i64 0, .int .i64 0, .int .i64 0, .int .u32 0, .slice none 0 0, .bool false] 45
def aBks (w : World) : Obj := .cells #[.slice (some ⟨w.heap.size, 0, none⟩) 3 3, .int .i64 3, .int .i64 0, .int .i64 0, .int .i64 0] 40
def aBox (w : World) : Obj := .cells #[.string ⟨#[]⟩, .bool false, .int .i64 0, .int .i64 2, .slice none 0 0, .slice (some ⟨w.heap.size + 1, 0, none⟩) 1 1] 37
theorem field_blks (a b c d e f : Value) (w : World) : (Instr.field 37 (.agg #[a, b, c, d, e, f]) 5).run Tryd.prog w = .ok f w := by kernel_rfl
attribute [local go_sem] field_blks
theorem awake18_c (w : World) : Calls Tryd.prog 33 #[] w fun e w' => e = .returned (.bool true) ∧ Below w.heap.size w w' := by
 obtain ⟨W1, hW1⟩ : ∃ W1, W1 = ((w.alloc (aIns w)).alloc (aBks w)).alloc (aBox w) := ⟨_, rfl⟩
 have hW1' : W1 = allocs w [aIns w, aBks w, aBox w] := hW1
 have B1 : Hid (Below w.heap.size w W1) := by rw [hW1']; exact allocs_below _ _
 have H0 : W1.heap[w.heap.size]? = some (aIns w) := by rw [hW1']; exact allocs_heap _ w 0 (by simp)
 have H1 : W1.heap[w.heap.size + 1]? = some (aBks w) := by rw [hW1']; exact allocs_heap _ w 1 (by simp)
 have H2 : Hid (W1.heap[w.heap.size + 2]? = some (aBox w)) := by rw [hW1']; exact allocs_heap _ w 2 (by simp)
 unfold aIns aBks aBox at hW1
 unfold aIns at H0
 unfold aBks at H1
 unfold aBox at H2
 have k0 : ∀ j u, (#[Value.int .i64 1, .int .i64 1, .int .i64 (-1), .int .i64 (-1), .int .i64 0, .int .i64 0, .int .i64 0, .int .i64 0, .int .u32 2, .slice none 0 0, .bool false, .int .i64 1, .int .i64 1, .int .i64 (-1), .int .i64 (-1), .int .i64 0, .int .i64 0, .int .i64 0, .int .i64 0, .int .u32 3, .slice none 0 0, .bool false, .int .i64 10, .int .i64 (-1), .int .i64 1, .int .i64 (-1), .int .i64 0, .int .i64 0, .int .i64 0, .int .i64 0, .int .u32 0, .slice none 0 0, .bool false])[j]? = some u → W1.cell? ⟨w.heap.size, j, none⟩ = some u := fun j u h => (cell_of_heap H0 j).trans h
 have k1 : ∀ j u, (#[Value.slice (some ⟨w.heap.size, 0, none⟩) 3 3, .int .i64 3, .int .i64 0, .int .i64 0, .int .i64 0])[j]? = some u → W1.cell? ⟨w.heap.size + 1, j, none⟩ = some u := fun j u h => (cell_of_heap H1 j).trans h
 have hnil : ∀ W : World, RdI W (.slice none 0 0) [] := fun W => ⟨none, 0, rfl, Nat.le_refl _, Nat.zero_le _, fun i hi => absurd hi (Nat.not_lt_zero i)⟩
 have hins : RdIns W1 (.slice (some ⟨w.heap.size, 0, none⟩) 3 3) [aI0, aI1, aI2] := by
  refine ⟨_, _, rfl, Nat.le_refl _, by unfold maxLen; omega, fun i hi => ⟨_, _, rfl, ?_⟩⟩
  have h3 : i = 0 ∨ i = 1 ∨ i = 2 := by simp at hi; omega
  rcases h3 with rfl | rfl | rfl
  ·exact ⟨k0 0 _ rfl, k0 1 _ rfl, k0 2 _ rfl, k0 3 _ rfl, k0 4 _ rfl, k0 5 _ rfl, k0 6 _ rfl, k0 7 _ rfl, k0 8 _ rfl, ⟨_, k0 9 _ rfl, hnil _⟩, k0 10 _ rfl⟩
  ·exact ⟨k0 11 _ rfl, k0 12 _ rfl, k0 13 _ rfl, k0 14 _ rfl, k0 15 _ rfl, k0 16 _ rfl, k0 17 _ rfl, k0 18 _ rfl, k0 19 _ rfl, ⟨_, k0 20 _ rfl, hnil _⟩, k0 21 _ rfl⟩
  ·exact ⟨k0 22 _ rfl, k0 23 _ rfl, k0 24 _ rfl, k0 25 _ rfl, k0 26 _ rfl, k0 27 _ rfl, k0 28 _ rfl, k0 29 _ rfl, k0 30 _ rfl, ⟨_, k0 31 _ rfl, hnil _⟩, k0 32 _ rfl⟩
 have hbks : RdBks W1 (.slice (some ⟨w.heap.size + 1, 0, none⟩) 1 1) aP.blks := by
  refine ⟨_, _, rfl, Nat.le_refl _, by unfold maxLen; omega, fun i hi => ⟨_, _, rfl, ?_⟩⟩
  obtain rfl : i = 0 := by simp [aP] at hi; omega
  exact ⟨⟨_, k1 0 _ rfl, hins⟩, k1 1 _ rfl, k1 2 _ rfl, k1 3 _ rfl, k1 4 _ rfl⟩
 have hobj : RdSls W1 (.slice none 0 0) [] := ⟨none, 0, rfl, Nat.le_refl _, Nat.zero_le _, fun i hi => absurd hi (Nat.not_lt_zero i)⟩
 have HI := Lib.hid (idle_c aP (.agg #[.string ⟨#[]⟩, .bool false, .int .i64 0, .int .i64 2, .slice none 0 0, .slice (some ⟨w.heap.size + 1, 0, none⟩) 1 1]) W1 ⟨⟨#[]⟩, _, _, rfl, hobj, hbks⟩ aP_ok.blks.1 aP_ok.regs.1 aP_ok.regs.2 aP_ok.blks.2 aP_ok.ins aP_ok.pure)
 have HD : Hid (∀ w', Ext W1 w' → Calls Tryd.prog 36 #[.agg #[.string ⟨#[]⟩, .bool false, .int .i64 0, .int .i64 2, .slice none 0 0, .slice (some ⟨w.heap.size + 1, 0, none⟩) 1 1]] w' fun e w'' =>
   ∃ vb', e = .returned (.agg #[.string ⟨#[]⟩, .bool false, .int .i64 0, .int .i64 2, .slice none 0 0, vb']) ∧ OutB w' w'' w'.heap.size vb' (deadP aP).blks ∧ Below w'.heap.size w' w'') :=
  fun w' he => dead_c aP ⟨#[]⟩ (.slice none 0 0) _ w' w' (Ext.refl _) (hobj.ext he) (hbks.ext he) (InsAt.of (hbks.ext he)) aP_ok
 clear hbks hins hobj hnil k0 k1 H0 H1 hW1'
 go_enter Tryd.func33, Tryd.ntmps33
 go_wp2_with fail
 rw [← hW1]
 clear hW1
 refine HI.out.mono ?_
 rintro e w2 ⟨gP, B, vs, rfl, hpt⟩
 rw [aP_idle] at hpt
 have hpl : aP.blks.length = 1 := rfl
 rw [hpl] at hpt ⊢
 have c0 := hpt.cell (j := 0) (by decide)
 have hrow := hpt.row 0 (by decide)
 have hb2 := hpt.below
 obtain ⟨va, vc, hvs, hv1, hv2, hv3⟩ := hrow.rd
 rw [hvs] at c0
 obtain ⟨vb, vo, hva, hv4⟩ := hv3 0 (by decide)
 subst hva
 have c1 : w2.cell? ⟨vb, vo, none⟩ = some (.int .i64 0) := hv4
 have c0 : w2.cell? ⟨gP, 0, none⟩ = some (.slice (some ⟨vb, vo, none⟩) 1 vc) := c0
 have l2 : w.heap.size + 2 < W1.heap.size := (Array.getElem?_eq_some_iff.1 H2.out).1
 have HB2 := Lib.hid hb2
 have BB := Lib.hid (B1.out.trans (hb2.mono B1.out.size))
 have h2 := (hb2.block _ l2).trans H2.out
 have H2 := Lib.hid h2
 obtain ⟨x0, x1, x2, x3, x4, x5, l0⟩ := cl6 h2
 clear hpt hrow hb2 hvs hv1 hv2 hv3 hv4 h2 hpl
 go_wp2_with fail
 refine (HD.out w2 (Ext.below HB2.out)).mono ?_
 rintro e w3 ⟨vb1, rfl, ho1, hb3⟩
 rw [aP_dead] at ho1
 obtain ⟨a1, q1, hq1, -, -, -⟩ := ho1.rd (Ext.below hb3)
 have hq1 : vb1 = .slice a1 1 q1 := hq1
 subst hq1
 have BB := Lib.hid (BB.out.trans (hb3.mono BB.out.size))
 have E3 := Lib.hid ((Ext.below HB2.out).trans (Ext.below hb3))
 have h3 := (hb3.block _ l0).trans H2.out
 have H3 := Lib.hid h3
 clear x0 x1 x2 x3 x4 x5
 obtain ⟨x0, x1, x2, x3, x4, x5, l03⟩ := cl6 h3
 have c0' := Ext.below hb3 _ _ c0
 have c1' := Ext.below hb3 _ _ c1
 clear c0 c1 ho1 hb3 h3 H2 HB2 B1 HI
 go_wp2_with fail
 refine (HD.out w3 E3.out).mono ?_
 rintro e w4 ⟨vb2, rfl, ho2, hb4⟩
 rw [aP_dead] at ho2
 obtain ⟨a2, q2, hq2, -, -, h4⟩ := ho2.rd (Ext.below hb4)
 obtain ⟨bb, oo, rfl, ⟨⟨va, y0, hva⟩, -, -, -, -⟩⟩ := h4 0 (by decide)
 have hq2 : vb2 = .slice (some ⟨bb, oo, none⟩) 1 q2 := hq2
 subst hq2
 obtain ⟨ai, ci, rfl, -⟩ := hva
 have y0 : w4.cell? ⟨bb, oo, none⟩ = some (.slice ai 2 ci) := y0
 have BB := Lib.hid (BB.out.trans (hb4.mono BB.out.size))
 clear ho2 hb4 h4
 go_wp2_with fail
 go_ret
 exact ⟨rfl, BB.out⟩
end Go.Proofs.YtnnhobbabcfogaaDoor

set_option linter.all false
namespace Go.Proofs.YtnnhobbabcfogaaDoor
open Go.ChangeShapes Go.WideShapes Go.ChangeAt Go.RowKit
set_option maxHeartbeats 4000000
set_option maxRecDepth 100000
set_option linter.unusedVariables false

theorem drop2_c (p : Pr) (nm : ByteArray) (vo vb : Value) (w00 w : World) (he00 : Ext w00 w) (hvo : RdSls w00 vo p.objs) (hB : RdBks w vb p.blks) (hA : InsAt w00 w vb p.blks) (hok : DeadOk p) :
  Calls Tryd.prog 34 #[.agg #[.string nm, .bool p.void, .int .i64 p.params, .int .i64 p.regs, vo, vb]] w fun e w' =>
   ∃ vb', e = .returned (.agg #[.string nm, .bool p.void, .int .i64 p.params, .int .i64 p.regs, vo, vb']) ∧ OutB w00 w' w.heap.size vb' (dropP p).blks ∧ Below w.heap.size w w' := by
 have EDR : Hid (∀ w', Ext w w' → Calls Tryd.prog 58 #[.agg #[.string nm, .bool p.void, .int .i64 p.params, .int .i64 p.regs, vo, vb]] w' fun e w'' =>
    ∃ vb', e = .returned (.tuple #[.agg #[.string nm, .bool p.void, .int .i64 p.params, .int .i64 p.regs, vo, vb'], .int .i64 (goneP p p.blks.length : Int)]) ∧ OutB w00 w'' w'.heap.size vb' (dropP p).blks ∧ Below w'.heap.size w' w'') :=
  fun w' he => drop_c p nm vo vb w00 w' (he00.trans he) ⟨nm, vo, vb, rfl, (hvo.ext he00).ext he, hB.ext he⟩ (hA.ext he) hok
 obtain ⟨oa, oc, hvo', -⟩ := id hvo
 subst hvo'
 obtain ⟨a, c, rfl, -, -, -⟩ := id hB
 clear he00 hvo hB hA hok
 go_enter Tryd.func34, Tryd.ntmps34
 go_wp2_with fail
 obtain ⟨WA, hWA⟩ : ∃ WA, WA = (w.alloc (.cells #[.string nm, .bool p.void, .int .i64 p.params, .int .i64 p.regs, .slice oa p.objs.length oc, .slice a p.blks.length c] 37)).alloc (.cells zProc 37) := ⟨_, rfl⟩
 have BA : Hid (Below w.heap.size w WA) := by rw [hWA]; exact (below_alloc w _).alloc (by simp) _
 have H1 : Hid (WA.heap[w.heap.size + 1]? = some (.cells zProc 37)) := by
  rw [hWA]
  have := heap_alloc_new (w.alloc (.cells #[.string nm, .bool p.void, .int .i64 p.params, .int .i64 p.regs, .slice oa p.objs.length oc, .slice a p.blks.length c] 37)) (.cells zProc 37)
  rwa [World.size_alloc] at this
 unfold zProc at hWA
 rw [← hWA]
 clear hWA
 have l1 := (Array.getElem?_eq_some_iff.1 H1.out).1
 refine (EDR.out WA (Ext.below BA.out)).mono ?_
 rintro e w1 ⟨vb', rfl, hO1, hb1⟩
 obtain ⟨L1, hL1, hL2, hL3⟩ := id hO1
 obtain ⟨a1, c1, hv1⟩ := row_form hL1
 subst hv1
 have HO1 := Lib.hid hO1
 have BW1 := Lib.hid (BA.out.trans (hb1.mono BA.out.size))
 have H1 := Lib.hid ((hb1.block _ l1).trans H1.out)
 clear hO1 hb1 hL1 hL2 hL3 EDR
 have hWAz : w.heap.size + 1 < w1.heap.size := (Array.getElem?_eq_some_iff.1 H1.out).1
 generalize L1.length = n1 at *
 generalize goneP p p.blks.length = gn at *
 dsimp only
 have u0 := cell_of_heap H1.out 0
 have u1 := cell_of_heap H1.out 1
 have u2 := cell_of_heap H1.out 2
 have u3 := cell_of_heap H1.out 3
 have u4 := cell_of_heap H1.out 4
 have u5 := cell_of_heap H1.out 5
 unfold zProc at u0 u1 u2 u3 u4 u5
 simp only [List.getElem?_toArray, List.getElem?_cons_zero, List.getElem?_cons_succ] at u0 u1 u2 u3 u4 u5
 have k0 := frozen_of_heap H1.out 0
 have k1 := frozen_of_heap H1.out 1
 have k2 := frozen_of_heap H1.out 2
 have k3 := frozen_of_heap H1.out 3
 have k4 := frozen_of_heap H1.out 4
 have k5 := frozen_of_heap H1.out 5
 go_wp2_with fail
 obtain ⟨W8, hW8⟩ : ∃ W8, W8 = (((((w1.setCell ⟨w.heap.size + 1, 0, none⟩ (.string nm)).setCell ⟨w.heap.size + 1, 1, none⟩ (.bool p.void)).setCell ⟨w.heap.size + 1, 2, none⟩ (.int .i64 p.params)).setCell ⟨w.heap.size + 1, 3, none⟩ (.int .i64 p.regs)).setCell ⟨w.heap.size + 1, 4, none⟩ (.slice oa p.objs.length oc)).setCell ⟨w.heap.size + 1, 5, none⟩ (.slice a1 n1 c1) := ⟨_, rfl⟩
 rw [← hW8]
 have K8 : But (w.heap.size + 1) w1 W8 := by
  rw [hW8]
  exact (((((But.setCell _ _ w1 _).trans (But.setCell _ _ _ _)).trans (But.setCell _ _ _ _)).trans (But.setCell _ _ _ _)).trans (But.setCell _ _ _ _)).trans (But.setCell _ _ _ _)
 have g8 : W8.heap[w.heap.size + 1]? = some (.cells #[.string nm, .bool p.void, .int .i64 p.params, .int .i64 p.regs, .slice oa p.objs.length oc, .slice a1 n1 c1] 37) := by
  rw [hW8]
  exact heap_setCell_same _ _ 5 _ _ _ (heap_setCell_same _ _ 4 _ _ _ (heap_setCell_same _ _ 3 _ _ _ (heap_setCell_same _ _ 2 _ _ _ (heap_setCell_same _ _ 1 _ _ _ (heap_setCell_same w1 _ 0 _ _ _ H1.out)))))
 clear hW8 u0 u1 u2 u3 u4 u5 k0 k1 k2 k3 k4 k5
 have hO8 := HO1.out.turn (but_grown K8) (fun b e => by simp only [Option.some.injEq] at e; omega)
 have hb9 := below_alloc W8 (.cells #[.string nm, .bool p.void, .int .i64 p.params, .int .i64 p.regs, .slice oa p.objs.length oc, .slice a1 n1 c1] 37)
 have hO9 := hO8.below hb9
 have l8 : w.heap.size + 1 < W8.heap.size := Nat.lt_of_lt_of_le hWAz K8.size
 have g9 := (hb9.block (w.heap.size + 1) l8).trans g8
 obtain ⟨x0, x1, x2, x3, x4, x5, -⟩ := cl6 g9
 have B8 := BW1.out.trans (K8.toBelow (B := w.heap.size) (by omega) (by omega))
 have B9 := B8.trans (hb9.mono B8.size)
 refine bodyPost_ret (v := .agg #[.string nm, .bool p.void, .int .i64 p.params, .int .i64 p.regs, .slice oa p.objs.length oc, .slice a1 n1 c1]) (by simp [results, Tryd.results34, go_sem, x0, x1, x2, x3, x4, x5]) rfl ?_
 exact ⟨_, rfl, hO9.mono (by omega), B9⟩
end Go.Proofs.YtnnhobbabcfogaaDoor
