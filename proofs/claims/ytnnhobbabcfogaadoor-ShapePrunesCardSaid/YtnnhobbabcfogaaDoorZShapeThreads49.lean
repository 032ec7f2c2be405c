/-
  The page's example of layer 13: the walk.
-/
import Derived.Test.YtnnhobbabcfogaaDoorZShapeThreads48
import Derived.Test.YtnnhobbabcfogaaDoorZShapeThreads44
import Derived.Test.YtnnhobbabcfogaaDoorZShapeThreads08
set_option linter.all false
namespace Go.Proofs.YtnnhobbabcfogaaDoor
open Go.ChangeShapes Go.WideShapes Go.ChangeAt Go.RowKit
set_option maxHeartbeats 4000000
set_option linter.unusedVariables false
set_option maxRecDepth 100000

def iC : In := ⟨1, 0, -1, -1, 0, 0, 0, 0, 7, [], false⟩
def bC : Bk := ⟨[iC], 3, 0, 0, 0⟩
def pC : Pr := ⟨false, 0, 1, [], [bC]⟩
def mC : Md := ⟨[], [], [pC], 0⟩
theorem it0 : Lib.itoa 0 = [48] := by unfold Lib.itoa; rw [if_neg (by decide)]; exact Lib.decDigits_one (by decide)
theorem it1 : Lib.itoa 1 = [49] := by unfold Lib.itoa; rw [if_neg (by decide)]; exact Lib.decDigits_one (by decide)
theorem it3 : Lib.itoa 3 = [51] := by unfold Lib.itoa; rw [if_neg (by decide)]; exact Lib.decDigits_one (by decide)
theorem it7 : Lib.itoa 7 = [55] := by unfold Lib.itoa; rw [if_neg (by decide)]; exact Lib.decDigits_one (by decide)
theorem itm : Lib.itoa (-1) = [45, 49] := by unfold Lib.itoa; rw [if_pos (by decide)]; exact congrArg (45 :: ·) (Lib.decDigits_one (by decide))
theorem textC : textF pC = [98, 48, 58, 10, 32, 49, 32, 48, 32, 45, 49, 32, 45, 49, 32, 48, 32, 48, 32, 48, 32, 48, 32, 55, 10, 32, 101, 110, 100, 32, 51, 32, 48, 32, 48, 32, 48, 10] := by
  simp [textF, textN, pC, bC, iC, headF, linesF, endF', lineF, numsF, it0, it1, it3, it7, itm]
theorem okC : okM mC = true := by decide +kernel
theorem iC_ok : InOk iC := ⟨by unfold I64; decide, by unfold I64; decide, by unfold I64; decide, by unfold I64; decide, by unfold I64; decide, by unfold I64; decide, by unfold I64; decide, by unfold I64; decide, by decide, fun x hx => by cases hx⟩
theorem bC_ok : BkOk bC := ⟨fun i hi => (by
  simp only [bC, List.mem_cons, List.not_mem_nil, or_false] at hi
  rw [hi]
  exact iC_ok), by unfold I64; decide, by unfold I64; decide, by unfold I64; decide, by unfold I64; decide⟩
theorem pC_ok : PrOk pC := ⟨by unfold I64; decide, by unfold I64; decide, fun s hs => (by cases hs), fun b hb => (by
  simp only [pC, List.mem_cons, List.not_mem_nil, or_false] at hb
  rw [hb]
  exact bC_ok)⟩
theorem pC_sz : SzT pC := ⟨by decide, fun b hb => (by
  simp only [pC, List.mem_cons, List.not_mem_nil, or_false] at hb; rw [hb]; decide), fun b hb i hi => (by
  simp only [pC, List.mem_cons, List.not_mem_nil, or_false] at hb; rw [hb] at hi
  simp only [bC, List.mem_cons, List.not_mem_nil, or_false] at hi; rw [hi]; decide)⟩
theorem pC_szP : SzP pC := ⟨by decide, fun b hb => (by simp only [pC, List.mem_cons, List.not_mem_nil, or_false] at hb; rw [hb]; decide)⟩
theorem mC_sz : SzM mC := ⟨fun p hp => (by simp only [mC, List.mem_cons, List.not_mem_nil, or_false] at hp; rw [hp]; exact pC_szP)⟩
theorem awake13_c (w : World) (hpw : Pow w) (hg : 2 < w.heap.size) :
    Calls Tryd.prog 10 #[] w fun e w' => e = .returned (.bool true) ∧ Below w.heap.size w w' := by
  go_enter Tryd.func10, Tryd.ntmps10
  go_wp2_with fail
  obtain ⟨W3, hW3⟩ : ∃ W3, W3 = (((w.alloc (.cells #[.int .i64 1, .int .i64 0, .int .i64 (-1), .int .i64 (-1), .int .i64 0, .int .i64 0, .int .i64 0, .int .i64 0, .int .u32 7, .slice none 0 0, .bool false] 45)).alloc (.cells #[.slice (some ⟨w.heap.size, 0, none⟩) 1 1, .int .i64 3, .int .i64 0, .int .i64 0, .int .i64 0] 40)).alloc (.cells #[.string { data := #[] }, .bool false, .int .i64 0, .int .i64 1, .slice none 0 0, .slice (some ⟨w.heap.size + 1, 0, none⟩) 1 1] 37)) := ⟨_, rfl⟩
  rw [← hW3]
  have hW3' : W3 = allocs w [.cells #[.int .i64 1, .int .i64 0, .int .i64 (-1), .int .i64 (-1), .int .i64 0, .int .i64 0, .int .i64 0, .int .i64 0, .int .u32 7, .slice none 0 0, .bool false] 45, .cells #[.slice (some ⟨w.heap.size, 0, none⟩) 1 1, .int .i64 3, .int .i64 0, .int .i64 0, .int .i64 0] 40, .cells #[.string { data := #[] }, .bool false, .int .i64 0, .int .i64 1, .slice none 0 0, .slice (some ⟨w.heap.size + 1, 0, none⟩) 1 1] 37] := hW3
  have hB3 : Hid (Below w.heap.size w W3) := by rw [hW3']; exact allocs_below _ _
  have hz3 : W3.heap.size = w.heap.size + 3 := by rw [hW3']; exact allocs_size _ _
  have e0 : Hid (W3.heap[w.heap.size]? = some (.cells ([(iC, vNil)].flatMap inCells).toArray 45 (0, 0))) := by rw [hW3']; exact allocs_heap _ w 0 (by simp)
  have e1 : Hid (W3.heap[w.heap.size + 1]? = some (.cells ([(bC, rowOf' w.heap.size 1)].flatMap bkCells).toArray 40 (0, 0))) := by rw [hW3']; exact allocs_heap _ w 1 (by simp)
  have e2 : Hid (W3.heap[w.heap.size + 1 + 1]? = some (.cells #[.string { data := #[] }, .bool false, .int .i64 0, .int .i64 1, .slice none 0 0, .slice (some ⟨w.heap.size + 1, 0, none⟩) 1 1] 37 (0, 0))) := by rw [hW3']; exact allocs_heap _ w 2 (by simp)
  clear hW3 hW3'
  have HBk : Hid (∀ w', Ext W3 w' → RdBks w' (rowOf' (w.heap.size + 1) 1) pC.blks) := fun w' he => (RdBks.lit [(bC, rowOf' w.heap.size 1)] (by simp) e1.out (fun x hx => (by
    simp only [List.mem_cons, List.not_mem_nil, or_false] at hx
    rw [hx]
    exact RdIns.lit [(iC, vNil)] (by decide) e0.out (fun x hx => (by
      simp only [List.mem_cons, List.not_mem_nil, or_false] at hx
      rw [hx]
      exact RdI.nil _))))).ext he
  have HP : Hid (∀ w', Ext W3 w' → PrV w' (.agg #[.string { data := #[] }, .bool false, .int .i64 0, .int .i64 1, .slice none 0 0, .slice (some ⟨w.heap.size + 1, 0, none⟩) 1 1]) pC) := fun w' he => ⟨_, _, _, rfl, RdSls.nil _, HBk.out w' he⟩
  have hl2 : w.heap.size + 1 + 1 < W3.heap.size := by omega
  refine (text_c pC _ W3 (Go.Joins.var_stays pow_named hpw hB3.out (Nat.le_refl _)) (by omega) (HP.out _ (Ext.refl _)) pC_ok pC_sz).mono ?_
  rintro e w4 ⟨rfl, hb4⟩
  rw [textC]
  have hB4 := Lib.hid (hB3.out.trans (hb4.mono hB3.out.size))
  have e2 := Lib.hid ((hb4.block _ hl2).trans e2.out)
  have hE4 : Hid (Ext W3 w4) := Ext.below hb4
  obtain ⟨y0, y1, y2, y3, y4, y5, hl4⟩ := cl6 e2.out
  clear hb4 e0 e1
  go_wp2_with fail
  obtain ⟨W5, hW5⟩ : ∃ W5, W5 = w4.alloc (.cells #[.string { data := #[] }, .bool false, .int .i64 0, .int .i64 1, .slice none 0 0, .slice (some ⟨w.heap.size + 1, 0, none⟩) 1 1] 37) := ⟨_, rfl⟩
  rw [← hW5]
  have hB5 : Hid (Below w4.heap.size w4 W5) := by rw [hW5]; exact below_alloc w4 _
  have e5 : Hid (W5.heap[w4.heap.size]? = some (.cells ([(pC, (⟨#[]⟩ : ByteArray), vNil, rowOf' (w.heap.size + 1) 1)].flatMap prCells).toArray 37 (0, 0))) := by rw [hW5]; exact heap_alloc_new w4 _
  clear hW5
  have hE5 : Hid (Ext W3 W5) := hE4.out.trans (Ext.below hB5.out)
  refine (check_c mC _ W5 ⟨_, _, _, rfl, RdSls.nil _, RdYs.nil _, RdPrs.lit [(pC, (⟨#[]⟩ : ByteArray), vNil, rowOf' (w.heap.size + 1) 1)] (by simp) e5.out (fun x hx => (by
    simp only [List.mem_cons, List.not_mem_nil, or_false] at hx
    rw [hx]
    exact ⟨RdSls.nil _, HBk.out _ hE5.out⟩))⟩ mC_sz).mono ?_
  rintro e w6 ⟨rfl, hb6⟩
  rw [show okE mC = 0 by unfold okE; rw [if_pos okC]]
  have hE6 : Hid (Ext W3 w6) := hE5.out.trans (Ext.below hb6)
  have e2 := Lib.hid ((hb6.block _ (Nat.lt_of_lt_of_le hl4 hB5.out.size)).trans ((hB5.out.block _ hl4).trans e2.out))
  have hB6 := Lib.hid (hB4.out.trans ((hB5.out.trans (hb6.mono hB5.out.size)).mono hB4.out.size))
  clear hb6 y0 y1 y2 y3 y4 y5
  obtain ⟨y0, y1, y2, y3, y4, y5, hl6⟩ := cl6 e2.out
  go_wp2_with fail
  refine (size_c pC _ w6 (HP.out _ hE6.out) pC_szP).mono ?_
  rintro e w7 ⟨rfl, hb7⟩
  rw [show ((pC.blks.length : Int) + (insN pC : Int)) = 2 by decide +kernel]
  have hB7 := Lib.hid (hB6.out.trans (hb7.mono hB6.out.size))
  clear hb7
  go_wp2_with fail
  go_ret
  exact ⟨rfl, hB7.out⟩
end Go.Proofs.YtnnhobbabcfogaaDoor
