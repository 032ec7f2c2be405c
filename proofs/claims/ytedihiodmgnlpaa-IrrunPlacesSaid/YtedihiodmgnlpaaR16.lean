/-
  Outcomes compared; the worked example of layer 14.
-/
import Derived.Test.YtedihiodmgnlpaaR15
import Derived.Test.YtedihiodmgnlpaaN1
import Derived.Test.YtedihiodmgnlpaaH3
set_option linter.all false
namespace Go.Proofs.Ytedihiodmgnlpaa
open Go.ChangeShapes Go.WideShapes Go.ChangeAt Go.RowKit
set_option maxHeartbeats 8000000
set_option linter.unusedVariables false
set_option maxRecDepth 100000

def mA14 : Md := ⟨[], [], [⟨false, 0, 1, [], [⟨[⟨11, 0, -1, -1, 0, 0, 0, 0, 0, [], false⟩, ⟨10, -1, 0, -1, 0, 0, 0, 0, 0, [], false⟩], 3, 0, 0, 0⟩]⟩], 0⟩
theorem pA14 : (playM mA14 [300] (clampF 10).toNat).out = [300] ∧ (playM mA14 [300] (clampF 10).toNat).ins = 1 ∧ (playM mA14 [300] (clampF 10).toNat).exit = 44 ∧ (playM mA14 [300] (clampF 10).toNat).e = 0 := ⟨by kernel_rfl, by kernel_rfl, by kernel_rfl, by kernel_rfl⟩
theorem szA14 : SzM mA14 := ⟨fun p hp => by
  simp only [mA14, List.mem_singleton] at hp; subst hp
  exact ⟨by decide, fun b hb => by simp only [List.mem_singleton] at hb; subst hb; decide⟩⟩
theorem okA14 : MdOk mA14 := by
  refine ⟨(fun s hs => by cases hs), (fun s hs => by cases hs), fun p hp => ?_, by unfold I64; decide⟩
  simp only [mA14, List.mem_singleton] at hp; subst hp
  refine ⟨by unfold I64; decide, by unfold I64; decide, (fun s hs => by cases hs), fun b hb => ?_⟩
  simp only [List.mem_singleton] at hb; subst hb
  refine ⟨fun i hi => ?_, by unfold I64; decide, by unfold I64; decide, by unfold I64; decide, by unfold I64; decide⟩
  simp only [List.mem_cons, List.not_mem_nil, or_false] at hi
  rcases hi with rfl | rfl
  all_goals exact ⟨by unfold I64; decide, by unfold I64; decide, by unfold I64; decide, by unfold I64; decide, by unfold I64; decide, by unfold I64; decide, by unfold I64; decide, by unfold I64; decide, by decide, (fun x hx => by cases hx)⟩
def oA14 (w : World) : List Obj := [.cells #[.int .i64 11, .int .i64 0, .int .i64 (-1), .int .i64 (-1), .int .i64 0, .int .i64 0, .int .i64 0, .int .i64 0, .int .u32 0, .slice none 0 0, .bool false, .int .i64 10, .int .i64 (-1), .int .i64 0, .int .i64 (-1), .int .i64 0, .int .i64 0, .int .i64 0, .int .i64 0, .int .u32 0, .slice none 0 0, .bool false] 119,
  .cells #[.slice (some ⟨w.heap.size, 0, none⟩) 2 2, .int .i64 3, .int .i64 0, .int .i64 0, .int .i64 0] 116,
  .cells #[.string ⟨#[]⟩, .bool false, .int .i64 0, .int .i64 1, .slice none 0 0, .slice (some ⟨w.heap.size + 1, 0, none⟩) 1 1] 113,
  .cells #[.string ⟨#[]⟩, .bool false, .int .i64 0, .int .i64 1, .slice none 0 0, .slice (some ⟨w.heap.size + 1, 0, none⟩) 1 1] 113,
  .cells #[.int .u32 300] 35]
theorem mdA14 (w : World) : MdV (allocs w (oA14 w)) (.agg #[.slice none 0 0, .slice none 0 0, .slice (some ⟨w.heap.size + 1 + 1 + 1, 0, none⟩) 1 1, .int .i64 0]) mA14 ∧ RdW (allocs w (oA14 w)) (.slice (some ⟨w.heap.size + 1 + 1 + 1 + 1, 0, none⟩) 1 1) [300] := by
  have H := allocs_heap (oA14 w) w
  have hi := RdIns.lit (w := allocs w (oA14 w)) (g := w.heap.size) [((⟨11, 0, -1, -1, 0, 0, 0, 0, 0, [], false⟩ : In), vNil), ((⟨10, -1, 0, -1, 0, 0, 0, 0, 0, [], false⟩ : In), vNil)] (by simp) (H 0 (by simp [oA14])) (fun x hx => by
    simp only [List.mem_cons, List.not_mem_nil, or_false] at hx
    rcases hx with rfl | rfl <;> exact RdI.nil _)
  have hb := RdBks.lit (w := allocs w (oA14 w)) (g := w.heap.size + 1) [((⟨_, 3, 0, 0, 0⟩ : Bk), rowOf' w.heap.size 2)] (by simp) (H 1 (by simp [oA14])) (fun x hx => by
    simp only [List.mem_cons, List.not_mem_nil, or_false] at hx
    subst hx; exact hi)
  have hp := RdPrs.lit (w := allocs w (oA14 w)) (g := w.heap.size + 3) [((⟨false, 0, 1, [], _⟩ : Pr), ⟨#[]⟩, vNil, rowOf' (w.heap.size + 1) 1)] (by simp) (H 3 (by simp [oA14])) (fun x hx => by
    simp only [List.mem_cons, List.not_mem_nil, or_false] at hx
    subst hx; exact ⟨RdSls.nil _, hb⟩)
  exact ⟨⟨_, _, _, rfl, RdSls.nil _, RdYs.nil _, hp⟩, RdW.lit (g := w.heap.size + 4) [300] (by simp) (H 4 (by simp [oA14]))⟩
theorem awake14_c (w : World) :
    Calls Try.prog 31 #[] w fun e w' => e = .returned (.bool true) ∧ Below w.heap.size w w' := by
  have HM := Lib.hid (mdA14 w)
  have HB := Lib.hid (allocs_below (oA14 w) w)
  obtain ⟨W0, hW0⟩ : ∃ W0, W0 = allocs w (oA14 w) := ⟨_, rfl⟩
  rw [← hW0] at HM HB
  have hz := allocs_size (oA14 w) w
  rw [← hW0] at hz
  have HR := Lib.hid (run_c mA14 _ _ [300] 10 W0 HM.out.1 HM.out.2 szA14 okA14 (by decide) (by decide))
  have HW0 := Lib.hid hW0
  clear hW0
  go_enter Try.func31, Try.ntmps31
  go_wp2_with fail
  have HR2 := HR.out
  rw [HW0.out] at HR2
  refine Calls.mono HR2 ?_
  clear HR2
  rw [← HW0.out]
  rintro e w1 ⟨v, rfl, ⟨vo, rfl, ho⟩, hb⟩
  obtain ⟨p1, p2, p3, p4⟩ := pA14
  rw [p1] at ho
  rw [p2, p3, p4]
  clear p1 p2 p3 p4
  have hb := Lib.hid hb
  obtain ⟨hl, ⟨-, h0⟩ | ⟨b, cap, cur, rfl, hb1, hgg, hn, hc, -⟩⟩ := id ho
  · cases h0
  · have x0 := ho.cellAt 0 (by decide)
    simp only [List.map_cons, List.getElem?_cons_zero] at x0
    unfold maxLen at hc
    have lbb : b < w1.heap.size := World.block_lt_of_cell? w1 _ x0
    clear ho hgg
    go_wp2_with fail
    go_ret
    exact ⟨rfl, HB.out.trans ((hb.out.mono HB.out.size).trans ((below_alloc w1 _).mono (by have := hb.out.size; have := HB.out.size; omega)))⟩
end Go.Proofs.Ytedihiodmgnlpaa
