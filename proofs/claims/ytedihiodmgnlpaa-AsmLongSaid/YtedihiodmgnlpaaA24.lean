/-
  The statement on too many items: its walk.
-/
import Derived.Test.YtedihiodmgnlpaaA23
set_option linter.all false
namespace Go.Proofs.Ytedihiodmgnlpaa
open Go.ChangeShapes Go.WideShapes Go.ChangeAt Go.RowKit Go.Maps
set_option maxHeartbeats 4000000
set_option linter.unusedVariables false
set_option maxRecDepth 100000

theorem tmod_th (b : Int) : -999 ≤ b.tmod 1000 ∧ b.tmod 1000 ≤ 999 := by
  have h1 := Int.tmod_lt_of_pos b (show (0 : Int) < 1000 by decide)
  have h2 := Int.tmod_lt_of_pos (-b) (show (0 : Int) < 1000 by decide)
  rw [Int.neg_tmod] at h2
  omega
def zero7 : Array Value := #[.int .i64 0, .int .i64 0, .int .i64 0, .int .i64 0, .int .i64 0, .int .i64 0, .int .i64 0]
theorem zero7_at (k : Nat) : zero7[k % 7]! = .int .i64 0 := by
  have : k % 7 < 7 := Nat.mod_lt _ (by decide)
  generalize k % 7 = j at *
  match j, this with
  | 0, _ => rfl
  | 1, _ => rfl
  | 2, _ => rfl
  | 3, _ => rfl
  | 4, _ => rfl
  | 5, _ => rfl
  | 6, _ => rfl
theorem made_items (w : World) (N : Nat) (hN : N ≤ maxLen) : RdT (w.alloc (.cells (madeCells zero7 (N * 7)) 41)) (.slice (some ⟨w.heap.size, 0, none⟩) N N) (List.replicate N default) := by
  refine ⟨_, _, by rw [List.length_replicate], Nat.le_refl _, by rw [List.length_replicate]; exact hN, fun i hi => ⟨w.heap.size, 0, rfl, ?_⟩⟩
  rw [List.length_replicate] at hi
  have hd : (List.replicate N (default : It)).getD i default = default := by simp [List.getD, hi]
  show ItC _ ((List.replicate N default).getD i default)
  rw [hd]
  have key : ∀ j, j < 7 → (w.alloc (.cells (madeCells zero7 (N * 7)) 41)).cell? ⟨w.heap.size, 0 + i * 7 + j, none⟩ = some (.int .i64 0) := fun j hj => by
    rw [cell_of_heap (heap_alloc_new w _) (0 + i * 7 + j)]
    have hlt : 0 + i * 7 + j < N * 7 := by omega
    unfold madeCells
    rw [Array.getElem?_map, Array.getElem?_range, if_pos hlt]
    exact congrArg some (zero7_at _)
  exact ⟨key 0 (by decide), key 1 (by decide), key 2 (by decide), key 3 (by decide), key 4 (by decide), key 5 (by decide), key 6 (by decide)⟩
theorem AsmLong_w (b : Int) (w : World) : Calls Try.prog 4 #[.int .i64 b] w fun e w' => e = .returned (.bool true) ∧ Below w.heap.size w w' := by
  obtain ⟨h1, h2⟩ := tmod_th b
  obtain ⟨N, hN⟩ : ∃ N : Nat, 32769 + b.tmod 1000 % 1000 = (N : Int) := ⟨(32769 + b.tmod 1000 % 1000).toNat, by omega⟩
  have hN1 : 32768 < N := by omega
  have hN2 : N ≤ 40000 := by omega
  have HA := Lib.hid awake5_c
  have HAS : Hid (∀ w v, RdT w v (List.replicate N default) → Calls Try.prog 14 #[v] w fun e w' => ∃ v u, e = .returned (.tuple #[v, u, .int .i64 2]) ∧ Below w.heap.size w w') := fun w v h => by
    have := assemble_c _ v w h
    unfold AsmP at this
    rw [asmE_2 _ (by rw [List.length_replicate]; exact hN1)] at this
    exact this.mono fun e w' ⟨a, b, h1, h2, h3, h4⟩ => ⟨a, b, h1, h4⟩
  obtain ⟨i0, hi, hz0, hz1, hz2⟩ := info_parts infoItem
  have hmk : ∀ w : World, (Instr.makeSlice 22 (.int .i64 (32769 + b.tmod 1000 % 1000)) (.int .i64 (32769 + b.tmod 1000 % 1000))).run Try.prog w = .ok (.slice (some ⟨w.heap.size, 0, none⟩) N N) (w.alloc (.cells (madeCells zero7 (N * 7)) 41)) := fun w => by
    have := run_make (P := Try.prog) w 22 41 i0 _ Try.underlying22 hi hz0 .i64 .i64 (32769 + b.tmod 1000 % 1000) (32769 + b.tmod 1000 % 1000) (by omega) (by omega) (by rw [hz2]; omega) (by omega)
    rw [this, hN, hz1, Int.toNat_natCast]
    rfl
  have HN := Lib.hid hN
  clear hN hi hz0 hz1 hz2
  go_enter Try.func4, Try.ntmps4
  go_wp2_with fail
  refine (HAS.out _ _ (made_items w N (by unfold maxLen; omega))).mono ?_
  rintro e w1 ⟨v, u, rfl, hb1⟩
  have B1 : Hid (Below w.heap.size w w1) := (below_a1 _ _).trans (hb1.mono (by simp))
  clear hb1 HAS hmk
  go_wp2_with fail
  refine (HA.out _).mono ?_
  rintro e w2 ⟨rfl, hb2⟩
  have B2 : Hid (Below w.heap.size w w2) := B1.out.trans (hb2.mono B1.out.size)
  clear hb2 B1 HA
  go_wp2_with fail
  go_ret
  exact ⟨rfl, B2.out⟩
end Go.Proofs.Ytedihiodmgnlpaa
