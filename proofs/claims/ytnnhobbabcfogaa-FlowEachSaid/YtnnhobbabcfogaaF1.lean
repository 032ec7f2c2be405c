/-
  Contracts of the functions of ir that tell of one instruction and one block.
-/
import Derived.Test.YtnnhobbabcfogaaRows
import Derived.WalkKit
import Derived.ProofKit
import Derived.Outline
import Derived.Lib.Hide
import Derived.Test.YtnnhobbabcfogaaM
set_option linter.all false
namespace Go.Proofs.Ytnnhobbabcfogaa
open Go.ChangeShapes Go.WideShapes Go.ChangeAt Go.RowKit
set_option maxHeartbeats 400000

theorem ret_i {k : IntKind} {a b : Int} (h : a = b) : Ending.returned (.int k a) = .returned (.int k b) := by rw [h]
theorem ret_b {a b : Bool} (h : a = b) : Ending.returned (.bool a) = .returned (.bool b) := by rw [h]
theorem below_alloc (w : World) (o : Obj) : Below w.heap.size w (w.alloc o) := Below.alloc (Below.refl _ _) (Nat.le_refl _) o
theorem def_c (i : In) (v : Value) (w : World) (hv : InV w v i) :
    Calls Try.prog 58 #[v] w fun e w' => e = .returned (.int .i64 (defI i)) ∧ Below w.heap.size w w' := by
  obtain ⟨va, rfl, hva⟩ := hv
  go_enter Try.func58, Try.ntmps58
  go_wp2
  all_goals
    go_ret
    simp only [beq_iff_eq, beq_eq_false_iff_ne, ne_eq] at *
    exact ⟨ret_i (by unfold defI; first | rw [if_pos (by omega)] | rw [if_neg (by omega)]), below_alloc _ _⟩
theorem reads_c (op : Int) (w : World) :
    Calls Try.prog 143 #[.int .i64 op] w fun e w' => e = .returned (.tuple #[.bool (readsA op), .bool (readsB op)]) ∧ w = w' := by
  go_enter Try.func143, Try.ntmps143
  go_wp2
  all_goals
    go_ret2
    refine ⟨?_, rfl⟩
    unfold readsA readsB
    simp [*]
theorem pure_c (i : In) (v : Value) (w : World) (hv : InV w v i) :
    Calls Try.prog 59 #[v] w fun e w' => e = .returned (.bool (pureI i)) ∧ Below w.heap.size w w' := by
  obtain ⟨va, rfl, hva⟩ := hv
  go_enter Try.func59, Try.ntmps59
  go_wp2
  all_goals
    go_ret
    simp only [beq_iff_eq, beq_eq_false_iff_ne, ne_eq] at *
    exact ⟨ret_b (by unfold pureI; simp; omega), below_alloc _ _⟩
end Go.Proofs.Ytnnhobbabcfogaa
