/-
 A range over a function: drawn regions in a round; the statement where the iterator writes to memory of its own between two rounds.; Contracts of flow's Each: the function that it hands back, for whatever stands in the loop.; A range over flow's Each: what the callers share.
-/
import Derived.RangeFuncNested
import Derived.RangeFuncBound
import Derived.RangeFuncCalls
import Derived.RangeFuncLeaves
import Derived.Shelf.RegionOpen
import Derived.WalkKit
import Derived.OwnWalkIn
import Derived.TacticsInMore
import Derived.LoopNIn
import Derived.LoopIn
import Derived.Test.YtkhfddodmjnecaaZAliasMeets14
import Derived.Test.YtkhfddodmjnecaaZAliasMeets13
import Derived.Test.YtkhfddodmjnecaaZAliasMeets05
import Derived.Test.YtkhfddodmjnecaaZAliasMeets11

set_option linter.all false
namespace Go.Proofs.Ytkhfddodmjnecaa
open Go Go.RowKit

theorem wide_fn (f : FuncId) : Fence.wide.fn f = True := rfl
theorem wide_depth : Fence.wide.depth.isSome = false := rfl
theorem wideR_fn (l : Nat) (f : FuncId) : (Fence.wide.inRound l).fn f = True := rfl
theorem wideR_depth (l : Nat) : (Fence.wide.inRound l).depth.isSome = false := rfl
attribute [go_sem] wide_fn wide_depth wideR_fn wideR_depth
section
variable {P : Program} {ops : Array Oper} {Q : Act → World → Prop} {S : Nat → Prop}
end

end Go.Proofs.Ytkhfddodmjnecaa

set_option linter.all false
namespace Go.Proofs.Ytkhfddodmjnecaa
open Go.ChangeShapes Go.WideShapes Go.ChangeAt Go.RowKit
set_option maxHeartbeats 4000000
set_option maxRecDepth 100000
attribute [local go_sem] Oper.semAt_some

/-- what a round is handed: the place of the instruction, and the row of marks: its block and how many it may hold -/
structure EX where
 i : Nat
 g : Nat
 c : Nat
/-- what the iterator turns between two rounds -/
def StE (H : Nat) (s : List EX) (A B : World) : Prop :=
 match s with
 | [] => Below A.heap.size A B
 | x :: _ => H ≤ x.g ∧ But x.g A B
/-- what a round keeps -/
structure KpE (W0 : World) (x : EX) (A B : World) : Prop where
 below : Below W0.heap.size A B
 row : B.heap[x.g]? = A.heap[x.g]?
/-- what a round may build on -/
structure PrE (W0 : World) (H : Nat) (L : List In) (lo : List Bool) (R : Nat) (pre : List EX) (x : EX) (W : World) : Prop where
 len : pre.length < L.length
 i : x.i = L.length - 1 - pre.length
 g : H ≤ x.g
 row : RowB W x.g R x.c (backK lo (L.drop (x.i + 1)))
 same : ∀ y ∈ pre, y.g = x.g
 below : Below W0.heap.size W0 W
theorem RowB.of_block {w w' : World} {g n c : Nat} {l : List Bool} (h : RowB w g n c l) (e : w'.heap[g]? = w.heap[g]?) : RowB w' g n c l := by
 obtain ⟨h1, h2 | ⟨g', cap, cur, h3, h4, h5, r⟩⟩ := h
 ·exact ⟨h1, .inl h2⟩
 ·have h3' := h3
  simp only [Value.slice.injEq, Option.some.injEq, Addr.mk.injEq] at h3'
  exact ⟨h1, .inr ⟨g', cap, cur, h3, h4, by rw [← h3'.1.1, e, h3'.1.1]; exact h5, r⟩⟩
theorem StE.of {H : Nat} {pre : List EX} {x : EX} {A B : World} (h : ∀ y ∈ pre, y.g = x.g) (hH : H ≤ x.g) (hb : But x.g A B) : StE H (pre ++ [x]) A B := by
 cases pre with
 | nil => exact ⟨hH, hb⟩
 | cons y l => have e := h y (List.mem_cons_self ..); exact ⟨by rw [e]; exact hH, by rw [e]; exact hb⟩
theorem below_put {n : Nat} (W : World) {l : Nat} (o : Obj) (h : n ≤ l) : Below n W (W.putObj l o) :=
 ⟨rfl, rfl, rfl, by simp, fun k hk => World.putObj_heap_other (by omega)⟩
end Go.Proofs.Ytkhfddodmjnecaa

set_option linter.all false
namespace Go.Proofs.Ytkhfddodmjnecaa
open Go.ChangeShapes Go.WideShapes Go.ChangeAt Go.RowKit
set_option maxHeartbeats 4000000
set_option maxRecDepth 100000
set_option linter.unusedVariables false

theorem keep_belU {S : Nat → Prop} {w w' : World} (hb : Below w.heap.size w w') (h : ∀ b, S b → b < w.heap.size) : Keep S w w' := fun b o hs => hb.cell (p := ⟨b, o, none⟩) (h b hs)
theorem StE.rest {H : Nat} {s : List EX} {A B : World} (h : StE H s A B) : B.os = A.os ∧ B.tape = A.tape ∧ B.output = A.output ∧ A.heap.size ≤ B.heap.size := by
 cases s with
 | nil => exact ⟨Below.os h, Below.tape h, Below.output h, Below.size h⟩
 | cons x l => exact ⟨h.2.os, h.2.tape, h.2.output, h.2.size⟩
theorem KpE.trans {W0 : World} {x : EX} {A B C : World} (h : KpE W0 x A B) (k : KpE W0 x B C) : KpE W0 x A C := ⟨h.below.trans k.below, k.row.trans h.row⟩
theorem KpE.put {W0 : World} {x : EX} (A : World) {l : Nat} (o : Obj) (h : W0.heap.size ≤ l) (hx : x.g ≠ l) : KpE W0 x A (A.putObj l o) := ⟨below_put A o h, World.putObj_heap_other hx⟩
theorem PrE.put {W0 : World} {H : Nat} {L : List In} {lo : List Bool} {R : Nat} {pre : List EX} {x : EX} {W : World} {l : Nat} (o : Obj) (h : PrE W0 H L lo R pre x W) (hl : W0.heap.size ≤ l) (hH : l < H) : PrE W0 H L lo R pre x (W.putObj l o) :=
 ⟨h.len, h.i, h.g, h.row.of_block (World.putObj_heap_other (by have := h.g; omega)), h.same, h.below.trans (below_put W o hl)⟩
end Go.Proofs.Ytkhfddodmjnecaa
