/-
  Operations that only reckon: a run of them, evaluated by the kernel, is one step of a walk.
-/
import Derived.WalkKit
set_option linter.all false
namespace Go.Proofs.Ytnnhobbabcfogaa
open Go

/-- a run of operations without guards that end in values -/
def runsK (P : Program) : List Oper → Act → World → Option (Act × World)
  | [], a, w => some (a, w)
  | o :: os, a, w => match o.guard with
    | some _ => none
    | none => match (execOp a.eval o).run P w with
      | .ok (.value v) w' => runsK P os (a.put o.dst v) w'
      | .ok .skip w' => runsK P os (a.put o.dst undef) w'
      | _ => none

theorem wpList_runsK {P : Program} {ops : Array Oper} {Q : Exit → Act → World → Prop} (os : List Oper) : ∀ (rest : List Oper) (a : Act) (w : World) (a' : Act) (w' : World),
    runsK P os a w = some (a', w') → wpList P ops Q rest a' w' → wpList P ops Q (os ++ rest) a w := by
  induction os with
  | nil =>
    intro rest a w a' w' h K
    simp only [runsK, Option.some.injEq, Prod.mk.injEq] at h
    obtain ⟨rfl, rfl⟩ := h
    exact K
  | cons o os ih =>
    intro rest a w a' w' h K
    unfold runsK at h
    cases hg : o.guard with
    | some g => rw [hg] at h; cases h
    | none =>
      rw [hg] at h
      refine wpList_plain hg fun K' hK => ?_
      unfold Oper.wp
      revert h
      cases (execOp a.eval o).run P w with
      | halt x w1 => intro h; cases h
      | ok x w1 =>
        cases x <;> intro h <;> first | (exact hK _ _ (ih rest _ _ _ _ h K)) | cases h
theorem wpList_runs {P : Program} {ops : Array Oper} {Q : Exit → Act → World → Prop} {l : List Oper} {a : Act} {w : World} (n : Nat) (a' : Act) (w' : World)
    (h : runsK P (l.take n) a w = some (a', w')) (K : wpList P ops Q (l.drop n) a' w') : wpList P ops Q l a w := by
  rw [← List.take_append_drop n l]
  exact wpList_runsK _ _ _ _ _ _ h K
theorem cell_of_heap {w : World} {b : Nat} {c : Array Value} {t : TypeId} {fr : Nat × Nat} (h : w.heap[b]? = some (.cells c t fr)) (o : Nat) : w.cell? ⟨b, o, none⟩ = c[o]? := by
  simp [World.cell?, h]
theorem frozen_of_heap {w : World} {b : Nat} {c : Array Value} {t : TypeId} (h : w.heap[b]? = some (.cells c t (0, 0))) (o : Nat) : w.frozen? ⟨b, o, none⟩ = false := by
  simp [World.frozen?, h]
theorem heap_alloc (w : World) (o : Obj) (i : Nat) : (w.alloc o).heap[i]? = if i = w.heap.size then some o else w.heap[i]? := by
  show (w.heap.push o)[i]? = _
  rw [Array.getElem?_push]
end Go.Proofs.Ytnnhobbabcfogaa
