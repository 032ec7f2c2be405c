/-
  Regions that draw their order, at the class of worlds that extend one world: whatever calls make new memory in between, each operation yields the same value.
-/
import Derived.BigQuiet
import Derived.Below
import Derived.WalkKit
set_option linter.all false
namespace Go.Proofs.Ytnnhobbabcfogaa
open Go Go.RowKit

/-- a world and new blocks behind its own -/
def plus (W x : World) : World := { W with heap := W.heap ++ x.heap, drawn := x.drawn }
/-- what lies behind -/
def plusRest (W x : World) (a : Addr) : Option Value := if a.block < W.heap.size then none else (plus W x).cell? a

theorem plus_below (W x : World) : Below W.heap.size W (plus W x) := by
  refine ⟨rfl, rfl, rfl, ?_, fun k hk => ?_⟩
  · show W.heap.size ≤ (W.heap ++ x.heap).size
    simp
  · show (W.heap ++ x.heap)[k]? = W.heap[k]?
    rw [Array.getElem?_append, if_pos hk]
theorem below_plus {W w : World} (h : Below W.heap.size W w) : ∃ x, w = plus W x := by
  refine ⟨{ w with heap := w.heap.extract W.heap.size w.heap.size }, ?_⟩
  have e : w.heap = W.heap ++ w.heap.extract W.heap.size w.heap.size := by
    apply Array.ext_getElem?
    intro k
    rw [Array.getElem?_append]
    by_cases hk : k < W.heap.size
    · rw [if_pos hk]; exact h.block k hk
    · rw [if_neg hk, Array.getElem?_extract]
      have := h.size
      by_cases hw : k < w.heap.size
      · rw [if_pos (by omega)]; congr 1; omega
      · rw [if_neg (by omega), Array.getElem?_eq_none (by omega)]
  unfold plus
  rw [← e]
  obtain ⟨heap, tape, drawn, os, output⟩ := w
  obtain ⟨heap', tape', drawn', os', output'⟩ := W
  have h1 : os = os' := h.os
  have h2 : tape = tape' := h.tape
  have h3 : output = output' := h.output
  subst h1 h2 h3
  rfl
theorem cell?_plus (W x : World) (a : Addr) : (plus W x).cell? a = (W.cell? a).or (plusRest W x a) := by
  unfold plusRest
  by_cases h : a.block < W.heap.size
  · rw [if_pos h, (plus_below W x).cell h]; simp
  · rw [if_neg h]
    have : W.cell? a = none := by
      unfold World.cell?
      rw [Array.getElem?_eq_none (by omega)]
    rw [this]; simp
attribute [go_sem] cell?_plus
theorem size_plus (W x : World) : W.heap.size ≤ (plus W x).heap.size := (plus_below W x).size

/-- the region rule at that class -/
theorem wp_region_plus {P : Program} {ops : List Oper} {id : Nat} {Q : Exit → Act → World → Prop} {a : Act} {w : World} (hm : P.follows .mixedOrders = true) (hB : Region.lexB .any ops.toArray = true)
    (h : wpQuiet P ops.toArray (fun w' => ∃ x, w' = plus w x) (fun a' => ∀ w', (∃ x, w' = plus w x) → Q .normal a' w') ops a) : (Code.region id ops.toArray true).wp P Q a w :=
  wp_region_quiet (C := fun w' => ∃ x, w' = plus w x) hm hB (below_plus (Below.drew (Below.refl _ _))) (by simpa using h)

theorem plus_of {P : Program} {f : FuncId} {args : Array Value} {w x : World} {v : Value}
    (h : Calls P f args (plus w x) fun e w' => e = .returned v ∧ Below (plus w x).heap.size (plus w x) w') : Calls P f args (plus w x) fun e w'' => e = .returned v ∧ ∃ x, w'' = plus w x :=
  h.mono fun _ _ ⟨he, hb⟩ => ⟨he, below_plus ((plus_below w x).trans (hb.mono (size_plus w x)))⟩
theorem plus_of_same {P : Program} {f : FuncId} {args : Array Value} {w x : World} {v : Value}
    (h : Calls P f args (plus w x) fun e w' => e = .returned v ∧ plus w x = w') : Calls P f args (plus w x) fun e w'' => e = .returned v ∧ ∃ x, w'' = plus w x :=
  h.mono fun _ _ ⟨he, hb⟩ => ⟨he, _, hb.symm⟩
theorem plus_of_drew {P : Program} {f : FuncId} {args : Array Value} {w x : World} {v : Value}
    (h : Calls P f args (plus w x) fun e w' => e = .returned v ∧ ∃ n, (plus w x).drewN n = w') : Calls P f args (plus w x) fun e w'' => e = .returned v ∧ ∃ x, w'' = plus w x :=
  h.mono fun _ _ ⟨he, n, hb⟩ => ⟨he, { x with drawn := (plus w x).drawn + n }, by rw [← hb]; rfl⟩
end Go.Proofs.Ytnnhobbabcfogaa
