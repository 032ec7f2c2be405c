/-
  Own rows of structs: their cells one struct behind the other.
-/
import Derived.Test.YtnnhobbabcfogaaDoorE3
set_option linter.all false
namespace Go.Proofs.YtnnhobbabcfogaaDoor
open Go.ChangeShapes Go.WideShapes Go.ChangeAt Go.RowKit
set_option maxHeartbeats 1000000
set_option linter.unusedVariables false
set_option maxRecDepth 20000

theorem flat_len {α β : Type} (f : α → List β) (s : Nat) (hf : ∀ a, (f a).length = s) : ∀ P : List α, (P.flatMap f).length = P.length * s
  | [] => by simp
  | a :: P => by
    rw [List.flatMap_cons, List.length_append, hf, flat_len f s hf P, List.length_cons, Nat.succ_mul]; omega
theorem flat_at {α β : Type} [Inhabited α] (f : α → List β) (s : Nat) (hf : ∀ a, (f a).length = s) : ∀ (P : List α) (i j : Nat), i < P.length → j < s → (P.flatMap f)[i * s + j]? = (f (P.getD i default))[j]?
  | [], i, j, h, _ => absurd h (Nat.not_lt_zero i)
  | a :: P, 0, j, _, hj => by
    rw [List.flatMap_cons, Nat.zero_mul, Nat.zero_add, List.getElem?_append_left (by rw [hf]; exact hj)]
    rfl
  | a :: P, i + 1, j, h, hj => by
    have ih := flat_at f s hf P i j (by simpa using h) hj
    rw [List.flatMap_cons, List.getElem?_append_right (by rw [hf, Nat.succ_mul]; omega), hf, show (i + 1) * s + j - s = i * s + j by rw [Nat.succ_mul]; omega, ih]
    rfl
/-- an own row of structs read as a row -/
theorem own_flat {w : World} {B s : Nat} {e : TypeId} {v : Value} {α : Type} [Inhabited α] {P : List α} {f : α → List Value} (hs : 0 < s) (hf : ∀ a, (f a).length = s) (h : w.ownsRow B e s v P.length (P.flatMap f)) : Rows' w v s P.length fun i c => ∀ j u, (f (P.getD i default))[j]? = some u → c j = some u := by
  have H := h
  obtain ⟨-, ⟨rfl, h0⟩ | ⟨b, cap, cur, rfl, hb, hgg, hn, hc, -⟩⟩ := h
  · rw [h0]; exact ⟨none, 0, rfl, Nat.le_refl _, by simp [maxLen], fun i hi => absurd hi (Nat.not_lt_zero i)⟩
  · refine ⟨_, _, rfl, hn, hc, fun i hi => ⟨b, 0, rfl, fun j u hu => ?_⟩⟩
    have hj : j < s := by have := (List.getElem?_eq_some_iff.1 hu).1; rw [hf] at this; exact this
    have hlt : i * s + j < P.length * s := by
      have : (i + 1) * s ≤ P.length * s := Nat.mul_le_mul_right _ hi
      rw [Nat.succ_mul] at this
      omega
    have := H.cellAt (i * s + j) hlt
    rw [flat_at f s hf P i j hi hj, hu] at this
    rw [Nat.zero_add]; exact this
theorem take_snocD {α : Type} [Inhabited α] (l : List α) (k : Nat) (h : k < l.length) : l.take (k + 1) = l.take k ++ [l.getD k default] := by
  rw [List.take_succ]; simp [List.getD, h]
theorem flat_snoc {α β : Type} (f : α → List β) (P : List α) (a : α) : (P ++ [a]).flatMap f = P.flatMap f ++ f a := by simp
/-- the cells of a block just made, of the length of a list -/
theorem cell_newX (w : World) (c : List Value) (t : TypeId) (g : Nat) (hg : g = w.heap.size) : ∀ j u, c[j]? = some u → (w.alloc (.cells c.toArray t)).cell? ⟨g, j, none⟩ = some u := cell_newL w c.toArray t g hg
end Go.Proofs.YtnnhobbabcfogaaDoor
