/-
  Rows that the call owns: one more element, of any size; what stays where one row alone has turned.
-/
import Derived.Test.YtnnhobbabcfogaaDoorE2
import Derived.Test.YtnnhobbabcfogaaDoorK
import Derived.Test.YtnnhobbabcfogaaDoorM
import Derived.Test.YtnnhobbabcfogaaDoorRows
import Derived.ProofKit
import Derived.Below
import Derived.Maps.AppendAt
import Derived.Laws.OwnMore
set_option linter.all false
namespace Go.Proofs.YtnnhobbabcfogaaDoor
open Go.ChangeShapes Go.WideShapes Go.ChangeAt Go.RowKit
set_option maxHeartbeats 1000000
set_option linter.unusedVariables false
set_option maxRecDepth 20000

/-- append of one element that lies in a block of its own, for rows of any element -/
theorem appG (t e : TypeId) {z : Value} {s bytes : Nat} (hinf : (Tryd.prog.info? e).map (fun i => (i.zero, i.size, i.bytes)) = some (some z, s, bytes)) (ht : Tryd.prog.underlying t = some (.slice e)) (hz : z.cells.size = s) (h0 : 0 < s) (hbt : bytes ≤ 128) (ys : List Value) (hyl : ys.length = s) (hy : ∀ u ∈ ys, u.oneCell' = true)
    {ops : Array Oper} {rest : List Oper} {o : Oper} {a : Act} {W : World} {B : Nat} {v : Value} {m : Nat} {xs : List Value} {g : Nat} {Q : Exit → Act → World → Prop} {S x : Operand} (hown : W.ownsRow B e s v m xs) (hgd : o.guard = none)
    (ho : o.op = .call { callee := .builtin .append, args := #[S, x], argTypes := #[t, t] }) (hs : a.eval S = v)
    (hx : a.eval x = .slice (some ⟨g, 0, none⟩) 1 1) (hc : ∀ j u, ys[j]? = some u → W.cell? ⟨g, j, none⟩ = some u) (hlen : m ≤ 1000000000) (hB : B ≤ W.heap.size)
    (h : ∀ v' w', w'.ownsRow B e s v' (m + 1) (xs ++ ys) → W.grownBy w' v.ownBlock → (v'.ownBlock = v.ownBlock ∨ v'.ownBlock = some W.heap.size) → wpList Tryd.prog ops Q rest (a.put o.dst v') w') : wpList Tryd.prog ops Q (o :: rest) a W := by
  obtain ⟨i0, hi, hz0, hz1, hz2⟩ := info_parts hinf
  refine wpList_append_own_at _ hgd S x t ho B e i0 z s bytes ht hi hz0 hz1 hz2 hz h0 v m _ hs hown ⟨g, 0, none⟩ 1 1 ys hx (by omega) ?_ hy ?_ ?_ hB ?_
  · intro j u hj
    have := hc j u hj
    have e : ({ block := g, off := 0 } : Addr).add j = ⟨g, j, none⟩ := by by_cases hj0 : j = 0 <;> simp [Addr.add, hj0]
    rw [e]; exact this
  · unfold maxLen; omega
  · have : (m + 1) * bytes ≤ (m + 1) * 128 := Nat.mul_le_mul_left _ hbt
    omega
  · intro v' w' h1 h2 _ h4
    exact h v' w' h1 h2 h4
/-- the one cell of a block just made -/
theorem cell_new1 (w : World) (x : Value) (t : TypeId) (g : Nat) (hg : g = w.heap.size) : ∀ j u, [x][j]? = some u → (w.alloc (.cells #[x] t)).cell? ⟨g, j, none⟩ = some u := by
  subst hg
  intro j u hj
  match j, hj with
  | 0, hj =>
    simp at hj; subst hj
    exact (cell_of_heap (heap_alloc_new w _) 0)
theorem cell_newL (w : World) (c : Array Value) (t : TypeId) (g : Nat) (hg : g = w.heap.size) : ∀ j u, c.toList[j]? = some u → (w.alloc (.cells c t)).cell? ⟨g, j, none⟩ = some u := by
  subst hg
  intro j u hj
  have := cell_of_heap (heap_alloc_new w (.cells c t)) j
  rw [this]
  simpa using hj
/-- a slice's block is another one than row -/
def Apart (v : Value) (row : Option Nat) : Prop := ∀ b o n c, v = .slice (some ⟨b, o, none⟩) n c → some b ≠ row
theorem Apart.none {v : Value} : Apart v none := fun _ _ _ _ _ => by simp
theorem Apart.nil {row : Option Nat} : Apart (.slice Option.none 0 0) row := fun _ _ _ _ h => by cases h
theorem cell_grown {w w' : World} {row : Option Nat} (hg : w.grownBy w' row) {b o : Nat} {u : Value} (hb : some b ≠ row) (h : w.cell? ⟨b, o, Option.none⟩ = some u) : w'.cell? ⟨b, o, Option.none⟩ = some u :=
  (World.cell?_of_block (a := ⟨b, o, Option.none⟩) (hg.block b (World.block_lt_of_cell? w _ h) hb)).trans h
theorem Rows'.grown {w w' : World} {v : Value} {k n : Nat} {R R' : Nat → (Nat → Option Value) → Prop} {row : Option Nat} (h : Rows' w v k n R) (hg : w.grownBy w' row) (ha : Apart v row) (hR : ∀ i c c', Sub c c' → R i c → R' i c') : Rows' w' v k n R' := by
  obtain ⟨a, c, h1, h2, h3, h4⟩ := h
  refine ⟨a, c, h1, h2, h3, fun i hi => ?_⟩
  obtain ⟨b, o, e, r⟩ := h4 i hi
  subst e
  exact ⟨b, o, rfl, hR i _ _ (fun j v hv => cell_grown hg (ha b o n c h1) hv) r⟩
/-- an own row's block changed by an append is the old one or new: what was apart from it stays apart -/
theorem Apart.app {w : World} {v o o' : Value} (ha : Apart v o.ownBlock) (hlt : ∀ b p n c, v = .slice (some ⟨b, p, Option.none⟩) n c → b < w.heap.size) (h : o'.ownBlock = o.ownBlock ∨ o'.ownBlock = some w.heap.size) : Apart v o'.ownBlock := fun b p n c e => by
  rcases h with h | h
  · rw [h]; exact ha b p n c e
  · rw [h]
    have := hlt b p n c e
    intro e2
    simp only [Option.some.injEq] at e2
    omega
theorem own_lt {w : World} {B s n g : Nat} {e : TypeId} {v : Value} {xs : List Value} (h : w.ownsRow B e s v n xs) (hg : v.ownBlock = some g) : B ≤ g ∧ g < w.heap.size := by
  obtain ⟨-, ⟨rfl, -⟩ | ⟨b, cap, cur, rfl, hb, hgg, -⟩⟩ := h
  · cases hg
  · simp only [Value.ownBlock, Option.some.injEq] at hg
    subst hg
    exact ⟨hb, (Array.getElem?_eq_some_iff.1 hgg).1⟩
/-- what lies in a block made since lies apart from a row that was owned before -/
theorem Apart.new {w : World} {B s n : Nat} {e : TypeId} {v o : Value} {xs : List Value} (h : w.ownsRow B e s o n xs) (hv : ∀ b p n c, v = .slice (some ⟨b, p, Option.none⟩) n c → w.heap.size ≤ b) : Apart v o.ownBlock := fun b p n c e => by
  have := hv b p n c e
  intro e2
  have := own_lt h e2.symm
  omega
theorem below_grown {B : Nat} {w0 w w' : World} {row : Option Nat} (h : Below B w0 w) (hg : w.grownBy w' row) (hB : B ≤ w.heap.size) (hr : ∀ b, row = some b → B ≤ b) : Below B w0 w' :=
  ⟨hg.os.trans h.os, hg.tape.trans h.tape, hg.output.trans h.output, Nat.le_trans h.size hg.size, fun k hk => (hg.block k (by omega) (fun e => by have := hr k e.symm; omega)).trans (h.block k hk)⟩
theorem grown_below {w w' : World} (hb : Below w.heap.size w w') (row : Option Nat) : w.grownBy w' row := ⟨hb.os, hb.tape, hb.output, hb.size, fun k hk _ => hb.block k hk⟩
theorem own_below {w w' : World} {B s n : Nat} {e : TypeId} {v : Value} {xs : List Value} (h : w.ownsRow B e s v n xs) (hb : Below w.heap.size w w') : w'.ownsRow B e s v n xs :=
  h.kept (grown_below hb none) (by cases v.ownBlock <;> simp)
theorem own_nil (w : World) (B : Nat) (e : TypeId) (s : Nat) : w.ownsRow B e s (.slice none 0 0) 0 [] := World.ownsRow_nil _ _ _ _
/-- an own row of one-cell elements read as a row -/
theorem own_rows {w : World} {B : Nat} {e : TypeId} {v : Value} {α : Type} {l : List α} {f : α → Value} (d : α) (h : w.ownsRow B e 1 v l.length (l.map f)) : Rows' w v 1 l.length fun i c => c 0 = some (f (l.getD i d)) := by
  have H := h
  obtain ⟨-, ⟨rfl, h0⟩ | ⟨b, cap, cur, rfl, hb, hgg, hn, hc, -⟩⟩ := h
  · rw [h0]; exact ⟨none, 0, rfl, Nat.le_refl _, by simp [maxLen], fun i hi => absurd hi (Nat.not_lt_zero i)⟩
  · refine ⟨_, _, rfl, hn, hc, fun i hi => ⟨b, 0, rfl, ?_⟩⟩
    have := H.cellAt i (by simpa using hi)
    simp only [Nat.mul_one, Nat.add_zero, Nat.zero_add] at this ⊢
    rw [this]
    simp [List.getD, hi]
end Go.Proofs.YtnnhobbabcfogaaDoor
