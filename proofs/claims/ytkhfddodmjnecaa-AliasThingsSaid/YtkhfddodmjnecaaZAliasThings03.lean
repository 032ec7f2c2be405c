/-
 Contracts of the functions of flow that mark registers in a list of bools of the call's own.; Contracts of flow's before and join, and of slices.Clone at bools.
-/
import Derived.Test.YtkhfddodmjnecaaZAliasThings02
import Derived.WalkSpells

set_option linter.all false
namespace Go.Proofs.Ytkhfddodmjnecaa
open Go.ChangeShapes Go.WideShapes Go.ChangeAt Go.RowKit
set_option maxHeartbeats 1000000
set_option maxRecDepth 20000

/-- a list of bools in a row of the call's own -/
def OwnB (w : World) (base : Nat) (v : Value) (l : List Bool) : Prop := w.ownsRow base 4 1 v l.length (l.map Value.bool)
theorem OwnB.rd {w : World} {base : Nat} {v : Value} {l : List Bool} (h : OwnB w base v l) : RdB w v l := by
 obtain ⟨h1, ⟨rfl, h2⟩ | ⟨g, cap, cur, rfl, hb, hg, hn, hc, hcs, ht⟩⟩ := h
 ·have : l = [] := List.eq_nil_of_length_eq_zero h2
  subst this
  exact ⟨none, 0, rfl, Nat.le_refl _, by simp [maxLen], fun i hi => absurd hi (by simp)⟩
 ·refine ⟨_, _, rfl, hn, hc, fun i hi => ⟨g, 0, rfl, ?_⟩⟩
  have h3 : (l.map Value.bool)[i]? = some (.bool (l.getD i false)) := by
   rw [List.getElem?_map, List.getElem?_eq_getElem hi]; simp [List.getD, hi]
  rw [← ht, List.getElem?_take] at h3
  split at h3
  ·simp only [Nat.zero_add, Nat.mul_one, Nat.add_zero]
   rw [World.cell?]
   simp only [hg]
   simpa using h3
  ·cases h3
theorem OwnB.cellAt {w : World} {B g n c : Nat} {l : List Bool} (h : OwnB w B (.slice (some ⟨g, 0, none⟩) n c) l) : n = l.length ∧ n ≤ c ∧ c ≤ maxLen ∧ B ≤ g ∧ (∀ i, i < n → w.cell? ⟨g, i, none⟩ = some (.bool (l.getD i false))) ∧ (∀ i, w.frozen? ⟨g, i, none⟩ = false) ∧ g < w.heap.size := by
 obtain ⟨ad, cp, h1, h2, h3, h4⟩ := h.rd
 simp only [Value.slice.injEq] at h1
 obtain ⟨rfl, rfl, rfl⟩ := h1
 have hf := World.ownsRow.frozenAt h
 obtain ⟨_, ⟨h5, _⟩ | ⟨g', cap, cur, h5, hb, hh, _⟩⟩ := h
 ·simp at h5
 ·simp only [Value.slice.injEq, Option.some.injEq, Addr.mk.injEq] at h5
  refine ⟨rfl, h2, h3, by omega, fun i hi => ?_, hf, ?_⟩
  ·obtain ⟨b, o, e, hc⟩ := h4 i hi
   simp only [Option.some.injEq, Addr.mk.injEq] at e
   obtain ⟨rfl, rfl, _⟩ := e
   simpa using hc
  ·have := (Array.getElem?_eq_some_iff.1 hh).1
   omega
theorem OwnB.set {w : World} {B g n c : Nat} {l : List Bool} (h : OwnB w B (.slice (some ⟨g, 0, none⟩) n c) l) (i : Nat) (x : Bool) : OwnB (w.setCell ⟨g, i, none⟩ (.bool x)) B (.slice (some ⟨g, 0, none⟩) n c) (l.set i x) := by
 obtain ⟨rfl, _⟩ := h.cellAt
 have := (World.ownsRow.stored h i (.bool x)).1
 unfold OwnB
 rw [List.length_set, List.map_set]
 exact this
/-- the world but for one block, and new ones -/
structure But (g : Nat) (w w' : World) : Prop where
 os : w'.os = w.os
 tape : w'.tape = w.tape
 output : w'.output = w.output
 size : w.heap.size ≤ w'.heap.size
 block : ∀ k, k < w.heap.size → k ≠ g → w'.heap[k]? = w.heap[k]?
theorem But.refl (g : Nat) (w : World) : But g w w := ⟨rfl, rfl, rfl, Nat.le_refl _, fun _ _ _ => rfl⟩
theorem But.trans {g : Nat} {a b c : World} (h : But g a b) (k : But g b c) : But g a c :=
 ⟨k.os.trans h.os, k.tape.trans h.tape, k.output.trans h.output, Nat.le_trans h.size k.size, fun i hi hg => (k.block i (Nat.lt_of_lt_of_le hi h.size) hg).trans (h.block i hi hg)⟩
theorem But.below {g : Nat} {w w' : World} (h : Below w.heap.size w w') : But g w w' := ⟨h.os, h.tape, h.output, h.size, fun k hk _ => h.block k hk⟩
theorem But.setCell (g i : Nat) (w : World) (x : Value) : But g w (w.setCell ⟨g, i, none⟩ x) :=
 ⟨rfl, rfl, rfl, by simp [World.setCell], fun k _ hk => Below.heap_setCell w ⟨g, i, none⟩ x k hk⟩
theorem But.toBelow {g B : Nat} {w w' : World} (h : But g w w') (hg : B ≤ g) (hB : B ≤ w.heap.size) : Below B w w' := ⟨h.os, h.tape, h.output, h.size, fun k hk => h.block k (by omega) (by omega)⟩
theorem But.cell {g : Nat} {w w' : World} (h : But g w w') {b o : Nat} (hb : b < w.heap.size) (hg : b ≠ g) : w'.cell? ⟨b, o, none⟩ = w.cell? ⟨b, o, none⟩ := World.cell?_of_block (w := w) (a := ⟨b, o, none⟩) (h.block b hb hg)
/-- what is read, but for the one block -/
def ExtB (g : Nat) (w w' : World) : Prop := ∀ a v, a.block ≠ g → w.cell? a = some v → w'.cell? a = some v
theorem But.ext {g : Nat} {w w' : World} (h : But g w w') : ExtB g w w' := fun a _ hg hv => (World.cell?_of_block (w := w) (h.block a.block (World.block_lt_of_cell? w a hv) hg)).trans hv
theorem OwnB.below {w w' : World} {B : Nat} {v : Value} {l : List Bool} (h : OwnB w B v l) (hb : Below w.heap.size w w') : OwnB w' B v l := by
 obtain ⟨h1, h2 | ⟨g, cap, cur, h3, h4, h5, r⟩⟩ := h
 ·exact ⟨h1, .inl h2⟩
 ·exact ⟨h1, .inr ⟨g, cap, cur, h3, h4, (hb.block g (Array.getElem?_eq_some_iff.1 h5).1).trans h5, r⟩⟩
theorem OwnB.but {w w' : World} {B g g0 n c : Nat} {l : List Bool} (h : OwnB w B (.slice (some ⟨g0, 0, none⟩) n c) l) (hb : But g w w') (hg : g0 ≠ g) : OwnB w' B (.slice (some ⟨g0, 0, none⟩) n c) l := by
 obtain ⟨h1, h2 | ⟨g', cap, cur, h3, h4, h5, r⟩⟩ := h
 ·exact ⟨h1, .inl h2⟩
 ·simp only [Value.slice.injEq, Option.some.injEq, Addr.mk.injEq] at h3
  refine ⟨h1, .inr ⟨g', cap, cur, by simp only [h3], h4, (hb.block g' (Array.getElem?_eq_some_iff.1 h5).1 (by omega)).trans h5, r⟩⟩

/-- marked, if there is such a one -/
def setB (l : List Bool) (r : Int) (is : Bool) : List Bool := if 0 ≤ r ∧ r < l.length then l.set r.toNat is else l
/-- a list of bools at a block of its own -/
def RowB (w : World) (g n c : Nat) (l : List Bool) : Prop := OwnB w 0 (.slice (some ⟨g, 0, none⟩) n c) l
theorem RowB.below {w w' : World} {g n c : Nat} {l : List Bool} (h : RowB w g n c l) (hb : Below w.heap.size w w') : RowB w' g n c l := OwnB.below h hb
end Go.Proofs.Ytkhfddodmjnecaa

set_option linter.all false
namespace Go.Proofs.Ytkhfddodmjnecaa
open Go.ChangeShapes Go.WideShapes Go.ChangeAt Go.RowKit
set_option maxHeartbeats 1000000
set_option maxRecDepth 20000

def marksB (l : List Bool) (rs : List Int) : List Bool := rs.foldl (fun l r => setB l r true) l
/-- what is live ahead of an instruction -/
def beforeB (l : List Bool) (i : In) : List Bool := marksB (setB l (defI i) false) (usesI i)
/-- joined so far -/
def orB (lt lf : List Bool) (k : Nat) : List Bool := (List.range lt.length).map fun i => lt.getD i false || (decide (i < k) && lf.getD i false)
def grewB (lt lf : List Bool) (k : Nat) : Bool := (List.range k).any fun i => lf.getD i false && !lt.getD i false
def joinB (lt lf : List Bool) : List Bool := orB lt lf lt.length
theorem orB_len (lt lf : List Bool) (k : Nat) : (orB lt lf k).length = lt.length := by simp [orB]
end Go.Proofs.Ytkhfddodmjnecaa
