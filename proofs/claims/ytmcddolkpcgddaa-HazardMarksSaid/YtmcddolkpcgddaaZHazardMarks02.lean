/-
 Contracts of the reference's functions of flow that look at blocks: Outs, leads, Preds, has, within.; Contracts of the reference's functions of flow: has, within, leads, Preds.; Rows of instructions, one by one.; The contract of the reference's within: what comes first in a block from a place on.; Contracts of the functions of flow that mark registers in a list of bools of the call's own.; Contracts of flow's before and join, and of slices.Clone at bools.
-/
import Derived.Test.YtmcddolkpcgddaaZHazardMarks01
import Derived.Test.YtmcddolkpcgddaaZHazardMarks00
import Derived.WalkSpells

set_option linter.all false
namespace Go.Proofs.Ytmcddolkpcgddaa
open Go.ChangeShapes Go.WideShapes Go.ChangeAt Go.RowKit
set_option maxHeartbeats 1000000
set_option maxRecDepth 20000

end Go.Proofs.Ytmcddolkpcgddaa

set_option linter.all false
namespace Go.Proofs.Ytmcddolkpcgddaa
open Go.ChangeShapes Go.WideShapes Go.ChangeAt Go.RowKit
set_option maxHeartbeats 1000000
set_option maxRecDepth 20000

/-- is a number in a list? -/
def hasL (l : List Int) (r : Int) : Bool := l.contains r
theorem OwnI.below {w w' : World} {B : Nat} {v : Value} {l : List Int} (h : OwnI w B v l) (hb : Below w.heap.size w w') : OwnI w' B v l := by
 obtain ⟨h1, h2 | ⟨g, cap, cur, h3, h4, h5, r⟩⟩ := h
 ·exact ⟨h1, .inl h2⟩
 ·exact ⟨h1, .inr ⟨g, cap, cur, h3, h4, (hb.block g (Array.getElem?_eq_some_iff.1 h5).1).trans h5, r⟩⟩
end Go.Proofs.Ytmcddolkpcgddaa

set_option linter.all false
namespace Go.Proofs.Ytmcddolkpcgddaa
open Go Go.RowKit

theorem RdIns.at {w : World} {a : Option Addr} {n c : Nat} {l : List In} (h : RdIns w (.slice a n c) l) : n = l.length ∧ ∀ k, k < l.length → ∃ b o va, a = some ⟨b, o, none⟩ ∧ b < w.heap.size ∧ RdI w va (l.getD k default).args ∧
  (w.cell? ⟨b, o + k * 11, none⟩ = some (.int .i64 (l.getD k default).op) ∧ w.cell? ⟨b, o + k * 11 + 1, none⟩ = some (.int .i64 (l.getD k default).d) ∧ w.cell? ⟨b, o + k * 11 + 2, none⟩ = some (.int .i64 (l.getD k default).a) ∧
  w.cell? ⟨b, o + k * 11 + 3, none⟩ = some (.int .i64 (l.getD k default).b) ∧ w.cell? ⟨b, o + k * 11 + 4, none⟩ = some (.int .i64 (l.getD k default).fn) ∧ w.cell? ⟨b, o + k * 11 + 5, none⟩ = some (.int .i64 (l.getD k default).obj) ∧
  w.cell? ⟨b, o + k * 11 + 6, none⟩ = some (.int .i64 (l.getD k default).off) ∧ w.cell? ⟨b, o + k * 11 + 7, none⟩ = some (.int .i64 (l.getD k default).size) ∧ w.cell? ⟨b, o + k * 11 + 8, none⟩ = some (.int .u32 (l.getD k default).num) ∧
  w.cell? ⟨b, o + k * 11 + 9, none⟩ = some va ∧ w.cell? ⟨b, o + k * 11 + 10, none⟩ = some (.bool (l.getD k default).log)) := by
 obtain ⟨a', c', e, h1, h2, hc⟩ := h
 simp only [Value.slice.injEq] at e
 obtain ⟨rfl, rfl, rfl⟩ := e
 refine ⟨rfl, fun k hk => ?_⟩
 obtain ⟨b, o, rfl, h0, h1, h2, h3, h4, h5, h6, h7, h8, ⟨va, h9, hv⟩, h10⟩ := hc k hk
 exact ⟨b, o, va, rfl, World.block_lt_of_cell? w _ h0, hv, h0, h1, h2, h3, h4, h5, h6, h7, h8, h9, h10⟩
end Go.Proofs.Ytmcddolkpcgddaa

set_option linter.all false
namespace Go.Proofs.Ytmcddolkpcgddaa
open Go.ChangeShapes Go.WideShapes Go.ChangeAt Go.RowKit
set_option maxHeartbeats 1000000
set_option maxRecDepth 20000

/-- what comes first among instructions: 1: the register is read; 2: it is set; 0: neither -/
def withinI (r : Int) : List In → Int
 | [] => 0
 | i :: l => if hasL (usesI i) r = true then 1 else if defI i = r then 2 else withinI r l
def endReads (b : Bk) (r : Int) : Bool := (b.fin == 2 || b.fin == 3) && b.a == r
def withinB (b : Bk) (k : Nat) (r : Int) : Int := if withinI r (b.ins.drop k) = 0 then (if endReads b r = true then 1 else 0) else withinI r (b.ins.drop k)
theorem drop_cons (l : List In) (k : Nat) (h : k < l.length) : l.drop k = l.getD k default :: l.drop (k + 1) := by
 rw [List.drop_eq_getElem_cons h]; simp [List.getD, h]
end Go.Proofs.Ytmcddolkpcgddaa

set_option linter.all false
namespace Go.Proofs.Ytmcddolkpcgddaa
open Go.ChangeShapes Go.WideShapes Go.ChangeAt Go.RowKit
set_option maxHeartbeats 1000000
set_option maxRecDepth 20000

/-- a list of bools in a row of the call's own -/
def OwnB (w : World) (base : Nat) (v : Value) (l : List Bool) : Prop := w.ownsRow base 4 1 v l.length (l.map Value.bool)
theorem OwnB.rd {w : World} {base : Nat} {v : Value} {l : List Bool} (h : OwnB w base v l) : RdB w v l := by
 obtain ⟨h1, ⟨rfl, h2⟩ | ⟨g, cap, cur, rfl, hb, hg, hn, hc, hcs, ht⟩⟩ := h
 ·have : l = [] := List.eq_nil_of_length_eq_zero h2
  subst this
  exact ⟨none, 0, rfl, Nat.le_refl _, by simp [maxLen], fun i hi => absurd hi (by simp)⟩
 ·refine ⟨_, _, rfl, hn, hc, fun i hi => ⟨g, 0, rfl, ?_⟩⟩
  have h3 : (l.map Value.bool)[i]? = some (.bool (l.getD i false)) := by
   rw [List.getElem?_map, List.getElem?_eq_getElem hi]; simp [List.getD, hi]
  rw [← ht, List.getElem?_take] at h3
  split at h3
  ·simp only [Nat.zero_add, Nat.mul_one, Nat.add_zero]
   rw [World.cell?]
   simp only [hg]
   simpa using h3
  ·cases h3
theorem OwnB.cellAt {w : World} {B g n c : Nat} {l : List Bool} (h : OwnB w B (.slice (some ⟨g, 0, none⟩) n c) l) : n = l.length ∧ n ≤ c ∧ c ≤ maxLen ∧ B ≤ g ∧ (∀ i, i < n → w.cell? ⟨g, i, none⟩ = some (.bool (l.getD i false))) ∧ (∀ i, w.frozen? ⟨g, i, none⟩ = false) ∧ g < w.heap.size := by
 obtain ⟨ad, cp, h1, h2, h3, h4⟩ := h.rd
 simp only [Value.slice.injEq] at h1
 obtain ⟨rfl, rfl, rfl⟩ := h1
 have hf := World.ownsRow.frozenAt h
 obtain ⟨_, ⟨h5, _⟩ | ⟨g', cap, cur, h5, hb, hh, _⟩⟩ := h
 ·simp at h5
 ·simp only [Value.slice.injEq, Option.some.injEq, Addr.mk.injEq] at h5
  refine ⟨rfl, h2, h3, by omega, fun i hi => ?_, hf, ?_⟩
  ·obtain ⟨b, o, e, hc⟩ := h4 i hi
   simp only [Option.some.injEq, Addr.mk.injEq] at e
   obtain ⟨rfl, rfl, _⟩ := e
   simpa using hc
  ·have := (Array.getElem?_eq_some_iff.1 hh).1
   omega
theorem OwnB.set {w : World} {B g n c : Nat} {l : List Bool} (h : OwnB w B (.slice (some ⟨g, 0, none⟩) n c) l) (i : Nat) (x : Bool) : OwnB (w.setCell ⟨g, i, none⟩ (.bool x)) B (.slice (some ⟨g, 0, none⟩) n c) (l.set i x) := by
 obtain ⟨rfl, _⟩ := h.cellAt
 have := (World.ownsRow.stored h i (.bool x)).1
 unfold OwnB
 rw [List.length_set, List.map_set]
 exact this
/-- the world but for one block, and new ones -/
structure But (g : Nat) (w w' : World) : Prop where
 os : w'.os = w.os
 tape : w'.tape = w.tape
 output : w'.output = w.output
 size : w.heap.size ≤ w'.heap.size
 block : ∀ k, k < w.heap.size → k ≠ g → w'.heap[k]? = w.heap[k]?
theorem But.refl (g : Nat) (w : World) : But g w w := ⟨rfl, rfl, rfl, Nat.le_refl _, fun _ _ _ => rfl⟩
theorem But.trans {g : Nat} {a b c : World} (h : But g a b) (k : But g b c) : But g a c :=
 ⟨k.os.trans h.os, k.tape.trans h.tape, k.output.trans h.output, Nat.le_trans h.size k.size, fun i hi hg => (k.block i (Nat.lt_of_lt_of_le hi h.size) hg).trans (h.block i hi hg)⟩
theorem But.below {g : Nat} {w w' : World} (h : Below w.heap.size w w') : But g w w' := ⟨h.os, h.tape, h.output, h.size, fun k hk _ => h.block k hk⟩
theorem But.setCell (g i : Nat) (w : World) (x : Value) : But g w (w.setCell ⟨g, i, none⟩ x) :=
 ⟨rfl, rfl, rfl, by simp [World.setCell], fun k _ hk => Below.heap_setCell w ⟨g, i, none⟩ x k hk⟩
theorem But.toBelow {g B : Nat} {w w' : World} (h : But g w w') (hg : B ≤ g) (hB : B ≤ w.heap.size) : Below B w w' := ⟨h.os, h.tape, h.output, h.size, fun k hk => h.block k (by omega) (by omega)⟩
theorem But.cell {g : Nat} {w w' : World} (h : But g w w') {b o : Nat} (hb : b < w.heap.size) (hg : b ≠ g) : w'.cell? ⟨b, o, none⟩ = w.cell? ⟨b, o, none⟩ := World.cell?_of_block (w := w) (a := ⟨b, o, none⟩) (h.block b hb hg)
/-- what is read, but for the one block -/
def ExtB (g : Nat) (w w' : World) : Prop := ∀ a v, a.block ≠ g → w.cell? a = some v → w'.cell? a = some v
theorem But.ext {g : Nat} {w w' : World} (h : But g w w') : ExtB g w w' := fun a _ hg hv => (World.cell?_of_block (w := w) (h.block a.block (World.block_lt_of_cell? w a hv) hg)).trans hv
theorem OwnB.below {w w' : World} {B : Nat} {v : Value} {l : List Bool} (h : OwnB w B v l) (hb : Below w.heap.size w w') : OwnB w' B v l := by
 obtain ⟨h1, h2 | ⟨g, cap, cur, h3, h4, h5, r⟩⟩ := h
 ·exact ⟨h1, .inl h2⟩
 ·exact ⟨h1, .inr ⟨g, cap, cur, h3, h4, (hb.block g (Array.getElem?_eq_some_iff.1 h5).1).trans h5, r⟩⟩
theorem OwnB.but {w w' : World} {B g g0 n c : Nat} {l : List Bool} (h : OwnB w B (.slice (some ⟨g0, 0, none⟩) n c) l) (hb : But g w w') (hg : g0 ≠ g) : OwnB w' B (.slice (some ⟨g0, 0, none⟩) n c) l := by
 obtain ⟨h1, h2 | ⟨g', cap, cur, h3, h4, h5, r⟩⟩ := h
 ·exact ⟨h1, .inl h2⟩
 ·simp only [Value.slice.injEq, Option.some.injEq, Addr.mk.injEq] at h3
  refine ⟨h1, .inr ⟨g', cap, cur, by simp only [h3], h4, (hb.block g' (Array.getElem?_eq_some_iff.1 h5).1 (by omega)).trans h5, r⟩⟩

/-- marked, if there is such a one -/
def setB (l : List Bool) (r : Int) (is : Bool) : List Bool := if 0 ≤ r ∧ r < l.length then l.set r.toNat is else l
theorem setB_len (l : List Bool) (r : Int) (is : Bool) : (setB l r is).length = l.length := by unfold setB; split <;> simp
/-- a list of bools at a block of its own -/
def RowB (w : World) (g n c : Nat) (l : List Bool) : Prop := OwnB w 0 (.slice (some ⟨g, 0, none⟩) n c) l
theorem RowB.below {w w' : World} {g n c : Nat} {l : List Bool} (h : RowB w g n c l) (hb : Below w.heap.size w w') : RowB w' g n c l := OwnB.below h hb
end Go.Proofs.Ytmcddolkpcgddaa

set_option linter.all false
namespace Go.Proofs.Ytmcddolkpcgddaa
open Go.ChangeShapes Go.WideShapes Go.ChangeAt Go.RowKit
set_option maxHeartbeats 1000000
set_option maxRecDepth 20000

def marksB (l : List Bool) (rs : List Int) : List Bool := rs.foldl (fun l r => setB l r true) l
/-- what is live ahead of an instruction -/
def beforeB (l : List Bool) (i : In) : List Bool := marksB (setB l (defI i) false) (usesI i)
theorem marksB_succ (l : List Bool) (rs : List Int) (k : Nat) (h : k < rs.length) : marksB l (rs.take (k + 1)) = setB (marksB l (rs.take k)) (rs.getD k 0) true := by
 unfold marksB; rw [take_snoc rs k h, List.foldl_append]; rfl
theorem marksB_len (l : List Bool) (rs : List Int) : (marksB l rs).length = l.length := by
 unfold marksB
 induction rs generalizing l with
 | nil => rfl
 | cons r rs ih => rw [List.foldl_cons, ih, setB_len]
/-- joined so far -/
def orB (lt lf : List Bool) (k : Nat) : List Bool := (List.range lt.length).map fun i => lt.getD i false || (decide (i < k) && lf.getD i false)
def grewB (lt lf : List Bool) (k : Nat) : Bool := (List.range k).any fun i => lf.getD i false && !lt.getD i false
def joinB (lt lf : List Bool) : List Bool := orB lt lf lt.length
theorem orB_len (lt lf : List Bool) (k : Nat) : (orB lt lf k).length = lt.length := by simp [orB]
theorem info_bool : (Try.prog.info? 4).map (fun i => (i.zero, i.size, i.bytes)) = some (some (.bool false), 1, 1) := by kernel_rfl
end Go.Proofs.Ytmcddolkpcgddaa
