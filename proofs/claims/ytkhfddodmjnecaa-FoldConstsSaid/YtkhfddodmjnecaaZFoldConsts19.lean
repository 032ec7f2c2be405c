/-
 The contract of the reference's within: what comes first in a block from a place on.; Contracts of the functions of flow that mark registers in a list of bools of the call's own.; Contracts of flow's before and join, and of slices.Clone at bools.; What a statement that makes two rows of bools and appends each to a table does, in whatever order its parts are carried out.
-/
import Derived.Test.YtkhfddodmjnecaaZFoldConsts18
import Derived.Test.YtkhfddodmjnecaaZFoldConsts04
import Derived.WalkSpells
import Derived.Test.YtkhfddodmjnecaaZFoldConsts03
import Derived.Deep.OwnRows

set_option linter.all false
namespace Go.Proofs.Ytkhfddodmjnecaa
open Go.ChangeShapes Go.WideShapes Go.ChangeAt Go.RowKit
set_option maxHeartbeats 1000000
set_option maxRecDepth 20000

/-- what comes first among instructions: 1: the register is read; 2: it is set; 0: neither -/
def withinI (r : Int) : List In → Int
 | [] => 0
 | i :: l => if hasL (usesI i) r = true then 1 else if defI i = r then 2 else withinI r l
def endReads (b : Bk) (r : Int) : Bool := (b.fin == 2 || b.fin == 3) && b.a == r
def withinB (b : Bk) (k : Nat) (r : Int) : Int := if withinI r (b.ins.drop k) = 0 then (if endReads b r = true then 1 else 0) else withinI r (b.ins.drop k)
end Go.Proofs.Ytkhfddodmjnecaa

set_option linter.all false
namespace Go.Proofs.Ytkhfddodmjnecaa
open Go.ChangeShapes Go.WideShapes Go.ChangeAt Go.RowKit
set_option maxHeartbeats 1000000
set_option maxRecDepth 20000

/-- a list of bools in a row of the call's own -/
def OwnB (w : World) (base : Nat) (v : Value) (l : List Bool) : Prop := w.ownsRow base 4 1 v l.length (l.map Value.bool)
theorem OwnB.rd {w : World} {base : Nat} {v : Value} {l : List Bool} (h : OwnB w base v l) : RdB w v l := by
 obtain ⟨h1, ⟨rfl, h2⟩ | ⟨g, cap, cur, rfl, hb, hg, hn, hc, hcs, ht⟩⟩ := h
 ·have : l = [] := List.eq_nil_of_length_eq_zero h2
  subst this
  exact ⟨none, 0, rfl, Nat.le_refl _, by simp [maxLen], fun i hi => absurd hi (by simp)⟩
 ·refine ⟨_, _, rfl, hn, hc, fun i hi => ⟨g, 0, rfl, ?_⟩⟩
  have h3 : (l.map Value.bool)[i]? = some (.bool (l.getD i false)) := by
   rw [List.getElem?_map, List.getElem?_eq_getElem hi]; simp [List.getD, hi]
  rw [← ht, List.getElem?_take] at h3
  split at h3
  ·simp only [Nat.zero_add, Nat.mul_one, Nat.add_zero]
   rw [World.cell?]
   simp only [hg]
   simpa using h3
  ·cases h3
theorem OwnB.cellAt {w : World} {B g n c : Nat} {l : List Bool} (h : OwnB w B (.slice (some ⟨g, 0, none⟩) n c) l) : n = l.length ∧ n ≤ c ∧ c ≤ maxLen ∧ B ≤ g ∧ (∀ i, i < n → w.cell? ⟨g, i, none⟩ = some (.bool (l.getD i false))) ∧ (∀ i, w.frozen? ⟨g, i, none⟩ = false) ∧ g < w.heap.size := by
 obtain ⟨ad, cp, h1, h2, h3, h4⟩ := h.rd
 simp only [Value.slice.injEq] at h1
 obtain ⟨rfl, rfl, rfl⟩ := h1
 have hf := World.ownsRow.frozenAt h
 obtain ⟨_, ⟨h5, _⟩ | ⟨g', cap, cur, h5, hb, hh, _⟩⟩ := h
 ·simp at h5
 ·simp only [Value.slice.injEq, Option.some.injEq, Addr.mk.injEq] at h5
  refine ⟨rfl, h2, h3, by omega, fun i hi => ?_, hf, ?_⟩
  ·obtain ⟨b, o, e, hc⟩ := h4 i hi
   simp only [Option.some.injEq, Addr.mk.injEq] at e
   obtain ⟨rfl, rfl, _⟩ := e
   simpa using hc
  ·have := (Array.getElem?_eq_some_iff.1 hh).1
   omega
theorem OwnB.set {w : World} {B g n c : Nat} {l : List Bool} (h : OwnB w B (.slice (some ⟨g, 0, none⟩) n c) l) (i : Nat) (x : Bool) : OwnB (w.setCell ⟨g, i, none⟩ (.bool x)) B (.slice (some ⟨g, 0, none⟩) n c) (l.set i x) := by
 obtain ⟨rfl, _⟩ := h.cellAt
 have := (World.ownsRow.stored h i (.bool x)).1
 unfold OwnB
 rw [List.length_set, List.map_set]
 exact this
/-- the world but for one block, and new ones -/
structure But (g : Nat) (w w' : World) : Prop where
 os : w'.os = w.os
 tape : w'.tape = w.tape
 output : w'.output = w.output
 size : w.heap.size ≤ w'.heap.size
 block : ∀ k, k < w.heap.size → k ≠ g → w'.heap[k]? = w.heap[k]?
theorem But.refl (g : Nat) (w : World) : But g w w := ⟨rfl, rfl, rfl, Nat.le_refl _, fun _ _ _ => rfl⟩
theorem But.trans {g : Nat} {a b c : World} (h : But g a b) (k : But g b c) : But g a c :=
 ⟨k.os.trans h.os, k.tape.trans h.tape, k.output.trans h.output, Nat.le_trans h.size k.size, fun i hi hg => (k.block i (Nat.lt_of_lt_of_le hi h.size) hg).trans (h.block i hi hg)⟩
theorem But.below {g : Nat} {w w' : World} (h : Below w.heap.size w w') : But g w w' := ⟨h.os, h.tape, h.output, h.size, fun k hk _ => h.block k hk⟩
theorem But.setCell (g i : Nat) (w : World) (x : Value) : But g w (w.setCell ⟨g, i, none⟩ x) :=
 ⟨rfl, rfl, rfl, by simp [World.setCell], fun k _ hk => Below.heap_setCell w ⟨g, i, none⟩ x k hk⟩
theorem But.toBelow {g B : Nat} {w w' : World} (h : But g w w') (hg : B ≤ g) (hB : B ≤ w.heap.size) : Below B w w' := ⟨h.os, h.tape, h.output, h.size, fun k hk => h.block k (by omega) (by omega)⟩
theorem But.cell {g : Nat} {w w' : World} (h : But g w w') {b o : Nat} (hb : b < w.heap.size) (hg : b ≠ g) : w'.cell? ⟨b, o, none⟩ = w.cell? ⟨b, o, none⟩ := World.cell?_of_block (w := w) (a := ⟨b, o, none⟩) (h.block b hb hg)
/-- what is read, but for the one block -/
def ExtB (g : Nat) (w w' : World) : Prop := ∀ a v, a.block ≠ g → w.cell? a = some v → w'.cell? a = some v
theorem But.ext {g : Nat} {w w' : World} (h : But g w w') : ExtB g w w' := fun a _ hg hv => (World.cell?_of_block (w := w) (h.block a.block (World.block_lt_of_cell? w a hv) hg)).trans hv
theorem OwnB.below {w w' : World} {B : Nat} {v : Value} {l : List Bool} (h : OwnB w B v l) (hb : Below w.heap.size w w') : OwnB w' B v l := by
 obtain ⟨h1, h2 | ⟨g, cap, cur, h3, h4, h5, r⟩⟩ := h
 ·exact ⟨h1, .inl h2⟩
 ·exact ⟨h1, .inr ⟨g, cap, cur, h3, h4, (hb.block g (Array.getElem?_eq_some_iff.1 h5).1).trans h5, r⟩⟩
theorem OwnB.but {w w' : World} {B g g0 n c : Nat} {l : List Bool} (h : OwnB w B (.slice (some ⟨g0, 0, none⟩) n c) l) (hb : But g w w') (hg : g0 ≠ g) : OwnB w' B (.slice (some ⟨g0, 0, none⟩) n c) l := by
 obtain ⟨h1, h2 | ⟨g', cap, cur, h3, h4, h5, r⟩⟩ := h
 ·exact ⟨h1, .inl h2⟩
 ·simp only [Value.slice.injEq, Option.some.injEq, Addr.mk.injEq] at h3
  refine ⟨h1, .inr ⟨g', cap, cur, by simp only [h3], h4, (hb.block g' (Array.getElem?_eq_some_iff.1 h5).1 (by omega)).trans h5, r⟩⟩

/-- marked, if there is such a one -/
def setB (l : List Bool) (r : Int) (is : Bool) : List Bool := if 0 ≤ r ∧ r < l.length then l.set r.toNat is else l
theorem setB_len (l : List Bool) (r : Int) (is : Bool) : (setB l r is).length = l.length := by unfold setB; split <;> simp
/-- a list of bools at a block of its own -/
def RowB (w : World) (g n c : Nat) (l : List Bool) : Prop := OwnB w 0 (.slice (some ⟨g, 0, none⟩) n c) l
theorem RowB.below {w w' : World} {g n c : Nat} {l : List Bool} (h : RowB w g n c l) (hb : Below w.heap.size w w') : RowB w' g n c l := OwnB.below h hb
end Go.Proofs.Ytkhfddodmjnecaa

set_option linter.all false
namespace Go.Proofs.Ytkhfddodmjnecaa
open Go.ChangeShapes Go.WideShapes Go.ChangeAt Go.RowKit
set_option maxHeartbeats 1000000
set_option maxRecDepth 20000

def marksB (l : List Bool) (rs : List Int) : List Bool := rs.foldl (fun l r => setB l r true) l
/-- what is live ahead of an instruction -/
def beforeB (l : List Bool) (i : In) : List Bool := marksB (setB l (defI i) false) (usesI i)
theorem marksB_len (l : List Bool) (rs : List Int) : (marksB l rs).length = l.length := by
 unfold marksB
 induction rs generalizing l with
 | nil => rfl
 | cons r rs ih => rw [List.foldl_cons, ih, setB_len]
/-- joined so far -/
def orB (lt lf : List Bool) (k : Nat) : List Bool := (List.range lt.length).map fun i => lt.getD i false || (decide (i < k) && lf.getD i false)
def grewB (lt lf : List Bool) (k : Nat) : Bool := (List.range k).any fun i => lf.getD i false && !lt.getD i false
def joinB (lt lf : List Bool) : List Bool := orB lt lf lt.length
theorem orB_len (lt lf : List Bool) (k : Nat) : (orB lt lf k).length = lt.length := by simp [orB]
theorem list_ext (a b : List Bool) (hl : a.length = b.length) (h : ∀ i, i < a.length → a.getD i false = b.getD i false) : a = b := by
 apply List.ext_getElem hl
 intro i h1 h2
 have := h i h1
 simpa [List.getD, h1, h2] using this
theorem info_bool : (Try.prog.info? 4).map (fun i => (i.zero, i.size, i.bytes)) = some (some (.bool false), 1, 1) := by kernel_rfl
end Go.Proofs.Ytkhfddodmjnecaa

set_option linter.all false
namespace Go.Proofs.Ytkhfddodmjnecaa
open Go.ChangeShapes Go.WideShapes Go.ChangeAt Go.RowKit
set_option maxHeartbeats 1000000
set_option maxRecDepth 20000

/-- a table of the call's own: a slice of slices of bools -/
def TabV (w : World) (B : Nat) (v : Value) (L : List Value) : Prop := w.ownsRow B 45 1 v L.length L
/-- so many that do not hold -/
def rowV (g R c : Nat) : Value := .slice (some ⟨g, 0, none⟩) R c
theorem TabV.below {w w' : World} {B : Nat} {v : Value} {L : List Value} (h : TabV w B v L) (hb : Below w.heap.size w w') : TabV w' B v L := by
 obtain ⟨h1, h2 | ⟨g, cap, cur, h3, h4, h5, r⟩⟩ := h
 ·exact ⟨h1, .inl h2⟩
 ·exact ⟨h1, .inr ⟨g, cap, cur, h3, h4, (hb.block g (Array.getElem?_eq_some_iff.1 h5).1).trans h5, r⟩⟩
theorem RowB.heap {w : World} {g n c : Nat} {l : List Bool} (h : RowB w g n c l) : ∃ cur, w.heap[g]? = some (.cells cur 4 (0, 0)) := by
 obtain ⟨-, ⟨h5, -⟩ | ⟨g', cap, cur, h5, -, hh, -⟩⟩ := h
 ·simp at h5
 ·simp only [Value.slice.injEq, Option.some.injEq, Addr.mk.injEq] at h5
  rw [h5.1.1]
  exact ⟨cur, hh⟩
theorem TabV.heap {w : World} {B : Nat} {v : Value} {L : List Value} (h : TabV w B v L) {t : Nat} (ht : v.ownBlock = some t) : ∃ cur, w.heap[t]? = some (.cells cur 45 (0, 0)) := by
 obtain ⟨-, ⟨rfl, -⟩ | ⟨g, cap, cur, rfl, -, hh, -⟩⟩ := h
 ·simp [Value.ownBlock] at ht
 ·simp [Value.ownBlock] at ht; subst ht; exact ⟨cur, hh⟩
/-- a table is no row -/
theorem tab_ne_row {w : World} {B : Nat} {v : Value} {L : List Value} {g n c : Nat} {l : List Bool} (h : TabV w B v L) (hr : RowB w g n c l) : v.ownBlock ≠ some g := by
 intro e
 obtain ⟨c1, h1⟩ := h.heap e
 obtain ⟨c2, h2⟩ := hr.heap
 rw [h1] at h2
 simp at h2
theorem TabV.but {w w' : World} {B g : Nat} {v : Value} {L : List Value} (h : TabV w B v L) (hb : But g w w') (hg : v.ownBlock ≠ some g) : TabV w' B v L := by
 obtain ⟨h1, h2 | ⟨g', cap, cur, rfl, h4, h5, r⟩⟩ := h
 ·exact ⟨h1, .inl h2⟩
 ·exact ⟨h1, .inr ⟨g', cap, cur, rfl, h4, (hb.block g' (Array.getElem?_eq_some_iff.1 h5).1 (fun e => hg (by simp [Value.ownBlock, e]))).trans h5, r⟩⟩
theorem TabV.grown {w w' : World} {B : Nat} {v : Value} {L : List Value} {r : Option Nat} (h : TabV w B v L) (hb : w.grownBy w' r) (hg : v.ownBlock = none ∨ v.ownBlock ≠ r) : TabV w' B v L := World.ownsRow.kept h hb hg
theorem RowB.grown {w w' : World} {g n c : Nat} {l : List Bool} {r : Option Nat} (h : RowB w g n c l) (hb : w.grownBy w' r) (hg : r ≠ some g) : RowB w' g n c l :=
 World.ownsRow.kept h hb (.inr (fun e => hg (by rw [← e]; rfl)))
/-- how far the two makings have come -/
structure TwoSt (wr : World) (B : Nat) (vi vo : Value) (Ti To : List Value) (R : Nat) (w : World) (x24 x25 x26 x29 x30 : Value) (pa pb : Nat) : Prop where
 os : w.os = wr.os
 tape : w.tape = wr.tape
 output : w.output = wr.output
 size : wr.heap.size ≤ w.heap.size
 block : ∀ k, k < wr.heap.size → some k ≠ vi.ownBlock → some k ≠ vo.ownBlock → w.heap[k]? = wr.heap[k]?
 tabI : if pa < 3 then TabV w B vi Ti else TabV w B x26 (Ti ++ [x24])
 tabO : TabV w B vo To
 a1 : 1 ≤ pa → ∃ g, x24 = rowV g R R ∧ wr.heap.size ≤ g ∧ RowB w g R R (List.replicate R false)
 a2 : pa = 2 → ∃ h, x25 = .slice (some ⟨h, 0, none⟩) 1 1 ∧ wr.heap.size ≤ h ∧ w.cell? ⟨h, 0, none⟩ = some x24
 b1 : 1 ≤ pb → ∃ g, x29 = rowV g R R ∧ wr.heap.size ≤ g ∧ RowB w g R R (List.replicate R false)
 b2 : pb = 2 → ∃ h, x30 = .slice (some ⟨h, 0, none⟩) 1 1 ∧ wr.heap.size ≤ h ∧ w.cell? ⟨h, 0, none⟩ = some x29
 ne : 1 ≤ pa → 1 ≤ pb → x24 ≠ x29
 tI : ∀ t, vi.ownBlock = some t → t < wr.heap.size
 tO : ∀ t, vo.ownBlock = some t → t < wr.heap.size
theorem madeB (w : World) (R : Nat) (hR : R ≤ maxLen) : RowB (w.alloc (.cells (madeCells #[.bool false] R) 4)) w.heap.size R R (List.replicate R false) := by
 have hl : (madeCells #[Value.bool false] R).toList = (List.replicate R false).map Value.bool := by
  apply List.ext_getElem
  ·simp [madeCells]
  ·intro i h1 h2
   simp [madeCells, Nat.mod_one]
 refine ⟨by simp, .inr ⟨w.heap.size, R, _, by simp, Nat.zero_le _, heap_alloc_new w _, by simp, hR, by simp [madeCells], ?_⟩⟩
 rw [hl]
 simp [List.take_of_length_le]
section
variable {wr : World} {B : Nat} {vi vo : Value} {Ti To : List Value} {R : Nat} {w : World} {x24 x25 x26 x29 x30 : Value} {pa pb : Nat}
theorem TwoSt.grow (h : TwoSt wr B vi vo Ti To R w x24 x25 x26 x29 x30 pa pb) (o : Obj) : TwoSt wr B vi vo Ti To R (w.alloc o) x24 x25 x26 x29 x30 pa pb := by
 have hb := below_alloc w o
 refine ⟨h.os, h.tape, h.output, Nat.le_trans h.size hb.size, fun k hk h1 h2 => ?_, ?_, h.tabO.below hb, fun hp => ?_, fun hp => ?_, fun hp => ?_, fun hp => ?_, h.ne, h.tI, h.tO⟩
 ·rw [hb.block k (Nat.lt_of_lt_of_le hk h.size)]; exact h.block k hk h1 h2
 ·have := h.tabI
  split
  ·rename_i hp; rw [if_pos hp] at this; exact this.below hb
  ·rename_i hp; rw [if_neg hp] at this; exact this.below hb
 ·obtain ⟨g, e, hg, hr⟩ := h.a1 hp; exact ⟨g, e, hg, hr.below hb⟩
 ·obtain ⟨g, e, hg, hr⟩ := h.a2 hp; exact ⟨g, e, hg, Ext.alloc w o _ _ hr⟩
 ·obtain ⟨g, e, hg, hr⟩ := h.b1 hp; exact ⟨g, e, hg, hr.below hb⟩
 ·obtain ⟨g, e, hg, hr⟩ := h.b2 hp; exact ⟨g, e, hg, Ext.alloc w o _ _ hr⟩
theorem TwoSt.start (hI : TabV wr B vi Ti) (hO : TabV wr B vo To) (y24 y25 y26 y29 y30 : Value) : TwoSt wr B vi vo Ti To R wr.drew y24 y25 y26 y29 y30 0 0 :=
 ⟨rfl, rfl, rfl, Nat.le_refl _, fun _ _ _ _ => rfl, by rw [if_pos (by decide)]; exact hI, hO, fun h => by omega, fun h => by omega, fun h => by omega, fun h => by omega, fun h => by omega,
   fun t ht => (Array.getElem?_eq_some_iff.1 (hI.heap ht).choose_spec).1, fun t ht => (Array.getElem?_eq_some_iff.1 (hO.heap ht).choose_spec).1⟩
/-- what has come of it -/
structure TwoEnd (wr : World) (B : Nat) (vi vo : Value) (Ti To : List Value) (R : Nat) (w : World) (vi' vo' : Value) (gA gB : Nat) : Prop where
 os : w.os = wr.os
 tape : w.tape = wr.tape
 output : w.output = wr.output
 size : wr.heap.size ≤ w.heap.size
 block : ∀ k, k < wr.heap.size → some k ≠ vi.ownBlock → some k ≠ vo.ownBlock → w.heap[k]? = wr.heap[k]?
 tabI : TabV w B vi' (Ti ++ [rowV gA R R])
 tabO : TabV w B vo' (To ++ [rowV gB R R])
 rowA : RowB w gA R R (List.replicate R false)
 rowB : RowB w gB R R (List.replicate R false)
 geA : wr.heap.size ≤ gA
 geB : wr.heap.size ≤ gB
 ne : gA ≠ gB
end
end Go.Proofs.Ytkhfddodmjnecaa
