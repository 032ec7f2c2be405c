/-
 Contracts of the reference's functions of flow that look at blocks: Outs, leads, Preds, has, within.; Contracts of the reference's functions of flow: has, within, leads, Preds.; The contract of the reference's within: what comes first in a block from a place on.; Contracts of the functions of flow that mark registers in a list of bools of the call's own.; Contracts of flow's before and join, and of slices.Clone at bools.
-/
import Derived.Test.YtchoiankeohonaaGreatDoorZInlineAll25
import Derived.Test.YtchoiankeohonaaGreatDoorZInlineAll04
import Derived.WalkSpells

set_option linter.all false
namespace Go.Proofs.YtchoiankeohonaaGreatDoor
open Go.ChangeShapes Go.WideShapes Go.ChangeAt Go.RowKit
set_option maxHeartbeats 1000000
set_option maxRecDepth 20000

theorem Own.drewN {w0 w : World} {B : Nat} {v : Value} {l : List Int} (h : Own w0 B w v l) (n : Nat) : Own w0 B (w.drewN n) v l :=
 ⟨h.own, ⟨h.below.os, h.below.tape, h.below.output, h.below.size, h.below.block⟩, h.le⟩
end Go.Proofs.YtchoiankeohonaaGreatDoor

set_option linter.all false
namespace Go.Proofs.YtchoiankeohonaaGreatDoor
open Go.ChangeShapes Go.WideShapes Go.ChangeAt Go.RowKit
set_option maxHeartbeats 1000000
set_option maxRecDepth 20000

/-- is a number in a list? -/
def hasL (l : List Int) (r : Int) : Bool := l.contains r
theorem OwnI.below {w w' : World} {B : Nat} {v : Value} {l : List Int} (h : OwnI w B v l) (hb : Below w.heap.size w w') : OwnI w' B v l := by
 obtain ⟨h1, h2 | ⟨g, cap, cur, h3, h4, h5, r⟩⟩ := h
 ·exact ⟨h1, .inl h2⟩
 ·exact ⟨h1, .inr ⟨g, cap, cur, h3, h4, (hb.block g (Array.getElem?_eq_some_iff.1 h5).1).trans h5, r⟩⟩
end Go.Proofs.YtchoiankeohonaaGreatDoor

set_option linter.all false
namespace Go.Proofs.YtchoiankeohonaaGreatDoor
open Go.ChangeShapes Go.WideShapes Go.ChangeAt Go.RowKit
set_option maxHeartbeats 1000000
set_option maxRecDepth 20000

/-- what comes first among instructions: 1: the register is read; 2: it is set; 0: neither -/
def withinI (r : Int) : List In → Int
 | [] => 0
 | i :: l => if hasL (usesI i) r = true then 1 else if defI i = r then 2 else withinI r l
def endReads (b : Bk) (r : Int) : Bool := (b.fin == 2 || b.fin == 3) && b.a == r
def withinB (b : Bk) (k : Nat) (r : Int) : Int := if withinI r (b.ins.drop k) = 0 then (if endReads b r = true then 1 else 0) else withinI r (b.ins.drop k)
theorem drop_cons (l : List In) (k : Nat) (h : k < l.length) : l.drop k = l.getD k default :: l.drop (k + 1) := by
 rw [List.drop_eq_getElem_cons h]; simp [List.getD, h]
theorem withinI_1 (r : Int) (l : List In) (k : Nat) (h : k < l.length) (h1 : hasL (usesI (l.getD k default)) r = true) : withinI r (l.drop k) = 1 := by
 rw [drop_cons l k h]; unfold withinI; rw [if_pos h1]
theorem withinI_3 (r : Int) (l : List In) (k : Nat) (h : k < l.length) (h1 : hasL (usesI (l.getD k default)) r = false) (h2 : ¬ defI (l.getD k default) = r) : withinI r (l.drop k) = withinI r (l.drop (k + 1)) := by
 rw [drop_cons l k h]; conv => lhs; unfold withinI
 rw [if_neg (by rw [h1]; exact Bool.false_ne_true), if_neg h2]
end Go.Proofs.YtchoiankeohonaaGreatDoor

set_option linter.all false
namespace Go.Proofs.YtchoiankeohonaaGreatDoor
open Go.ChangeShapes Go.WideShapes Go.ChangeAt Go.RowKit
set_option maxHeartbeats 1000000
set_option maxRecDepth 20000

/-- a list of bools in a row of the call's own -/
def OwnB (w : World) (base : Nat) (v : Value) (l : List Bool) : Prop := w.ownsRow base 4 1 v l.length (l.map Value.bool)
theorem OwnB.rd {w : World} {base : Nat} {v : Value} {l : List Bool} (h : OwnB w base v l) : RdB w v l := by
 obtain ⟨h1, ⟨rfl, h2⟩ | ⟨g, cap, cur, rfl, hb, hg, hn, hc, hcs, ht⟩⟩ := h
 ·have : l = [] := List.eq_nil_of_length_eq_zero h2
  subst this
  exact ⟨none, 0, rfl, Nat.le_refl _, by simp [maxLen], fun i hi => absurd hi (by simp)⟩
 ·refine ⟨_, _, rfl, hn, hc, fun i hi => ⟨g, 0, rfl, ?_⟩⟩
  have h3 : (l.map Value.bool)[i]? = some (.bool (l.getD i false)) := by
   rw [List.getElem?_map, List.getElem?_eq_getElem hi]; simp [List.getD, hi]
  rw [← ht, List.getElem?_take] at h3
  split at h3
  ·simp only [Nat.zero_add, Nat.mul_one, Nat.add_zero]
   rw [World.cell?]
   simp only [hg]
   simpa using h3
  ·cases h3
theorem OwnB.cellAt {w : World} {B g n c : Nat} {l : List Bool} (h : OwnB w B (.slice (some ⟨g, 0, none⟩) n c) l) : n = l.length ∧ n ≤ c ∧ c ≤ maxLen ∧ B ≤ g ∧ (∀ i, i < n → w.cell? ⟨g, i, none⟩ = some (.bool (l.getD i false))) ∧ (∀ i, w.frozen? ⟨g, i, none⟩ = false) ∧ g < w.heap.size := by
 obtain ⟨ad, cp, h1, h2, h3, h4⟩ := h.rd
 simp only [Value.slice.injEq] at h1
 obtain ⟨rfl, rfl, rfl⟩ := h1
 have hf := World.ownsRow.frozenAt h
 obtain ⟨_, ⟨h5, _⟩ | ⟨g', cap, cur, h5, hb, hh, _⟩⟩ := h
 ·simp at h5
 ·simp only [Value.slice.injEq, Option.some.injEq, Addr.mk.injEq] at h5
  refine ⟨rfl, h2, h3, by omega, fun i hi => ?_, hf, ?_⟩
  ·obtain ⟨b, o, e, hc⟩ := h4 i hi
   simp only [Option.some.injEq, Addr.mk.injEq] at e
   obtain ⟨rfl, rfl, _⟩ := e
   simpa using hc
  ·have := (Array.getElem?_eq_some_iff.1 hh).1
   omega
theorem OwnB.set {w : World} {B g n c : Nat} {l : List Bool} (h : OwnB w B (.slice (some ⟨g, 0, none⟩) n c) l) (i : Nat) (x : Bool) : OwnB (w.setCell ⟨g, i, none⟩ (.bool x)) B (.slice (some ⟨g, 0, none⟩) n c) (l.set i x) := by
 obtain ⟨rfl, _⟩ := h.cellAt
 have := (World.ownsRow.stored h i (.bool x)).1
 unfold OwnB
 rw [List.length_set, List.map_set]
 exact this
/-- the world but for one block, and new ones -/
structure But (g : Nat) (w w' : World) : Prop where
 os : w'.os = w.os
 tape : w'.tape = w.tape
 output : w'.output = w.output
 size : w.heap.size ≤ w'.heap.size
 block : ∀ k, k < w.heap.size → k ≠ g → w'.heap[k]? = w.heap[k]?
theorem But.refl (g : Nat) (w : World) : But g w w := ⟨rfl, rfl, rfl, Nat.le_refl _, fun _ _ _ => rfl⟩
theorem But.trans {g : Nat} {a b c : World} (h : But g a b) (k : But g b c) : But g a c :=
 ⟨k.os.trans h.os, k.tape.trans h.tape, k.output.trans h.output, Nat.le_trans h.size k.size, fun i hi hg => (k.block i (Nat.lt_of_lt_of_le hi h.size) hg).trans (h.block i hi hg)⟩
theorem But.below {g : Nat} {w w' : World} (h : Below w.heap.size w w') : But g w w' := ⟨h.os, h.tape, h.output, h.size, fun k hk _ => h.block k hk⟩
theorem But.setCell (g i : Nat) (w : World) (x : Value) : But g w (w.setCell ⟨g, i, none⟩ x) :=
 ⟨rfl, rfl, rfl, by simp [World.setCell], fun k _ hk => Below.heap_setCell w ⟨g, i, none⟩ x k hk⟩
theorem But.toBelow {g B : Nat} {w w' : World} (h : But g w w') (hg : B ≤ g) (hB : B ≤ w.heap.size) : Below B w w' := ⟨h.os, h.tape, h.output, h.size, fun k hk => h.block k (by omega) (by omega)⟩
theorem But.cell {g : Nat} {w w' : World} (h : But g w w') {b o : Nat} (hb : b < w.heap.size) (hg : b ≠ g) : w'.cell? ⟨b, o, none⟩ = w.cell? ⟨b, o, none⟩ := World.cell?_of_block (w := w) (a := ⟨b, o, none⟩) (h.block b hb hg)
/-- what is read, but for the one block -/
def ExtB (g : Nat) (w w' : World) : Prop := ∀ a v, a.block ≠ g → w.cell? a = some v → w'.cell? a = some v
theorem But.ext {g : Nat} {w w' : World} (h : But g w w') : ExtB g w w' := fun a _ hg hv => (World.cell?_of_block (w := w) (h.block a.block (World.block_lt_of_cell? w a hv) hg)).trans hv
theorem OwnB.below {w w' : World} {B : Nat} {v : Value} {l : List Bool} (h : OwnB w B v l) (hb : Below w.heap.size w w') : OwnB w' B v l := by
 obtain ⟨h1, h2 | ⟨g, cap, cur, h3, h4, h5, r⟩⟩ := h
 ·exact ⟨h1, .inl h2⟩
 ·exact ⟨h1, .inr ⟨g, cap, cur, h3, h4, (hb.block g (Array.getElem?_eq_some_iff.1 h5).1).trans h5, r⟩⟩
theorem OwnB.but {w w' : World} {B g g0 n c : Nat} {l : List Bool} (h : OwnB w B (.slice (some ⟨g0, 0, none⟩) n c) l) (hb : But g w w') (hg : g0 ≠ g) : OwnB w' B (.slice (some ⟨g0, 0, none⟩) n c) l := by
 obtain ⟨h1, h2 | ⟨g', cap, cur, h3, h4, h5, r⟩⟩ := h
 ·exact ⟨h1, .inl h2⟩
 ·simp only [Value.slice.injEq, Option.some.injEq, Addr.mk.injEq] at h3
  refine ⟨h1, .inr ⟨g', cap, cur, by simp only [h3], h4, (hb.block g' (Array.getElem?_eq_some_iff.1 h5).1 (by omega)).trans h5, r⟩⟩

/-- marked, if there is such a one -/
def setB (l : List Bool) (r : Int) (is : Bool) : List Bool := if 0 ≤ r ∧ r < l.length then l.set r.toNat is else l
theorem setB_len (l : List Bool) (r : Int) (is : Bool) : (setB l r is).length = l.length := by unfold setB; split <;> simp
/-- a list of bools at a block of its own -/
def RowB (w : World) (g n c : Nat) (l : List Bool) : Prop := OwnB w 0 (.slice (some ⟨g, 0, none⟩) n c) l
theorem RowB.below {w w' : World} {g n c : Nat} {l : List Bool} (h : RowB w g n c l) (hb : Below w.heap.size w w') : RowB w' g n c l := OwnB.below h hb
theorem mark_c (g n c : Nat) (l : List Bool) (r : Int) (is : Bool) (w : World) (h : RowB w g n c l) :
  Calls Tryz.prog 90 #[.slice (some ⟨g, 0, none⟩) n c, .int .i64 r, .bool is] w fun e w' => e = .returned (.tuple #[]) ∧ RowB w' g n c (setB l r is) ∧ But g w w' := by
 obtain ⟨rfl, hnc, hcm, -, hcells, hfr, hlt⟩ := h.cellAt
 unfold maxLen at hcm
 by_cases h0 : 0 ≤ r
 ·by_cases h1 : r < (l.length : Int)
  ·obtain ⟨k, rfl⟩ := Int.eq_ofNat_of_zero_le h0
   have hk : k < l.length := by omega
   have H : Hid (setB l k is = l.set k is) := by show _ = _; unfold setB; rw [if_pos ⟨h0, h1⟩]; rfl
   have hck := hcells k hk
   generalize l.getD k false = y at hck
   have hfk := hfr k
   have HR := Lib.hid (OwnB.set h k is)
   clear hcells hfr h
   go_enter Tryz.func90, Tryz.ntmps90
   go_wp2
   go_end0
   exact ⟨rfl, by rw [H.out]; exact HR.out, But.setCell _ _ _ _⟩
  ·have h1' : decide (r < (l.length : Int)) = false := by simpa using h1
   have H : Hid (setB l r is = l) := by show _ = _; unfold setB; rw [if_neg (by omega)]
   have HR := Lib.hid h
   clear hcells hfr h
   go_enter Tryz.func90, Tryz.ntmps90
   go_wp2
   go_end0
   exact ⟨rfl, by rw [H.out]; exact HR.out, But.refl _ _⟩
 ·have h0' : decide (0 ≤ r) = false := by simpa using h0
  have H : Hid (setB l r is = l) := by show _ = _; unfold setB; rw [if_neg (by omega)]
  have HR := Lib.hid h
  clear hcells hfr h
  go_enter Tryz.func90, Tryz.ntmps90
  go_wp2
  go_end0
  exact ⟨rfl, by rw [H.out]; exact HR.out, But.refl _ _⟩
/-- what a block's end reads, marked -/
def endedB (l : List Bool) (b : Bk) : List Bool := if b.fin = 2 ∨ b.fin = 3 then setB l b.a true else l
theorem ended_c (g n c : Nat) (l : List Bool) (b : Bk) (V : Value) (w : World) (h : RowB w g n c l) (hv : BkV w V b) :
  Calls Tryz.prog 70 #[.slice (some ⟨g, 0, none⟩) n c, V] w fun e w' => e = .returned (.tuple #[]) ∧ RowB w' g n c (endedB l b) ∧ But g w w' := by
 obtain ⟨vi, rfl, -⟩ := hv
 have hg : g < w.heap.size := h.cellAt.2.2.2.2.2.2
 have HB : Hid (∀ o, RowB (w.alloc o) g n c l) := fun o => h.below (below_alloc w o)
 have EM : Hid (∀ o, Calls Tryz.prog 90 #[.slice (some ⟨g, 0, none⟩) n c, .int .i64 b.a, .bool true] (w.alloc o) fun e w' => e = .returned (.tuple #[]) ∧ RowB w' g n c (setB l b.a true) ∧ But g (w.alloc o) w') := fun o => mark_c g n c l b.a true _ (HB o)
 have E1 : b.fin = 2 ∨ b.fin = 3 → endedB l b = setB l b.a true := fun h => by unfold endedB; rw [if_pos h]
 have E2 : ¬ (b.fin = 2 ∨ b.fin = 3) → endedB l b = l := fun h => by unfold endedB; rw [if_neg h]
 by_cases hf : b.fin = 2 ∨ b.fin = 3
 ·have H := Lib.hid (E1 hf)
  clear E1 E2 h
  rcases hf with hf | hf
  ·go_enter Tryz.func70, Tryz.ntmps70
   go_wp2_with (go_at_call 90; refine (EM.out _).mono ?_; rintro e w1 ⟨rfl, hr, hb⟩; have HR := Lib.hid hr; clear hr)
   go_end0
   exact ⟨rfl, by rw [H.out]; exact HR.out, (But.below (below_alloc w _)).trans hb⟩
  ·have hf2 : (b.fin == 2) = false := beq_eq_false_iff_ne.2 (by omega)
   go_enter Tryz.func70, Tryz.ntmps70
   go_wp2_with (go_at_call 90; refine (EM.out _).mono ?_; rintro e w1 ⟨rfl, hr, hb⟩; have HR := Lib.hid hr; clear hr)
   go_end0
   exact ⟨rfl, by rw [H.out]; exact HR.out, (But.below (below_alloc w _)).trans hb⟩
 ·have H := Lib.hid (E2 hf)
  have hf2 : (b.fin == 2) = false := beq_eq_false_iff_ne.2 (by omega)
  have hf3 : (b.fin == 3) = false := beq_eq_false_iff_ne.2 (by omega)
  clear E1 E2 h hf
  go_enter Tryz.func70, Tryz.ntmps70
  go_wp2
  go_end0
  exact ⟨rfl, by rw [H.out]; exact HB.out _, But.below (below_alloc w _)⟩
end Go.Proofs.YtchoiankeohonaaGreatDoor

set_option linter.all false
namespace Go.Proofs.YtchoiankeohonaaGreatDoor
open Go.ChangeShapes Go.WideShapes Go.ChangeAt Go.RowKit
set_option maxHeartbeats 1000000
set_option maxRecDepth 20000

def marksB (l : List Bool) (rs : List Int) : List Bool := rs.foldl (fun l r => setB l r true) l
/-- what is live ahead of an instruction -/
def beforeB (l : List Bool) (i : In) : List Bool := marksB (setB l (defI i) false) (usesI i)
theorem marksB_succ (l : List Bool) (rs : List Int) (k : Nat) (h : k < rs.length) : marksB l (rs.take (k + 1)) = setB (marksB l (rs.take k)) (rs.getD k 0) true := by
 unfold marksB; rw [take_snoc rs k h, List.foldl_append]; rfl
theorem marksB_len (l : List Bool) (rs : List Int) : (marksB l rs).length = l.length := by
 unfold marksB
 induction rs generalizing l with
 | nil => rfl
 | cons r rs ih => rw [List.foldl_cons, ih, setB_len]
theorem beforeB_len (l : List Bool) (i : In) : (beforeB l i).length = l.length := by unfold beforeB; rw [marksB_len, setB_len]
theorem before_c (W0 : World) (g n c : Nat) (l : List Bool) (I : In) (V : Value) (w : World) (hW : Below W0.heap.size W0 w) (hgW : W0.heap.size ≤ g) (h : RowB w g n c l) (hv : InV W0 V I) (ha : I.args.length ≤ 1000) :
  Calls Tryz.prog 74 #[.slice (some ⟨g, 0, none⟩) n c, V] w fun e w' => e = .returned (.tuple #[]) ∧ RowB w' g n c (beforeB l I) ∧ But g w w' := by
 have hgs : g < w.heap.size := h.cellAt.2.2.2.2.2.2
 have hul : (usesI I).length ≤ 1000000 := by
  unfold usesI
  have := List.length_filter_le (· != -1) I.args
  simp only [List.length_append]
  split <;> split <;> split <;> simp <;> omega
 have ED : Hid (∀ w', Below W0.heap.size W0 w' → Calls Tryz.prog 94 #[V] w' fun e w'' => e = .returned (.int .i64 (defI I)) ∧ Below w'.heap.size w' w'') := fun w' he => def_c I V w' (hv.ext (Ext.below he))
 have EU : Hid (∀ w', Below W0.heap.size W0 w' → Calls Tryz.prog 95 #[V] w' (RetI w' (usesI I))) := fun w' he => uses_c I V w' (hv.ext (Ext.below he)) ha
 have HR := Lib.hid h
 have HW := Lib.hid hW
 have hWs := hW.size
 obtain ⟨va, rfl, -⟩ := hv
 clear h hW
 go_enter Tryz.func74, Tryz.ntmps74
 go_wp2_with fail
 refine (ED.out _ (HW.out.alloc hWs _)).mono ?_
 rintro e w1 ⟨rfl, hb1⟩
 have hz1 := hb1.size
 simp at hz1
 have hz1' : w.heap.size < w1.heap.size := by omega
 obtain ⟨hc1, -⟩ := bcell' hb1
 have HR1 : Hid (RowB w1 g n c l) := ((HR.out.below (below_alloc w _)).below hb1)
 have HB1 : Hid (Below w.heap.size w w1) := (below_alloc w _).trans (hb1.mono (by simp))
 go_wp2_with fail
 refine (mark_c g n c l (defI I) false w1 HR1.out).mono ?_
 rintro e w2 ⟨rfl, hr2, hb2⟩
 have HR2 := Lib.hid hr2
 have hc2 : ∀ o, w2.cell? ⟨w.heap.size, o, none⟩ = w1.cell? ⟨w.heap.size, o, none⟩ := fun o => hb2.cell hz1' (by omega)
 have hz2 := hb2.size
 clear hr2
 have EU2 : Hid (Calls Tryz.prog 95 #[.agg #[.int .i64 I.op, .int .i64 I.d, .int .i64 I.a, .int .i64 I.b, .int .i64 I.fn, .int .i64 I.obj, .int .i64 I.off, .int .i64 I.size, .int .u32 I.num, va, .bool I.log]] w2 (RetI w2 (usesI I))) :=
  EU.out w2 (HW.out.trans ((HB1.out.mono hWs).trans (hb2.toBelow hgW (by omega))))
 go_wp2_with fail
 refine EU2.out.mono ?_
 rintro e w3 ⟨v3, rfl, ho, hb3⟩
 obtain ⟨ad, cp, rfl, hl1, hl2, hcell⟩ := ho.rd
 have hown := ho
 have hz3 := hb3.size
 have HR3 : Hid (RowB w3 g n c (setB l (defI I) false)) := HR2.out.below hb3
 have HC : Hid (∀ i, i < (usesI I).length → ∃ b o, ad = some ⟨b, o, none⟩ ∧ b ≠ g ∧ w3.cell? ⟨b, o + i, none⟩ = some (.int .i64 ((usesI I).getD i 0))) := fun i hi => by
  obtain ⟨b, o, e, hc⟩ := hcell i hi
  refine ⟨b, o, e, ?_, by simpa using hc⟩
  subst e
  obtain ⟨-, ⟨h5, -⟩ | ⟨g', cap, cur, h5, hb, -⟩⟩ := hown
  ·simp at h5
  ·simp only [Value.slice.injEq, Option.some.injEq, Addr.mk.injEq] at h5
   omega
 have HB3 : Hid (But g w w3) := ((But.below HB1.out).trans hb2).trans (But.below hb3)
 clear hcell hown ho hc1 hc2 hb1 hb2 hb3
 have HZ : Hid (beforeB l I = marksB (setB l (defI I) false) (usesI I)) := rfl
 generalize usesI I = L at *
 generalize setB l (defI I) false = l0 at *
 go_wp2_with fail
 go_loopw [13] (fun i wr => ∃ k : Nat, k ≤ L.length ∧ i = .int .i64 k ∧ Hid (RowB wr g n c (marksB l0 (L.take k))) ∧ Hid (But g w3 wr)) (fun i _ => L.length - (intOf i).toNat)
 case atStart => exact ⟨0, Nat.zero_le _, rfl, HR3, But.refl _ _⟩
 case round =>
  obtain ⟨k, hk, rfl, hR, hB⟩ := hrel
  by_cases hlt : k < L.length
  ·obtain ⟨b, o, rfl, hbg, hcx⟩ := HC.out k hlt
   have hc' := hB.out.ext _ _ hbg hcx
   have HM := marksB_succ l0 L k hlt
   generalize L.getD k 0 = x at *
   have HM := Lib.hid HM
   clear hcx hbg
   go_wp2_with (go_at_call 90; refine (mark_c g n c _ x true wr hR.out).mono ?_; rintro e w4 ⟨rfl, hr4, hb4⟩; have HR4 := Lib.hid hr4; clear hr4)
   go_roundw
   case rel => exact ⟨k + 1, by omega, by go_num, by rw [HM.out]; exact HR4, hB.out.trans hb4⟩
   case measure => simp [intOf]; omega
  ·go_wp2
   go_end0
   refine ⟨rfl, ?_, HB3.out.trans hB.out⟩
   rw [HZ.out]
   have := hR.out
   rwa [List.take_of_length_le (by omega)] at this

/-- joined so far -/
def orB (lt lf : List Bool) (k : Nat) : List Bool := (List.range lt.length).map fun i => lt.getD i false || (decide (i < k) && lf.getD i false)
def grewB (lt lf : List Bool) (k : Nat) : Bool := (List.range k).any fun i => lf.getD i false && !lt.getD i false
def joinB (lt lf : List Bool) : List Bool := orB lt lf lt.length
theorem orB_len (lt lf : List Bool) (k : Nat) : (orB lt lf k).length = lt.length := by simp [orB]
theorem orB_get (lt lf : List Bool) (k i : Nat) (h : i < lt.length) : (orB lt lf k).getD i false = (lt.getD i false || (decide (i < k) && lf.getD i false)) := by
 simp [orB, List.getD, h]
theorem list_ext (a b : List Bool) (hl : a.length = b.length) (h : ∀ i, i < a.length → a.getD i false = b.getD i false) : a = b := by
 apply List.ext_getElem hl
 intro i h1 h2
 have := h i h1
 simpa [List.getD, h1, h2] using this
theorem orB_0 (lt lf : List Bool) : orB lt lf 0 = lt := list_ext _ _ (orB_len _ _ _) fun i hi => by rw [orB_len] at hi; rw [orB_get _ _ _ _ hi]; simp
theorem orB_yes (lt lf : List Bool) (k : Nat) (h : k < lt.length) (h1 : lf.getD k false = true) : orB lt lf (k + 1) = (orB lt lf k).set k true := by
 refine list_ext _ _ (by simp [orB_len]) fun i hi => ?_
 rw [orB_len] at hi
 rw [orB_get _ _ _ _ hi]
 by_cases e : i = k
 ·subst e; rw [h1]; simp [List.getD, orB_len, hi]
 ·have : ((orB lt lf k).set k true).getD i false = (orB lt lf k).getD i false := by simp [List.getD, List.getElem?_set, Ne.symm e]
  rw [this, orB_get _ _ _ _ hi]
  congr 2
  simp; omega
theorem orB_no (lt lf : List Bool) (k : Nat) (h : k < lt.length) (h1 : lf.getD k false = false ∨ lt.getD k false = true) : orB lt lf (k + 1) = orB lt lf k := by
 refine list_ext _ _ (by simp [orB_len]) fun i hi => ?_
 rw [orB_len] at hi
 rw [orB_get _ _ _ _ hi, orB_get _ _ _ _ hi]
 by_cases e : i = k
 ·subst e; rcases h1 with h1 | h1 <;> rw [h1] <;> simp
 ·congr 2
  simp; omega
theorem grewB_succ (lt lf : List Bool) (k : Nat) : grewB lt lf (k + 1) = (grewB lt lf k || (lf.getD k false && !lt.getD k false)) := by
 unfold grewB; rw [List.range_succ, List.any_append]; simp
theorem join_c (g g2 n c c2 : Nat) (lt lf : List Bool) (w : World) (h : RowB w g n c lt) (h2 : RowB w g2 n c2 lf) (hg : g2 ≠ g) :
  Calls Tryz.prog 72 #[.slice (some ⟨g, 0, none⟩) n c, .slice (some ⟨g2, 0, none⟩) n c2] w fun e w' => e = .returned (.bool (grewB lt lf lt.length)) ∧ RowB w' g n c (joinB lt lf) ∧ But g w w' := by
 obtain ⟨hn, hnc, hcm, -, -, -, -⟩ := h.cellAt
 obtain ⟨hn2, -, -, -, hcells2, -, hlt2⟩ := h2.cellAt
 unfold maxLen at hcm
 subst hn
 have HC2 := Lib.hid hcells2
 have HN := Lib.hid hn2
 have HH := Lib.hid h
 clear hcells2 hn2 h h2
 go_enter Tryz.func72, Tryz.ntmps72
 go_wp2
 go_loopw [5, 10] (fun gr i wr => ∃ k : Nat, k ≤ lt.length ∧ i = .int .i64 k ∧ gr = .bool (grewB lt lf k) ∧ Hid (RowB wr g lt.length c (orB lt lf k)) ∧ Hid (But g w wr)) (fun _ i _ => lt.length - (intOf i).toNat)
 case atStart => exact ⟨0, Nat.zero_le _, rfl, rfl, by rw [orB_0]; exact HH, But.refl _ _⟩
 case round =>
  obtain ⟨k, hk, rfl, rfl, hR, hB⟩ := hrel
  by_cases hlt : k < lt.length
  ·have hx := (hB.out.cell (b := g2) (o := k) hlt2 hg).trans (HC2.out k hlt)
   obtain ⟨-, -, -, -, hcells, hfr, -⟩ := OwnB.cellAt hR.out
   have hy := hcells k hlt
   rw [orB_get _ _ _ _ hlt] at hy
   simp only [Nat.lt_irrefl, decide_false, Bool.false_and, Bool.or_false] at hy
   have hfk := hfr k
   have GS := grewB_succ lt lf k
   have OY := orB_yes lt lf k hlt
   have ON := orB_no lt lf k hlt
   have HS := Lib.hid (OwnB.set hR.out k true)
   clear hcells hfr
   generalize lf.getD k false = x at *
   generalize lt.getD k false = y at *
   cases x
   ·have HG : Hid (grewB lt lf (k + 1) = grewB lt lf k) := by show _ = _; rw [GS]; simp
    have HO := Lib.hid (ON (.inl rfl))
    clear GS OY ON
    go_wp2
    go_roundw
    case rel => exact ⟨k + 1, by omega, by go_num, by rw [HG.out], by rw [HO.out]; exact hR, hB⟩
    case measure => simp [intOf]; omega
   ·cases y
    ·have HG : Hid (grewB lt lf (k + 1) = true) := by show _ = _; rw [GS]; simp
     have HO := Lib.hid (OY rfl)
     clear GS OY ON
     go_wp2
     go_roundw
     case rel => exact ⟨k + 1, by omega, by go_num, by rw [HG.out], by rw [HO.out]; exact HS, hB.out.trans (But.setCell _ _ _ _)⟩
     case measure => simp [intOf]; omega
    ·have HG : Hid (grewB lt lf (k + 1) = grewB lt lf k) := by show _ = _; rw [GS]; simp
     have HO := Lib.hid (ON (.inr rfl))
     clear GS OY ON
     go_wp2
     go_roundw
     case rel => exact ⟨k + 1, by omega, by go_num, by rw [HG.out], by rw [HO.out]; exact hR, hB⟩
     case measure => simp [intOf]; omega
  ·obtain rfl : k = lt.length := by omega
   go_wp2
   go_ret
   exact ⟨rfl, hR.out, hB.out⟩

theorem info_bool : (Tryz.prog.info? 4).map (fun i => (i.zero, i.size, i.bytes)) = some (some (.bool false), 1, 1) := by kernel_rfl
theorem clone_c (g n c : Nat) (l : List Bool) (w : World) (h : RowB w g n c l) (hn : l.length ≤ 1000000) :
  Calls Tryz.prog 73 #[.slice (some ⟨g, 0, none⟩) n c] w fun e w' => ∃ g' c', e = .returned (.slice (some ⟨g', 0, none⟩) n c') ∧ w.heap.size ≤ g' ∧ RowB w' g' n c' l ∧ Below w.heap.size w w' := by
 obtain ⟨rfl, -, -, -, hcells, -, hlt⟩ := h.cellAt
 have hnil := fun w => Lib.run_eql_slice_nil (P := Tryz.prog) w 113 4 (some ⟨g, 0, none⟩) l.length c 0 0 Tryz.underlying113
 obtain ⟨i0, hi, hz0, hz1, hz2⟩ := info_parts info_bool
 have HC : Hid (∀ j u, (l.map Value.bool)[j]? = some u → (w.alloc (.cells #[] 4)).cell? ((⟨g, 0, none⟩ : Addr).add j) = some u) := fun j u hj => by
  have hjl : j < l.length := by have := (List.getElem?_eq_some_iff.1 hj).1; simpa using this
  rw [add_plain, Nat.zero_add]
  refine (Ext.alloc w _ _ _ (hcells j hjl)).trans ?_
  rw [← hj]; simp [List.getD, hjl]
 clear hcells h
 go_enter Tryz.func73, Tryz.ntmps73
 go_wp2_with (at_builtin; refine wpList_append_own _ rfl _ _ 113 rfl w.heap.size 4 i0 (.bool false) 1 1 Tryz.underlying113 hi hz0 hz1 hz2 rfl (by decide) (.slice (some ⟨w.heap.size, 0, none⟩) 0 0) 0 [] rfl (World.ownsRow_made w #[] 0 (Nat.le_refl _) (by simp) (by simp)) ⟨g, 0, none⟩ l.length c (l.map Value.bool) rfl (by simp) HC.out (by intro u hu; obtain ⟨b, _, rfl⟩ := List.mem_map.1 hu; rfl) (by unfold maxLen; omega) (by omega) (by simp) ?_; intro v' w1 hown hgrow hnn)
 go_ret
 simp only [Nat.zero_add, List.nil_append] at hown
 obtain ⟨h1, ⟨h2, -⟩ | ⟨g', cap, cur, rfl, hb, r⟩⟩ := hown
 ·exact absurd (hnn.1 h2).1 (by simp)
 ·refine ⟨g', cap, rfl, hb, ⟨h1, .inr ⟨g', cap, cur, rfl, Nat.zero_le _, r⟩⟩, ?_⟩
  exact (below_alloc w _).grown hgrow (by simp) fun k hk => by simp [Value.ownBlock] at hk; omega
end Go.Proofs.YtchoiankeohonaaGreatDoor
