/-
 Contracts of the reference's table of operations, and of what it tells of one instruction and one block.; Contracts of the reference's functions that tell of one instruction and one block.; Regions that draw their order, at the class of worlds that extend one world: whatever calls make new memory in between, each operation yields the same value.; Contracts: the reference's list of registers that are read; a predicate over blocks; slices.IndexFunc and slices.DeleteFunc.; The cells of an own row of numbers.; Contracts: slices.DeleteFunc over the blocks that there are, and the blocks to which a block leads.
-/
import Derived.Test.YtkhfddodmjnecaaGreatDoorZFoldKnown00
import Derived.BigQuiet
import Derived.Below
import Derived.WalkKit
import Derived.Laws.OwnMore
import Derived.Lib.SliceRun

set_option linter.all false
namespace Go.Proofs.YtkhfddodmjnecaaGreatDoor
open Go.ChangeShapes Go.WideShapes Go.ChangeAt Go.RowKit
set_option maxHeartbeats 400000
set_option maxRecDepth 20000

def fldT : List (List Bool) := [[], [true, false, false, false, false, false, false, true, false, true], [true, true, false, false, false, false, false, false, false, true], [true, true, true, true, false, false, false, false, false, true], [true, true, false, true, false, false, false, false, false, true], [true, true, false, false, false, true, true, false, false, true], [false, true, true, false, false, true, true, false, false, true], [true, false, false, false, true, true, false, false, false, true], [true, false, false, false, true, true, false, false, false, true], [true, false, false, false, true, false, false, false, true, true], [false, true, false, false, false, false, false, false, false, false], [true, false, false, false, false, false, false, false, false, true], [false, false, false, false, false, false, false, false, false, false]]
/-- which fields an operation has -/
def fld (op : Int) (k : Nat) : Bool := (fldT.getD op.toNat []).getD k false
/-- the row of an operation in memory -/
structure FldAt (w : World) (op : Int) (g : Nat) : Prop where
 c0 : w.cell? ⟨g, 0, none⟩ = some (.bool (fld op 0))
 c1 : w.cell? ⟨g, 1, none⟩ = some (.bool (fld op 1))
 c2 : w.cell? ⟨g, 2, none⟩ = some (.bool (fld op 2))
 c3 : w.cell? ⟨g, 3, none⟩ = some (.bool (fld op 3))
 c4 : w.cell? ⟨g, 4, none⟩ = some (.bool (fld op 4))
 c5 : w.cell? ⟨g, 5, none⟩ = some (.bool (fld op 5))
 c6 : w.cell? ⟨g, 6, none⟩ = some (.bool (fld op 6))
 c7 : w.cell? ⟨g, 7, none⟩ = some (.bool (fld op 7))
 c8 : w.cell? ⟨g, 8, none⟩ = some (.bool (fld op 8))
 c9 : w.cell? ⟨g, 9, none⟩ = some (.bool (fld op 9))
theorem FldAt.ext {w w' : World} {op : Int} {g : Nat} (h : FldAt w op g) (he : Ext w w') : FldAt w' op g :=
 ⟨he _ _ h.c0, he _ _ h.c1, he _ _ h.c2, he _ _ h.c3, he _ _ h.c4, he _ _ h.c5, he _ _ h.c6, he _ _ h.c7, he _ _ h.c8, he _ _ h.c9⟩
theorem FldAt.lt {w : World} {op : Int} {g : Nat} (h : FldAt w op g) : g < w.heap.size := World.block_lt_of_cell? w ⟨g, 0, none⟩ h.c0
/-- the table's rows, laid one behind the other -/
def fldRow (k : Nat) : Array Value := ((fldT.getD k []).map Value.bool).toArray
def fw (w : World) : Nat → World
 | 0 => w
 | k + 1 => (fw w k).alloc (.cells (fldRow (k + 1)) 4)
def fv (w : World) (k : Nat) : Value := .slice (some ⟨(fw w k).heap.size, 0, none⟩) 10 10
theorem fw_size (w : World) (k : Nat) : (fw w k).heap.size = w.heap.size + k := by
 induction k with
 | zero => rfl
 | succ k ih => unfold fw; rw [World.size_alloc, ih]; omega
theorem fw_below (w : World) (k : Nat) : Below w.heap.size w (fw w k) := by
 induction k with
 | zero => exact Below.refl _ _
 | succ k ih => exact ih.alloc (by rw [fw_size]; omega) _
theorem fw_heap (w : World) (k i : Nat) (h : i < k) : (fw w k).heap[w.heap.size + i]? = some (.cells (fldRow (i + 1)) 4 (0, 0)) := by
 induction k with
 | zero => omega
 | succ k ih =>
  show ((fw w k).alloc _).heap[_]? = _
  rw [heap_alloc, fw_size]
  by_cases e : i = k
  ·subst e; rw [if_pos rfl]
  ·rw [if_neg (by omega)]; exact ih (by omega)
def fT (w : World) : World := (fw w 12).alloc (.cells #[.slice none 0 0, fv w 0, fv w 1, fv w 2, fv w 3, fv w 4, fv w 5, fv w 6, fv w 7, fv w 8, fv w 9, fv w 10, fv w 11] 38)
theorem fT_below (w : World) : Below w.heap.size w (fT w) := (fw_below w 12).alloc (by rw [fw_size]; omega) _
theorem fT_row (w : World) (i j : Nat) (h : i < 12) (hj : j < 10) : (fT w).cell? ⟨w.heap.size + i, j, none⟩ = some (.bool (fld ((i : Int) + 1) j)) := by
 have h1 : (fT w).heap[w.heap.size + i]? = some (.cells (fldRow (i + 1)) 4 (0, 0)) := by
  unfold fT
  rw [heap_alloc, fw_size, if_neg (by omega)]
  exact fw_heap w 12 i h
 rw [cell_of_heap h1]
 unfold fldRow fld
 rw [show ((i : Int) + 1).toNat = i + 1 by omega]
 have hl : (fldT.getD (i + 1) []).length = 10 := by
  have : ∀ k : Fin 12, (fldT.getD (k.val + 1) []).length = 10 := by decide
  exact this ⟨i, h⟩
 simp [List.getD, hl, hj] at hl ⊢

theorem fT_top (w : World) (i : Nat) (h : i < 12) : (fT w).cell? ⟨w.heap.size + 12, i + 1, none⟩ = some (.slice (some ⟨w.heap.size + i, 0, none⟩) 10 10) := by
 have h1 : (fT w).heap[w.heap.size + 12]? = some (.cells #[.slice none 0 0, fv w 0, fv w 1, fv w 2, fv w 3, fv w 4, fv w 5, fv w 6, fv w 7, fv w 8, fv w 9, fv w 10, fv w 11] 38 (0, 0)) := by
  unfold fT
  rw [heap_alloc, fw_size, if_pos rfl]
 rw [cell_of_heap h1]
 have hv : ∀ k, fv w k = .slice (some ⟨w.heap.size + k, 0, none⟩) 10 10 := fun k => by unfold fv; rw [fw_size]
 simp only [hv]
 have : i = 0 ∨ i = 1 ∨ i = 2 ∨ i = 3 ∨ i = 4 ∨ i = 5 ∨ i = 6 ∨ i = 7 ∨ i = 8 ∨ i = 9 ∨ i = 10 ∨ i = 11 := by omega
 rcases this with rfl | rfl | rfl | rfl | rfl | rfl | rfl | rfl | rfl | rfl | rfl | rfl <;> rfl
theorem fields_in (k : Nat) (hk : k < 12) (w : World) :
  Calls Tryz.prog 65 #[.int .i64 ((k : Int) + 1)] w fun e w' => e = .returned (.slice (some ⟨w.heap.size + k, 0, none⟩) 10 10) ∧ fT w = w' := by
 refine calls_of_wp Tryz.func65 rfl ?_
 refine wp_seq ?_
 refine wp_region_list ?_
 refine wpList_runs 1 { tmps := #[.int .i64 ((k : Int) + 1), undef, .slice none 0 0, undef, undef, undef, undef, undef, undef, undef, undef, undef, undef, undef, undef, undef, undef, undef, undef, undef, undef, undef, undef, undef, undef, undef, undef], defers := [] } w (by kernel_rfl) ?_
 show Code.wp _ _ _ _ _
 refine wp_seq ?_
 refine wp_region_list ?_
 refine wpList_runs 14 { tmps := #[.int .i64 ((k : Int) + 1), undef, .slice none 0 0, .slice (some ⟨(fw w 12).heap.size, 0, none⟩) 13 13, fv w 0, fv w 1, fv w 2, fv w 3, fv w 4, fv w 5, fv w 6, fv w 7, fv w 8, fv w 9, fv w 10, fv w 11, .slice (some ⟨(fw w 12).heap.size, 0, none⟩) 13 13, undef, undef, undef, undef, undef, undef, undef, undef, undef, undef], defers := [] } (fT w) (by kernel_rfl) ?_
 show Code.wp _ _ _ _ _
 rw [fw_size]
 have hT := fT_top w k hk
 have hI : ((k : Int) + 1).toNat = k + 1 := by omega
 have h1 : decide ((k : Int) + 1 < 1) = false := by simp; omega
 generalize fT w = W at hT ⊢
 generalize fv w 0 = x0
 generalize fv w 1 = x1
 generalize fv w 2 = x2
 generalize fv w 3 = x3
 generalize fv w 4 = x4
 generalize fv w 5 = x5
 generalize fv w 6 = x6
 generalize fv w 7 = x7
 generalize fv w 8 = x8
 generalize fv w 9 = x9
 generalize fv w 10 = x10
 generalize fv w 11 = x11
 go_wp2
 go_ret
 exact ⟨rfl, rfl⟩
theorem fields_out (op : Int) (h : op < 1 ∨ 12 < op) (w : World) :
  Calls Tryz.prog 65 #[.int .i64 op] w fun e w' => e = .returned (.slice none 0 0) ∧ fT w = w' := by
 refine calls_of_wp Tryz.func65 rfl ?_
 refine wp_seq ?_
 refine wp_region_list ?_
 refine wpList_runs 1 { tmps := #[.int .i64 op, undef, .slice none 0 0, undef, undef, undef, undef, undef, undef, undef, undef, undef, undef, undef, undef, undef, undef, undef, undef, undef, undef, undef, undef, undef, undef, undef, undef], defers := [] } w (by kernel_rfl) ?_
 show Code.wp _ _ _ _ _
 refine wp_seq ?_
 refine wp_region_list ?_
 refine wpList_runs 14 { tmps := #[.int .i64 op, undef, .slice none 0 0, .slice (some ⟨(fw w 12).heap.size, 0, none⟩) 13 13, fv w 0, fv w 1, fv w 2, fv w 3, fv w 4, fv w 5, fv w 6, fv w 7, fv w 8, fv w 9, fv w 10, fv w 11, .slice (some ⟨(fw w 12).heap.size, 0, none⟩) 13 13, undef, undef, undef, undef, undef, undef, undef, undef, undef, undef], defers := [] } (fT w) (by kernel_rfl) ?_
 show Code.wp _ _ _ _ _
 generalize fT w = W
 generalize (Value.slice (some ⟨(fw w 12).heap.size, 0, none⟩) 13 13) = x12
 generalize fv w 0 = x0
 generalize fv w 1 = x1
 generalize fv w 2 = x2
 generalize fv w 3 = x3
 generalize fv w 4 = x4
 generalize fv w 5 = x5
 generalize fv w 6 = x6
 generalize fv w 7 = x7
 generalize fv w 8 = x8
 generalize fv w 9 = x9
 generalize fv w 10 = x10
 generalize fv w 11 = x11
 rcases h with h | h
 ·go_wp2
  go_ret
  exact ⟨rfl, rfl⟩
 ·have h1 : decide (op < 1) = false := by simp; omega
  go_wp2
  go_ret
  exact ⟨rfl, rfl⟩
theorem fields_c (op : Int) (w : World) (h1 : 1 ≤ op) (h2 : op ≤ 12) :
  Calls Tryz.prog 65 #[.int .i64 op] w fun e w' => ∃ g, e = .returned (.slice (some ⟨g, 0, none⟩) 10 10) ∧ w.heap.size ≤ g ∧ FldAt w' op g ∧ Below w.heap.size w w' := by
 obtain ⟨k, rfl⟩ : ∃ k : Nat, op = (k : Int) + 1 := ⟨(op - 1).toNat, by omega⟩
 refine (fields_in k (by omega) w).mono fun e w' ⟨he, hw⟩ => ⟨_, he, by omega, ?_, hw ▸ fT_below w⟩
 subst hw
 have hk : k < 12 := by omega
 exact ⟨fT_row w k 0 hk (by decide), fT_row w k 1 hk (by decide), fT_row w k 2 hk (by decide), fT_row w k 3 hk (by decide), fT_row w k 4 hk (by decide), fT_row w k 5 hk (by decide), fT_row w k 6 hk (by decide), fT_row w k 7 hk (by decide), fT_row w k 8 hk (by decide), fT_row w k 9 hk (by decide)⟩
theorem fields_0 (op : Int) (w : World) (h : op < 1 ∨ 12 < op) :
  Calls Tryz.prog 65 #[.int .i64 op] w fun e w' => e = .returned (.slice none 0 0) ∧ Below w.heap.size w w' :=
 (fields_out op h w).mono fun e w' ⟨he, hw⟩ => ⟨he, hw ▸ fT_below w⟩
theorem fld_all : ∀ k : Fin 13, (k.val ≠ 0 → fld (k.val : Int) 0 = decide (k.val ≠ 6 ∧ k.val ≠ 10 ∧ k.val ≠ 12)) ∧ fld (k.val : Int) 1 = readsA (k.val : Int) ∧ fld (k.val : Int) 2 = readsB (k.val : Int) ∧ fld (k.val : Int) 3 = decide (k.val = 3 ∨ k.val = 4) ∧
  fld (k.val : Int) 4 = decide (k.val = 7 ∨ k.val = 8 ∨ k.val = 9) ∧ fld (k.val : Int) 5 = decide (5 ≤ k.val ∧ k.val ≤ 8) ∧ fld (k.val : Int) 6 = decide (k.val = 5 ∨ k.val = 6) ∧ fld (k.val : Int) 7 = decide (k.val = 1) ∧ fld (k.val : Int) 8 = decide (k.val = 9) ∧
  (k.val ≠ 0 → fld (k.val : Int) 9 = decide (k.val ≠ 10 ∧ k.val ≠ 12)) := by decide
end Go.Proofs.YtkhfddodmjnecaaGreatDoor

set_option linter.all false
namespace Go.Proofs.YtkhfddodmjnecaaGreatDoor
open Go.ChangeShapes Go.WideShapes Go.ChangeAt Go.RowKit
set_option maxHeartbeats 1000000
set_option maxRecDepth 20000

theorem bcell' {B : Nat} {W w1 : World} (hb : Below B W w1) : (∀ b o, b < B → w1.cell? ⟨b, o, none⟩ = W.cell? ⟨b, o, none⟩) ∧ (∀ b o, b < B → w1.frozen? ⟨b, o, none⟩ = W.frozen? ⟨b, o, none⟩) :=
 ⟨fun b o h => hb.cell (p := ⟨b, o, none⟩) h, fun b o h => hb.frozen (p := ⟨b, o, none⟩) h⟩
theorem fld_facts (op : Int) (h1 : 1 ≤ op) (h2 : op ≤ 12) : fld op 0 = decide (op ≠ 6 ∧ op ≠ 10 ∧ op ≠ 12) ∧ fld op 1 = readsA op ∧ fld op 2 = readsB op ∧ fld op 3 = decide (op = 3 ∨ op = 4) ∧
  fld op 4 = decide (op = 7 ∨ op = 8 ∨ op = 9) ∧ fld op 5 = decide (5 ≤ op ∧ op ≤ 8) ∧ fld op 6 = decide (op = 5 ∨ op = 6) ∧ fld op 7 = decide (op = 1) ∧ fld op 8 = decide (op = 9) ∧ fld op 9 = decide (op ≠ 10 ∧ op ≠ 12) := by
 obtain ⟨k, rfl⟩ := Int.eq_ofNat_of_zero_le (show 0 ≤ op by omega)
 obtain ⟨a0, a1, a2, a3, a4, a5, a6, a7, a8, a9⟩ := fld_all ⟨k, by omega⟩
 simp only [] at a0 a1 a2 a3 a4 a5 a6 a7 a8 a9
 refine ⟨(a0 (by omega)).trans ?_, a1, a2, a3.trans ?_, a4.trans ?_, a5.trans ?_, a6.trans ?_, a7.trans ?_, a8.trans ?_, (a9 (by omega)).trans ?_⟩ <;> (congr 1; apply propext; omega)
theorem defI_0 (i : In) (h : i.op < 1 ∨ 12 < i.op) : defI i = -1 := by unfold defI; rw [if_neg (by omega)]
theorem defI_y (i : In) (h1 : 1 ≤ i.op) (h2 : i.op ≤ 12) (h : fld i.op 0 = true) : defI i = i.d := by
 rw [(fld_facts i.op h1 h2).1] at h; simp at h; unfold defI; rw [if_pos (by omega)]
theorem defI_n (i : In) (h1 : 1 ≤ i.op) (h2 : i.op ≤ 12) (h : fld i.op 0 = false) : defI i = -1 := by
 rw [(fld_facts i.op h1 h2).1] at h; simp at h; unfold defI; rw [if_neg (by omega)]
theorem rdef_c (i : In) (v : Value) (w : World) (hv : InV w v i) :
  Calls Tryz.prog 39 #[v] w fun e w' => e = .returned (.int .i64 (defI i)) ∧ Below w.heap.size w w' := by
 obtain ⟨va, rfl, hva⟩ := hv
 by_cases h : i.op < 1 ∨ 12 < i.op
 ·have H := Lib.hid (defI_0 i h)
  go_enter Tryz.func39, Tryz.ntmps39
  go_wp2_with (go_at_call 65; refine (fields_0 _ _ h).mono ?_; rintro e w1 ⟨rfl, hb⟩)
  go_ret
  exact ⟨ret_i H.out.symm, (below_alloc _ _).trans (hb.mono (by simp))⟩
 ·have h1 : 1 ≤ i.op := by omega
  have h2 : i.op ≤ 12 := by omega
  cases hd : fld i.op 0
  ·have H := Lib.hid (defI_n i h1 h2 hd)
   go_enter Tryz.func39, Tryz.ntmps39
   go_wp2_with (go_at_call 65; refine (fields_c _ _ h1 h2).mono ?_; rintro e w1 ⟨g, rfl, hg, ha, hb⟩; have c0 := ha.c0)
   go_ret
   exact ⟨ret_i H.out.symm, (below_alloc _ _).trans (hb.mono (by simp))⟩
  ·have H := Lib.hid (defI_y i h1 h2 hd)
   go_enter Tryz.func39, Tryz.ntmps39
   go_wp2_with (go_at_call 65; refine (fields_c _ _ h1 h2).mono ?_; rintro e w1 ⟨g, rfl, hg, ha, hb⟩; have c0 := ha.c0; obtain ⟨hc1, _⟩ := bcell' hb)
   go_ret
   exact ⟨ret_i H.out.symm, (below_alloc _ _).trans (hb.mono (by simp))⟩
theorem routs_c (b : Bk) (v : Value) (w : World) (hv : BkV w v b) :
  Calls Tryz.prog 136 #[v] w (RetI w (outsB b)) := by
 obtain ⟨ins, fin, a, to, els⟩ := b
 obtain ⟨vi, rfl, hvi⟩ := hv
 have O0 := Own.nil (w0 := w.alloc (.cells #[vi, .int .i64 fin, .int .i64 a, .int .i64 to, .int .i64 els] 43)) (B := w.heap.size + 1) (by simp)
 have E1 := outsB_1 ⟨ins, fin, a, to, els⟩
 have E2 := outsB_2 ⟨ins, fin, a, to, els⟩
 have E3 := outsB_3 ⟨ins, fin, a, to, els⟩
 by_cases h1 : fin = 1
 ·subst h1
  have E := Lib.hid (E1 (.inl rfl))
  clear E1 E2 E3
  go_enter Tryz.func136, Tryz.ntmps136
  go_wp2_with (first | (at_builtin; refine app1 O0 rfl rfl rfl rfl (by first | rfl | simp) (by simp) ?_; intro v1 w1 O1; have hc1 := O1.bcell; have hz1 := O1.below.size; simp at hz1))
  go_ret
  rw [E.out]
  exact O1.ret (below_alloc _ _) (by omega)
 by_cases h2 : fin = 2
 ·subst h2
  by_cases h3 : to = els
  ·subst h3
   have E := Lib.hid (E1 (.inr ⟨rfl, rfl⟩))
   clear E1 E2 E3 h1
   go_enter Tryz.func136, Tryz.ntmps136
   go_wp2_with (first | (at_builtin; refine app1 O0 rfl rfl rfl rfl (by first | rfl | simp) (by simp) ?_; intro v1 w1 O1; have hc1 := O1.bcell; have hz1 := O1.below.size; simp at hz1))
   go_ret
   rw [E.out]
   exact O1.ret (below_alloc _ _) (by omega)
  ·have E := Lib.hid (E2 (by simp [h3]) rfl)
   have h3' : (els != to) = true := bne_iff_ne.2 (Ne.symm h3)
   clear E1 E2 E3 h1
   go_enter Tryz.func136, Tryz.ntmps136
   go_wp2_with (first | (at_builtin; refine app1 O1 rfl rfl rfl rfl (by first | rfl | simp) (by simp) ?_; intro v2 w2 O2) | (at_builtin; refine app1 O0 rfl rfl rfl rfl (by first | rfl | simp) (by simp) ?_; intro v1 w1 O1; have hc1 := O1.bcell; have hz1 := O1.below.size; simp at hz1))
   go_ret
   rw [E.out]
   exact O2.ret (below_alloc _ _) (by omega)
 ·have E := Lib.hid (E3 h1 h2)
  have h1' : (fin == 1) = false := by simpa using h1
  have h2' : (fin == 2) = false := by simpa using h2
  clear E1 E2 E3 h1 h2
  go_enter Tryz.func136, Tryz.ntmps136
  go_wp2
  go_ret
  rw [E.out]
  exact O0.ret (below_alloc _ _) (by omega)
end Go.Proofs.YtkhfddodmjnecaaGreatDoor

set_option linter.all false
namespace Go.Proofs.YtkhfddodmjnecaaGreatDoor
open Go Go.RowKit

/-- a world and new blocks behind its own -/
def plus (W x : World) : World := { W with heap := W.heap ++ x.heap, drawn := x.drawn }
/-- what lies behind -/
def plusRest (W x : World) (a : Addr) : Option Value := if a.block < W.heap.size then none else (plus W x).cell? a

theorem plus_below (W x : World) : Below W.heap.size W (plus W x) := by
 refine ⟨rfl, rfl, rfl, ?_, fun k hk => ?_⟩
 ·show W.heap.size ≤ (W.heap ++ x.heap).size
  simp
 ·show (W.heap ++ x.heap)[k]? = W.heap[k]?
  rw [Array.getElem?_append, if_pos hk]
theorem cell?_plus (W x : World) (a : Addr) : (plus W x).cell? a = (W.cell? a).or (plusRest W x a) := by
 unfold plusRest
 by_cases h : a.block < W.heap.size
 ·rw [if_pos h, (plus_below W x).cell h]; simp
 ·rw [if_neg h]
  have : W.cell? a = none := by
   unfold World.cell?
   rw [Array.getElem?_eq_none (by omega)]
  rw [this]; simp
attribute [go_sem] cell?_plus
end Go.Proofs.YtkhfddodmjnecaaGreatDoor

set_option linter.all false
namespace Go.Proofs.YtkhfddodmjnecaaGreatDoor
open Go.ChangeShapes Go.WideShapes Go.ChangeAt Go.RowKit
set_option maxHeartbeats 1000000
set_option maxRecDepth 20000

/-- is it no block of so many? -/
def offB (n : Nat) (x : Int) : Bool := decide (x < 0) || decide ((n : Int) ≤ x)
theorem outs1_c (w : World) (x : Int) (pb : Nat) (a : Option Addr) (n c : Nat) (hc : w.cell? ⟨pb, 5, none⟩ = some (.slice a n c)) :
  Calls Tryz.prog 169 #[.int .i64 x, .pointer (some ⟨pb, 0, none⟩)] w fun e w' => e = .returned (.bool (offB n x)) ∧ w = w' := by
 by_cases h : x < 0
 ·have H : Hid (offB n x = true) := by show _ = _; unfold offB; simp [h]
  go_enter Tryz.func169, Tryz.ntmps169
  go_wp2
  go_ret
  exact ⟨ret_b H.out.symm, rfl⟩
 ·have H : Hid (offB n x = decide ((n : Int) ≤ x)) := by show _ = _; unfold offB; simp [h]
  have h' : decide (x < 0) = false := by simpa using h
  go_enter Tryz.func169, Tryz.ntmps169
  go_wp2
  go_ret
  exact ⟨ret_b H.out.symm, rfl⟩
def IdxR (p : Int → Bool) (l : List Int) (r : Int) : Prop := (r = -1 ∧ ∀ j, j < l.length → p (l.getD j 0) = false) ∨ ∃ k : Nat, k < l.length ∧ r = k ∧ p (l.getD k 0) = true ∧ ∀ j, j < k → p (l.getD j 0) = false
theorem index_c (l : List Int) (v : Value) (w : World) (hv : RdI w v l) (pb : Nat) (a : Option Addr) (n c : Nat) (hc : w.cell? ⟨pb, 5, none⟩ = some (.slice a n c)) (hn : l.length ≤ 1000000) :
  Calls Tryz.prog 173 #[v, .func (.func 169) #[] #[.pointer (some ⟨pb, 0, none⟩)]] w fun e w' => ∃ r, e = .returned (.int .i64 r) ∧ IdxR (offB n) l r ∧ w = w' := by
 obtain ⟨ad, cp, rfl, hl1, hl2, hcell⟩ := hv
 have HC := Lib.hid hcell
 clear hcell
 go_enter Tryz.func173, Tryz.ntmps173
 go_wp2
 go_loop [8] (fun i => ∃ k : Nat, k ≤ l.length ∧ i = .int .i64 k ∧ Hid (∀ j, j < k → offB n (l.getD j 0) = false)) (fun i => l.length - (intOf i).toNat)
 case atStart => exact ⟨0, Nat.zero_le _, rfl, fun j hj => absurd hj (by omega)⟩
 case round =>
  obtain ⟨k, hk, rfl, hno⟩ := hrel
  by_cases hlt : k < l.length
  ·obtain ⟨b, o, rfl, hcx⟩ := HC.out k hlt
   simp only [Nat.mul_one, Nat.add_zero] at hcx
   obtain ⟨x, hx⟩ : ∃ x, l.getD k 0 = x := ⟨_, rfl⟩
   rw [hx] at hcx
   have HX := Lib.hid hx
   clear hx
   cases hp : offB n x
   ·have HP := Lib.hid hp
    have E : Hid (∀ w : World, w.cell? ⟨pb, 5, none⟩ = some (.slice a n c) → Calls Tryz.prog 169 #[.int .i64 x, .pointer (some ⟨pb, 0, none⟩)] w fun e w' => e = .returned (.bool false) ∧ w = w') := fun w hw => (outs1_c w x pb a n c hw).mono fun _ _ h => ⟨h.1.trans (ret_b hp), h.2⟩
    clear hp
    go_wp2_with (go_at_call 169; refine (E.out _ hc).mono ?_; rintro e w' ⟨rfl, rfl⟩)
    go_round
    case rel =>
     refine ⟨k + 1, by omega, by go_num, fun j hj => ?_⟩
     by_cases hjk : j = k
     ·subst hjk; rw [HX.out]; exact HP.out
     ·exact hno.out j (by omega)
    case measure => simp [intOf]; omega
   ·have HP := Lib.hid hp
    have E : Hid (∀ w : World, w.cell? ⟨pb, 5, none⟩ = some (.slice a n c) → Calls Tryz.prog 169 #[.int .i64 x, .pointer (some ⟨pb, 0, none⟩)] w fun e w' => e = .returned (.bool true) ∧ w = w') := fun w hw => (outs1_c w x pb a n c hw).mono fun _ _ h => ⟨h.1.trans (ret_b hp), h.2⟩
    clear hp
    go_wp2_with (go_at_call 169; refine (E.out _ hc).mono ?_; rintro e w' ⟨rfl, rfl⟩)
    go_ret
    exact ⟨_, rfl, .inr ⟨k, hlt, rfl, by rw [HX.out]; exact HP.out, hno.out⟩, rfl⟩
  ·go_wp2
   go_ret
   exact ⟨_, rfl, .inl ⟨rfl, fun j hj => hno.out j (by omega)⟩, rfl⟩
end Go.Proofs.YtkhfddodmjnecaaGreatDoor

set_option linter.all false
namespace Go.Proofs.YtkhfddodmjnecaaGreatDoor
open Go.ChangeShapes Go.WideShapes Go.ChangeAt Go.RowKit

theorem OwnI.cellAt {w : World} {B g n c : Nat} {l : List Int} (h : OwnI w B (.slice (some ⟨g, 0, none⟩) n c) l) : n = l.length ∧ n ≤ c ∧ c ≤ maxLen ∧ B ≤ g ∧ (∀ i, i < n → w.cell? ⟨g, i, none⟩ = some (.int .i64 (l.getD i 0))) ∧ ∀ i, w.frozen? ⟨g, i, none⟩ = false := by
 obtain ⟨ad, cp, h1, h2, h3, h4⟩ := h.rd
 simp only [Value.slice.injEq] at h1
 obtain ⟨rfl, rfl, rfl⟩ := h1
 have hf := World.ownsRow.frozenAt h
 obtain ⟨_, ⟨h5, _⟩ | ⟨g', cap, cur, h5, hb, _⟩⟩ := h
 ·simp at h5
 ·simp only [Value.slice.injEq, Option.some.injEq, Addr.mk.injEq] at h5
  refine ⟨rfl, h2, h3, by omega, fun i hi => ?_, hf⟩
  obtain ⟨b, o, e, hc⟩ := h4 i hi
  simp only [Option.some.injEq, Addr.mk.injEq] at e
  obtain ⟨rfl, rfl, _⟩ := e
  simpa using hc
end Go.Proofs.YtkhfddodmjnecaaGreatDoor

set_option linter.all false
namespace Go.Proofs.YtkhfddodmjnecaaGreatDoor
open Go.ChangeShapes Go.WideShapes Go.ChangeAt Go.RowKit
set_option maxHeartbeats 1000000
set_option maxRecDepth 20000

/-- a list that can be read, in memory from block B on -/
def RdF (w : World) (B : Nat) (v : Value) (l : List Int) : Prop := RdI w v l ∧ ∀ a n c, v = .slice (some a) n c → B ≤ a.block
theorem OwnI.rf {w : World} {B : Nat} {v : Value} {l : List Int} (h : OwnI w B v l) : RdF w B v l := ⟨h.rd, fun a n c e => by
 obtain ⟨-, ⟨h5, -⟩ | ⟨g', cap, cur, h5, hb, -⟩⟩ := h
 ·rw [h5] at e; simp at e
 ·rw [h5] at e; simp only [Value.slice.injEq, Option.some.injEq] at e; rw [← e.1]; exact hb⟩
theorem OwnI.set {w : World} {B g n c : Nat} {l : List Int} (h : OwnI w B (.slice (some ⟨g, 0, none⟩) n c) l) (i : Nat) (x : Int) : OwnI (w.setCell ⟨g, i, none⟩ (.int .i64 x)) B (.slice (some ⟨g, 0, none⟩) n c) (l.set i x) := by
 obtain ⟨rfl, _⟩ := h.cellAt
 have := (World.ownsRow.stored h i (.int .i64 x)).1
 unfold OwnI
 rw [List.length_set, List.map_set]
 exact this
theorem idx_filter {p : Int → Bool} {l : List Int} (h : ∀ j, j < l.length → p (l.getD j 0) = false) : l.filter (fun x => !p x) = l := by
 rw [List.filter_eq_self]
 intro x hx
 obtain ⟨j, hj, rfl⟩ := List.getElem_of_mem hx
 have := h j hj
 simp [List.getD, hj] at this
 simp [this]
theorem take_filter {p : Int → Bool} {l : List Int} {k : Nat} (hk : k ≤ l.length) (h : ∀ j, j < k → p (l.getD j 0) = false) : (l.take k).filter (fun x => !p x) = l.take k := by
 apply idx_filter
 intro j hj
 have hj' : j < k := by simp at hj; omega
 have := h j hj'
 simpa [List.getD, hj', List.getElem?_take] using this
theorem set_take (l : List Int) (i : Nat) (x : Int) (h : i < l.length) : (l.set i x).take (i + 1) = l.take i ++ [x] := by
 rw [List.take_succ_eq_append_getElem (by simpa using h)]
 simp [List.take_set_of_le]
/-- how far the deletion has come -/
structure DelR (p : Int → Bool) (l cur : List Int) (i j : Nat) : Prop where
 lt : i < j
 le : j ≤ l.length
 len : cur.length = l.length
 front : cur.take i = (l.take j).filter fun x => !p x
 back : ∀ t, j ≤ t → cur.getD t 0 = l.getD t 0
theorem DelR.start {p : Int → Bool} {l : List Int} {k : Nat} (hk : k < l.length) (hp : p (l.getD k 0) = true) (h : ∀ j, j < k → p (l.getD j 0) = false) : DelR p l l k (k + 1) := by
 refine ⟨by omega, hk, rfl, ?_, fun _ _ => rfl⟩
 rw [take_snoc l k hk, List.filter_append, take_filter (by omega) h, List.filter_cons, hp]
 simp
theorem DelR.drop {p : Int → Bool} {l cur : List Int} {i j : Nat} (h : DelR p l cur i j) (hj : j < l.length) (hp : p (l.getD j 0) = true) : DelR p l cur i (j + 1) := by
 refine ⟨by have := h.lt; omega, hj, h.len, ?_, fun t ht => h.back t (by omega)⟩
 rw [take_snoc l j hj, List.filter_append, ← h.front, List.filter_cons, hp]
 simp
theorem DelR.keep {p : Int → Bool} {l cur : List Int} {i j : Nat} (h : DelR p l cur i j) (hj : j < l.length) (hp : p (l.getD j 0) = false) : DelR p l (cur.set i (l.getD j 0)) (i + 1) (j + 1) := by
 have h1 := h.lt
 have h2 := h.len
 refine ⟨by omega, hj, by simpa using h.len, ?_, fun t ht => ?_⟩
 ·rw [take_snoc l j hj, List.filter_append, ← h.front, List.filter_cons, hp, set_take _ _ _ (by omega)]
  simp
 ·rw [← h.back t (by omega)]
  simp [List.getD, List.getElem?_set, show i ≠ t by omega]
theorem Below.setCells {B : Nat} {a : World} {g : Nat} (hg : B ≤ g) : ∀ (vs : List Value) (o : Nat) (w : World), Below B a w → Below B a (w.setCells g o vs)
 | [], _, _, h => h
 | v :: vs, o, w, h => Below.setCells hg vs (o + 1) _ (h.setCell (p := ⟨g, o, none⟩) hg v)
theorem zero_int (w : World) : (zeroValue 3).run Tryz.prog w = .ok (.int .i64 0) w := by kernel_rfl
set_option maxHeartbeats 2000000 in
theorem delete_c (l : List Int) (v : Value) (w : World) (B : Nat) (hv : OwnI w B v l) (pb : Nat) (hpb : pb < B) (hBw : B ≤ w.heap.size) (a : Option Addr) (n c : Nat) (hc : w.cell? ⟨pb, 5, none⟩ = some (.slice a n c)) (hn : l.length ≤ 1000000) :
  Calls Tryz.prog 168 #[v, .func (.func 169) #[] #[.pointer (some ⟨pb, 0, none⟩)]] w fun e w' => ∃ v', e = .returned v' ∧ RdF w' B v' (l.filter fun x => !offB n x) ∧ Below B w w' := by
 have ix := index_c l v w hv.rd pb a n c hc hn
 have ix' : Calls Tryz.prog 173 #[v, .func (.func 169) #[] #[.pointer (some ⟨pb, 0, none⟩)]] w (fun e w' => (∃ r, e = .returned (.int .i64 r) ∧ IdxR (offB n) l r ∧ w = w')) := ix
 go_enter Tryz.func168, Tryz.ntmps168
 go_wp2_with fail
 refine ix'.mono ?_
 rintro e w' ⟨r, rfl, hr, rfl⟩
 rcases hr with ⟨rfl, hno⟩ | ⟨k, hk, rfl, hp, hno⟩
 ·have H := Lib.hid (idx_filter hno)
  have HV := Lib.hid hv
  clear hno ix ix' hv
  go_wp2
  go_ret
  exact ⟨_, rfl, by rw [H.out]; exact HV.out.rf, Below.refl _ _⟩
 ·have H := Lib.hid (DelR.start hk hp hno)
  clear hp hno ix ix'
  obtain ⟨g, cp, rfl⟩ : ∃ g cp, v = .slice (some ⟨g, 0, none⟩) l.length cp := by
   obtain ⟨_, ⟨rfl, h2⟩ | ⟨g, cap, cur, h3, _⟩⟩ := hv
   ·omega
   ·exact ⟨g, cap, h3⟩
  obtain ⟨-, hcap, hcm, hBg, -, -⟩ := hv.cellAt
  unfold maxLen at hcm
  have HV := Lib.hid hv
  clear hv
  have hk1 : ((k : Int) == -1) = false := beq_eq_false_iff_ne.2 (by omega)
  go_wp2_with fail
  go_loopw [5, 6] (fun i j wr => ∃ (ii jj : Nat) (cur : List Int), i = .int .i64 ii ∧ j = .int .i64 jj ∧ Hid (DelR (offB n) l cur ii jj) ∧ Hid (OwnI wr B (.slice (some ⟨g, 0, none⟩) l.length cp) cur) ∧ Below B w wr)
   (fun _ j _ => l.length - (intOf j).toNat)
  case atStart => exact ⟨k, k + 1, l, rfl, by go_num, H, HV, Below.refl _ _⟩
  case round =>
   obtain ⟨ii, jj, cur, rfl, rfl, D, O, hb⟩ := hrel
   obtain ⟨-, -, -, -, hcells, hfr⟩ := O.out.cellAt
   have hlt1 := D.out.lt
   have hle1 := D.out.le
   have hcr : wr.cell? ⟨pb, 5, none⟩ = some (.slice a n c) := (hb.cell (p := ⟨pb, 5, none⟩) hpb).trans hc
   by_cases hlt : jj < l.length
   ·obtain ⟨x, hx⟩ : ∃ x, l.getD jj 0 = x := ⟨_, rfl⟩
    have hcx := hcells jj hlt
    rw [D.out.back jj (Nat.le_refl _), hx] at hcx
    have hci := hcells ii (by omega)
    generalize cur.getD ii 0 = y at hci
    have hfi := hfr ii
    clear hcells hfr
    have hkeep := D.out.keep hlt
    have hdrop := D.out.drop hlt
    rw [hx] at hkeep hdrop
    clear hx
    cases hpx : offB n x
    ·have HK := Lib.hid (hkeep hpx)
     have E : Hid (∀ w : World, w.cell? ⟨pb, 5, none⟩ = some (.slice a n c) → Calls Tryz.prog 169 #[.int .i64 x, .pointer (some ⟨pb, 0, none⟩)] w fun e w' => e = .returned (.bool false) ∧ w = w') := fun w hw => (outs1_c w x pb a n c hw).mono fun _ _ h => ⟨h.1.trans (ret_b hpx), h.2⟩
     clear hkeep hdrop hpx
     go_wp2_with (go_at_call 169; refine (E.out _ hcr).mono ?_; rintro e w' ⟨rfl, rfl⟩)
     go_roundw
     case rel => exact ⟨ii + 1, jj + 1, cur.set ii x, by go_num, by go_num, HK, OwnI.set O.out ii x, hb.setCell (by omega) _⟩
     case measure => simp [intOf]; omega
    ·have HK := Lib.hid (hdrop hpx)
     have E : Hid (∀ w : World, w.cell? ⟨pb, 5, none⟩ = some (.slice a n c) → Calls Tryz.prog 169 #[.int .i64 x, .pointer (some ⟨pb, 0, none⟩)] w fun e w' => e = .returned (.bool true) ∧ w = w') := fun w hw => (outs1_c w x pb a n c hw).mono fun _ _ h => ⟨h.1.trans (ret_b hpx), h.2⟩
     clear hkeep hdrop hpx
     go_wp2_with (go_at_call 169; refine (E.out _ hcr).mono ?_; rintro e w' ⟨rfl, rfl⟩)
     go_roundw
     case rel => exact ⟨ii, jj + 1, cur, rfl, by go_num, HK, O, hb⟩
     case measure => simp [intOf]; omega
   ·have hne : ¬ cp = ii := by omega
    have hne' : (cp == ii) = false := beq_eq_false_iff_ne.2 hne
    have hcl : ∀ ty, (Builtin.clear_ #[46] ty #[.slice (some ⟨g, ii, none⟩) (l.length - ii) (cp - ii)]).run Tryz.prog wr = .ok (.tuple #[]) (wr.setCells g ii (List.replicate (l.length - ii) (.int .i64 0))) := fun ty =>
     Lib.run_clear_slice wr 46 3 ty (.int .i64 0) Tryz.underlying46 zero_int rfl rfl g ii (l.length - ii) (cp - ii) (by omega) (fun j hj => by rw [hcells (ii + j) (by omega)]; rfl) (fun j _ => hfr _)
    have HL := Lib.hid hcells
    clear hcells hfr
    go_wp2
    go_ret
    refine ⟨_, rfl, ?_, Below.setCells hBg _ _ _ hb⟩
    have hfl := D.out.front
    rw [List.take_of_length_le (by omega : l.length ≤ jj)] at hfl
    rw [← hfl]
    have hln : (cur.take ii).length = ii := by rw [List.length_take]; have := D.out.len; omega
    refine ⟨?_, fun a n c e => by have e' : Value.slice (some ⟨g, 0, none⟩) ii cp = .slice (some a) n c := e; simp only [Value.slice.injEq, Option.some.injEq] at e'; rw [← e'.1]; exact hBg⟩
    refine ⟨some ⟨g, 0, none⟩, cp, by rw [hln]; rfl, by omega, by unfold maxLen; omega, fun i hi => ⟨g, 0, rfl, ?_⟩⟩
    rw [hln] at hi
    simp only [Nat.zero_add, Nat.mul_one, Nat.add_zero]
    rw [World.cell?_setCells_out g _ _ _ _ (fun _ _ => .inl hi), HL.out i (by omega)]
    simp [List.getD, List.getElem?_take, hi]

/-- what a call hands back that makes a list to be read -/
def RetR (w : World) (l : List Int) (e : Ending) (w' : World) : Prop := ∃ v, e = .returned v ∧ RdF w' w.heap.size v l ∧ Below w.heap.size w w'
theorem RetI.r {w : World} {l : List Int} {e : Ending} {w' : World} (h : RetI w l e w') : RetR w l e w' := let ⟨v, h1, h2, h3⟩ := h; ⟨v, h1, h2.rf, h3⟩
theorem offB_filter (p : Pr) (n : Nat) : (outsB (p.blks.getD n default)).filter (fun x => !offB p.blks.length x) = outsP p n := by
 unfold outsP
 congr 1
 funext t
 unfold offB
 rw [Bool.eq_iff_iff]
 simp
theorem outsB_len (b : Bk) : (outsB b).length ≤ 2 := by unfold outsB; split <;> (try split) <;> simp
theorem fouts_c (p : Pr) (V : Value) (n : Nat) (w : World) (hv : PrV w V p) (hn : n < p.blks.length) (hlen : p.blks.length ≤ 1000000) :
  Calls Tryz.prog 150 #[V, .int .i64 (n : Int)] w (RetR w (outsP p n)) := by
 obtain ⟨nm, vo, vb, rfl, hvo, a, c, rfl, hc1, hc2, hcell⟩ := hv
 obtain ⟨b, o, rfl, ⟨vi, c0, hvi⟩, c1, c2, c3, c4⟩ := hcell n hn
 simp only [Nat.add_zero] at c0
 have hbw : b < w.heap.size := World.block_lt_of_cell? w _ c0
 clear hcell
 have H := Lib.hid (offB_filter p n)
 have HB : Hid (∀ w', Ext w w' → Calls Tryz.prog 88 #[.agg #[vi, .int .i64 (p.blks.getD n default).fin, .int .i64 (p.blks.getD n default).a, .int .i64 (p.blks.getD n default).to, .int .i64 (p.blks.getD n default).els]] w' (RetI w' (outsB (p.blks.getD n default)))) :=
  fun w' he => outs_c _ _ _ ⟨vi, rfl, hvi.ext he⟩
 have HL := Lib.hid (outsB_len (p.blks.getD n default))
 generalize p.blks.getD n default = B at *
 go_enter Tryz.func150, Tryz.ntmps150
 go_wp2_with fail
 refine (HB.out _ (Ext.alloc w _)).mono ?_
 rintro e w1 ⟨v1, rfl, ho, hb⟩
 have hbc : w1.cell? ⟨w.heap.size, 5, none⟩ = some (.slice (some ⟨b, o, none⟩) p.blks.length c) := by
  rw [hb.cell (by simp)]; simp [go_sem]
 have hz := hb.size
 simp at hz ho
 have D := delete_c (outsB B) v1 w1 (w.heap.size + 1) ho w.heap.size (by omega) (by omega) _ _ _ hbc (by have := HL.out; omega)
 rw [H.out] at D
 have D' := Lib.hid D
 clear D
 go_wp2_with fail
 refine D'.out.mono ?_
 rintro e w2 ⟨v2, rfl, hr, hb2⟩
 have HR := Lib.hid hr
 clear hr hbc
 go_wp2_with fail
 go_ret
 simp at hb
 exact ⟨_, rfl, ⟨HR.out.1, fun a n c e => Nat.le_trans (by omega) (HR.out.2 a n c e)⟩, ((below_alloc w _).trans (hb.mono (by omega))).trans (hb2.mono (by omega))⟩
end Go.Proofs.YtkhfddodmjnecaaGreatDoor
