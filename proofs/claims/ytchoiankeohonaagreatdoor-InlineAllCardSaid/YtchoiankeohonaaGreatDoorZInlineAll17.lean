/-
 Contracts of ir.plain and ir.bare.
-/
import Derived.Test.YtchoiankeohonaaGreatDoorZInlineAll16
set_option linter.all false
namespace Go.Proofs.YtchoiankeohonaaGreatDoor
open Go.ChangeShapes Go.WideShapes Go.ChangeAt Go.RowKit
set_option maxHeartbeats 2000000
set_option maxRecDepth 20000

/-- an instruction without arguments, by value -/
def inA (i : In) : Value := .agg #[.int .i64 i.op, .int .i64 i.d, .int .i64 i.a, .int .i64 i.b, .int .i64 i.fn, .int .i64 i.obj, .int .i64 i.off, .int .i64 i.size, .int .u32 i.num, .slice none 0 0, .bool i.log]
theorem plain_6 (d a b fn obj off size num : Int) (args : List Int) (log : Bool) (aa : Option Addr) (ca : Nat) (w : World) (hva : RdI w (.slice aa args.length ca) args) :
  Calls Tryz.prog 89 #[.agg #[.int .i64 6, .int .i64 d, .int .i64 a, .int .i64 b, .int .i64 fn, .int .i64 obj, .int .i64 off, .int .i64 size, .int .u32 num, .slice aa args.length ca, .bool log]] w fun e w' => e = .returned (inA (plainI ⟨6, d, a, b, fn, obj, off, size, num, args, log⟩)) ∧ Below w.heap.size w w' := by
 obtain ⟨W0, hW0⟩ : ∃ W0, W0 = (w.alloc (.cells #[.int .i64 6, .int .i64 d, .int .i64 a, .int .i64 b, .int .i64 fn, .int .i64 obj, .int .i64 off, .int .i64 size, .int .u32 num, .slice aa args.length ca, .bool log] 48)).alloc (.cells #[.int .i64 0, .int .i64 0, .int .i64 0, .int .i64 0, .int .i64 0, .int .i64 0, .int .i64 0, .int .i64 0, .int .u32 0, .slice none 0 0, .bool false] 48) := ⟨_, rfl⟩
 clear hW0 W0
 go_enter Tryz.func89, Tryz.ntmps89
 go_wp2_with fail
 refine bodyPost_ret (v := .agg #[.int .i64 6, .int .i64 (-1), .int .i64 (-1), .int .i64 (-1), .int .i64 fn, .int .i64 obj, .int .i64 0, .int .i64 0, .int .u32 num, .slice none 0 0, .bool false]) (by simp [results, Tryz.results89, go_sem]) rfl ⟨rfl, ?_⟩
 exact (below_alloc w _).alloc (by simp) _
theorem plain_1 (d a b fn obj off size num : Int) (args : List Int) (log : Bool) (aa : Option Addr) (ca : Nat) (w : World) (hva : RdI w (.slice aa args.length ca) args) :
  Calls Tryz.prog 89 #[.agg #[.int .i64 1, .int .i64 d, .int .i64 a, .int .i64 b, .int .i64 fn, .int .i64 obj, .int .i64 off, .int .i64 size, .int .u32 num, .slice aa args.length ca, .bool log]] w fun e w' => e = .returned (inA (plainI ⟨1, d, a, b, fn, obj, off, size, num, args, log⟩)) ∧ Below w.heap.size w w' := by
 obtain ⟨W0, hW0⟩ : ∃ W0, W0 = (w.alloc (.cells #[.int .i64 1, .int .i64 d, .int .i64 a, .int .i64 b, .int .i64 fn, .int .i64 obj, .int .i64 off, .int .i64 size, .int .u32 num, .slice aa args.length ca, .bool log] 48)).alloc (.cells #[.int .i64 0, .int .i64 0, .int .i64 0, .int .i64 0, .int .i64 0, .int .i64 0, .int .i64 0, .int .i64 0, .int .u32 0, .slice none 0 0, .bool false] 48) := ⟨_, rfl⟩
 have hz0 : W0.heap.size = w.heap.size + 2 := by rw [hW0]; simp
 have ED := Lib.hid (def_c ⟨1, d, a, b, fn, obj, off, size, num, args, log⟩ (.agg #[.int .i64 1, .int .i64 d, .int .i64 a, .int .i64 b, .int .i64 fn, .int .i64 obj, .int .i64 off, .int .i64 size, .int .u32 num, .slice aa args.length ca, .bool log]) W0 ⟨_, rfl, hva.ext (by rw [hW0]; exact (Ext.alloc w _).trans (Ext.alloc _ _))⟩)
 have HC : Hid (∀ w', Below W0.heap.size W0 w' → ∀ j : Nat, j < 11 → w'.cell? ⟨w.heap.size, j, none⟩ = #[Value.int .i64 1, .int .i64 d, .int .i64 a, .int .i64 b, .int .i64 fn, .int .i64 obj, .int .i64 off, .int .i64 size, .int .u32 num, .slice aa args.length ca, .bool log][j]?) := fun w' hb j _ => by
  rw [hb.cell (p := ⟨w.heap.size, j, none⟩) (by rw [hz0]; simp only; omega), hW0, (below_alloc (w.alloc (.cells #[.int .i64 1, .int .i64 d, .int .i64 a, .int .i64 b, .int .i64 fn, .int .i64 obj, .int .i64 off, .int .i64 size, .int .u32 num, .slice aa args.length ca, .bool log] 48)) _).cell (p := ⟨w.heap.size, j, none⟩) (by simp)]
  exact cell_of_heap (heap_alloc_new w _) j
 have HY : Hid (∀ w', Below W0.heap.size W0 w' → ∀ j : Nat, j < 11 → w'.cell? ⟨w.heap.size + 1, j, none⟩ = #[Value.int .i64 0, .int .i64 0, .int .i64 0, .int .i64 0, .int .i64 0, .int .i64 0, .int .i64 0, .int .i64 0, .int .u32 0, .slice none 0 0, .bool false][j]?) := fun w' hb j _ => by
  rw [hb.cell (p := ⟨w.heap.size + 1, j, none⟩) (by rw [hz0]; simp only; omega), hW0]
  have := cell_of_heap (heap_alloc_new (w.alloc (.cells #[.int .i64 1, .int .i64 d, .int .i64 a, .int .i64 b, .int .i64 fn, .int .i64 obj, .int .i64 off, .int .i64 size, .int .u32 num, .slice aa args.length ca, .bool log] 48)) (.cells #[.int .i64 0, .int .i64 0, .int .i64 0, .int .i64 0, .int .i64 0, .int .i64 0, .int .i64 0, .int .i64 0, .int .u32 0, .slice none 0 0, .bool false] 48)) j
  simpa using this
 have HZ : Hid (∀ w', Below W0.heap.size W0 w' → ∀ j : Nat, w'.frozen? ⟨w.heap.size, j, none⟩ = false ∧ w'.frozen? ⟨w.heap.size + 1, j, none⟩ = false) := fun w' hb j => by
  rw [hb.frozen (p := ⟨w.heap.size, j, none⟩) (by rw [hz0]; simp only; omega), hb.frozen (p := ⟨w.heap.size + 1, j, none⟩) (by rw [hz0]; simp only; omega), hW0, (below_alloc (w.alloc (.cells #[.int .i64 1, .int .i64 d, .int .i64 a, .int .i64 b, .int .i64 fn, .int .i64 obj, .int .i64 off, .int .i64 size, .int .u32 num, .slice aa args.length ca, .bool log] 48)) _).frozen (p := ⟨w.heap.size, j, none⟩) (by simp)]
  have := frozen_of_heap (heap_alloc_new (w.alloc (.cells #[.int .i64 1, .int .i64 d, .int .i64 a, .int .i64 b, .int .i64 fn, .int .i64 obj, .int .i64 off, .int .i64 size, .int .u32 num, .slice aa args.length ca, .bool log] 48)) (.cells #[.int .i64 0, .int .i64 0, .int .i64 0, .int .i64 0, .int .i64 0, .int .i64 0, .int .i64 0, .int .i64 0, .int .u32 0, .slice none 0 0, .bool false] 48)) j
  exact ⟨frozen_of_heap (heap_alloc_new w _) j, by simpa using this⟩
 have HB : Hid (Below w.heap.size w W0) := by rw [hW0]; exact (below_alloc w _).alloc (by simp) _
 have HW0 := Lib.hid hW0
 have hza : W0.heap.size ≤ w.heap.size + 2 := Nat.le_of_eq hz0
 have hzb : w.heap.size + 2 ≤ W0.heap.size := Nat.le_of_eq hz0.symm
 clear hW0 hz0
 have HV : Hid (inA (plainI ⟨1, d, a, b, fn, obj, off, size, num, args, log⟩) = .agg #[.int .i64 1, .int .i64 (-1), .int .i64 (-1), .int .i64 (-1), .int .i64 fn, .int .i64 obj, .int .i64 off, .int .i64 size, .int .u32 0, .slice none 0 0, .bool (if (1 : Int) = 6 ∨ defI ⟨1, d, a, b, fn, obj, off, size, num, args, log⟩ ≠ -1 then false else log)]) := by
  show _ = _
  unfold inA plainI
  simp
 have H6 : Hid (¬ (1 : Int) = 6) := by show ¬ _; omega
 generalize defI ⟨1, d, a, b, fn, obj, off, size, num, args, log⟩ = df at ED HV
 cases hd : (df != -1)
 ·have HV2 : Hid (inA (plainI ⟨1, d, a, b, fn, obj, off, size, num, args, log⟩) = .agg #[.int .i64 1, .int .i64 (-1), .int .i64 (-1), .int .i64 (-1), .int .i64 fn, .int .i64 obj, .int .i64 off, .int .i64 size, .int .u32 0, .slice none 0 0, .bool log]) := by
   show _ = _
   rw [HV.out, if_neg]
   rintro (h | h)
   ·exact H6.out h
   ·rw [(by simpa using hd : df = -1)] at h; exact h rfl
  go_enter Tryz.func89, Tryz.ntmps89
  go_wp2_with fail
  rw [← HW0.out]
  refine ED.out.mono ?_
  rintro e w2 ⟨rfl, hb2⟩
  have x0 := HC.out w2 hb2 0 (by decide)
  have x1 := HC.out w2 hb2 1 (by decide)
  have x2 := HC.out w2 hb2 2 (by decide)
  have x3 := HC.out w2 hb2 3 (by decide)
  have x4 := HC.out w2 hb2 4 (by decide)
  have x5 := HC.out w2 hb2 5 (by decide)
  have x6 := HC.out w2 hb2 6 (by decide)
  have x7 := HC.out w2 hb2 7 (by decide)
  have x8 := HC.out w2 hb2 8 (by decide)
  have x9 := HC.out w2 hb2 9 (by decide)
  have x10 := HC.out w2 hb2 10 (by decide)
  have y0 := HY.out w2 hb2 0 (by decide)
  have y1 := HY.out w2 hb2 1 (by decide)
  have y2 := HY.out w2 hb2 2 (by decide)
  have y3 := HY.out w2 hb2 3 (by decide)
  have y4 := HY.out w2 hb2 4 (by decide)
  have y5 := HY.out w2 hb2 5 (by decide)
  have y6 := HY.out w2 hb2 6 (by decide)
  have y7 := HY.out w2 hb2 7 (by decide)
  have y8 := HY.out w2 hb2 8 (by decide)
  have y9 := HY.out w2 hb2 9 (by decide)
  have y10 := HY.out w2 hb2 10 (by decide)
  simp at x0 x1 x2 x3 x4 x5 x6 x7 x8 x9 x10 y0 y1 y2 y3 y4 y5 y6 y7 y8 y9 y10
  have z := fun j => (HZ.out w2 hb2 j).1
  have z1 := fun j => (HZ.out w2 hb2 j).2
  have hz2 : w.heap.size + 2 ≤ w2.heap.size := Nat.le_trans hzb hb2.size
  have HB2 := Lib.hid (HB.out.trans (hb2.mono (by omega)))
  clear hb2
  go_wp2_with fail
  refine bodyPost_ret (v := .agg #[.int .i64 1, .int .i64 (-1), .int .i64 (-1), .int .i64 (-1), .int .i64 fn, .int .i64 obj, .int .i64 off, .int .i64 size, .int .u32 0, .slice none 0 0, .bool log]) (by simp [results, Tryz.results89, go_sem, hz2, y0, y1, y2, y3, y4, y5, y6, y7, y8, y9, y10]) rfl ⟨by rw [HV2.out], ?_⟩
  repeat (refine Below.setCell ?_ (by simp) _)
  exact HB2.out
 ·have HV2 : Hid (inA (plainI ⟨1, d, a, b, fn, obj, off, size, num, args, log⟩) = .agg #[.int .i64 1, .int .i64 (-1), .int .i64 (-1), .int .i64 (-1), .int .i64 fn, .int .i64 obj, .int .i64 off, .int .i64 size, .int .u32 0, .slice none 0 0, .bool false]) := by
   show _ = _
   rw [HV.out, if_pos]
   right
   intro h
   rw [h] at hd
   exact absurd hd (by decide)
  go_enter Tryz.func89, Tryz.ntmps89
  go_wp2_with fail
  rw [← HW0.out]
  refine ED.out.mono ?_
  rintro e w2 ⟨rfl, hb2⟩
  have x0 := HC.out w2 hb2 0 (by decide)
  have x1 := HC.out w2 hb2 1 (by decide)
  have x2 := HC.out w2 hb2 2 (by decide)
  have x3 := HC.out w2 hb2 3 (by decide)
  have x4 := HC.out w2 hb2 4 (by decide)
  have x5 := HC.out w2 hb2 5 (by decide)
  have x6 := HC.out w2 hb2 6 (by decide)
  have x7 := HC.out w2 hb2 7 (by decide)
  have x8 := HC.out w2 hb2 8 (by decide)
  have x9 := HC.out w2 hb2 9 (by decide)
  have x10 := HC.out w2 hb2 10 (by decide)
  have y0 := HY.out w2 hb2 0 (by decide)
  have y1 := HY.out w2 hb2 1 (by decide)
  have y2 := HY.out w2 hb2 2 (by decide)
  have y3 := HY.out w2 hb2 3 (by decide)
  have y4 := HY.out w2 hb2 4 (by decide)
  have y5 := HY.out w2 hb2 5 (by decide)
  have y6 := HY.out w2 hb2 6 (by decide)
  have y7 := HY.out w2 hb2 7 (by decide)
  have y8 := HY.out w2 hb2 8 (by decide)
  have y9 := HY.out w2 hb2 9 (by decide)
  have y10 := HY.out w2 hb2 10 (by decide)
  simp at x0 x1 x2 x3 x4 x5 x6 x7 x8 x9 x10 y0 y1 y2 y3 y4 y5 y6 y7 y8 y9 y10
  have z := fun j => (HZ.out w2 hb2 j).1
  have z1 := fun j => (HZ.out w2 hb2 j).2
  have hz2 : w.heap.size + 2 ≤ w2.heap.size := Nat.le_trans hzb hb2.size
  have HB2 := Lib.hid (HB.out.trans (hb2.mono (by omega)))
  clear hb2
  go_wp2_with fail
  refine bodyPost_ret (v := .agg #[.int .i64 1, .int .i64 (-1), .int .i64 (-1), .int .i64 (-1), .int .i64 fn, .int .i64 obj, .int .i64 off, .int .i64 size, .int .u32 0, .slice none 0 0, .bool false]) (by simp [results, Tryz.results89, go_sem, hz2, y0, y1, y2, y3, y4, y5, y6, y7, y8, y9, y10]) rfl ⟨by rw [HV2.out], ?_⟩
  repeat (refine Below.setCell ?_ (by simp) _)
  exact HB2.out
theorem plain_2 (d a b fn obj off size num : Int) (args : List Int) (log : Bool) (aa : Option Addr) (ca : Nat) (w : World) (hva : RdI w (.slice aa args.length ca) args) :
  Calls Tryz.prog 89 #[.agg #[.int .i64 2, .int .i64 d, .int .i64 a, .int .i64 b, .int .i64 fn, .int .i64 obj, .int .i64 off, .int .i64 size, .int .u32 num, .slice aa args.length ca, .bool log]] w fun e w' => e = .returned (inA (plainI ⟨2, d, a, b, fn, obj, off, size, num, args, log⟩)) ∧ Below w.heap.size w w' := by
 obtain ⟨W0, hW0⟩ : ∃ W0, W0 = (w.alloc (.cells #[.int .i64 2, .int .i64 d, .int .i64 a, .int .i64 b, .int .i64 fn, .int .i64 obj, .int .i64 off, .int .i64 size, .int .u32 num, .slice aa args.length ca, .bool log] 48)).alloc (.cells #[.int .i64 0, .int .i64 0, .int .i64 0, .int .i64 0, .int .i64 0, .int .i64 0, .int .i64 0, .int .i64 0, .int .u32 0, .slice none 0 0, .bool false] 48) := ⟨_, rfl⟩
 have hz0 : W0.heap.size = w.heap.size + 2 := by rw [hW0]; simp
 have ED := Lib.hid (def_c ⟨2, d, a, b, fn, obj, off, size, num, args, log⟩ (.agg #[.int .i64 2, .int .i64 d, .int .i64 a, .int .i64 b, .int .i64 fn, .int .i64 obj, .int .i64 off, .int .i64 size, .int .u32 num, .slice aa args.length ca, .bool log]) W0 ⟨_, rfl, hva.ext (by rw [hW0]; exact (Ext.alloc w _).trans (Ext.alloc _ _))⟩)
 have HC : Hid (∀ w', Below W0.heap.size W0 w' → ∀ j : Nat, j < 11 → w'.cell? ⟨w.heap.size, j, none⟩ = #[Value.int .i64 2, .int .i64 d, .int .i64 a, .int .i64 b, .int .i64 fn, .int .i64 obj, .int .i64 off, .int .i64 size, .int .u32 num, .slice aa args.length ca, .bool log][j]?) := fun w' hb j _ => by
  rw [hb.cell (p := ⟨w.heap.size, j, none⟩) (by rw [hz0]; simp only; omega), hW0, (below_alloc (w.alloc (.cells #[.int .i64 2, .int .i64 d, .int .i64 a, .int .i64 b, .int .i64 fn, .int .i64 obj, .int .i64 off, .int .i64 size, .int .u32 num, .slice aa args.length ca, .bool log] 48)) _).cell (p := ⟨w.heap.size, j, none⟩) (by simp)]
  exact cell_of_heap (heap_alloc_new w _) j
 have HY : Hid (∀ w', Below W0.heap.size W0 w' → ∀ j : Nat, j < 11 → w'.cell? ⟨w.heap.size + 1, j, none⟩ = #[Value.int .i64 0, .int .i64 0, .int .i64 0, .int .i64 0, .int .i64 0, .int .i64 0, .int .i64 0, .int .i64 0, .int .u32 0, .slice none 0 0, .bool false][j]?) := fun w' hb j _ => by
  rw [hb.cell (p := ⟨w.heap.size + 1, j, none⟩) (by rw [hz0]; simp only; omega), hW0]
  have := cell_of_heap (heap_alloc_new (w.alloc (.cells #[.int .i64 2, .int .i64 d, .int .i64 a, .int .i64 b, .int .i64 fn, .int .i64 obj, .int .i64 off, .int .i64 size, .int .u32 num, .slice aa args.length ca, .bool log] 48)) (.cells #[.int .i64 0, .int .i64 0, .int .i64 0, .int .i64 0, .int .i64 0, .int .i64 0, .int .i64 0, .int .i64 0, .int .u32 0, .slice none 0 0, .bool false] 48)) j
  simpa using this
 have HZ : Hid (∀ w', Below W0.heap.size W0 w' → ∀ j : Nat, w'.frozen? ⟨w.heap.size, j, none⟩ = false ∧ w'.frozen? ⟨w.heap.size + 1, j, none⟩ = false) := fun w' hb j => by
  rw [hb.frozen (p := ⟨w.heap.size, j, none⟩) (by rw [hz0]; simp only; omega), hb.frozen (p := ⟨w.heap.size + 1, j, none⟩) (by rw [hz0]; simp only; omega), hW0, (below_alloc (w.alloc (.cells #[.int .i64 2, .int .i64 d, .int .i64 a, .int .i64 b, .int .i64 fn, .int .i64 obj, .int .i64 off, .int .i64 size, .int .u32 num, .slice aa args.length ca, .bool log] 48)) _).frozen (p := ⟨w.heap.size, j, none⟩) (by simp)]
  have := frozen_of_heap (heap_alloc_new (w.alloc (.cells #[.int .i64 2, .int .i64 d, .int .i64 a, .int .i64 b, .int .i64 fn, .int .i64 obj, .int .i64 off, .int .i64 size, .int .u32 num, .slice aa args.length ca, .bool log] 48)) (.cells #[.int .i64 0, .int .i64 0, .int .i64 0, .int .i64 0, .int .i64 0, .int .i64 0, .int .i64 0, .int .i64 0, .int .u32 0, .slice none 0 0, .bool false] 48)) j
  exact ⟨frozen_of_heap (heap_alloc_new w _) j, by simpa using this⟩
 have HB : Hid (Below w.heap.size w W0) := by rw [hW0]; exact (below_alloc w _).alloc (by simp) _
 have HW0 := Lib.hid hW0
 have hza : W0.heap.size ≤ w.heap.size + 2 := Nat.le_of_eq hz0
 have hzb : w.heap.size + 2 ≤ W0.heap.size := Nat.le_of_eq hz0.symm
 clear hW0 hz0
 have HV : Hid (inA (plainI ⟨2, d, a, b, fn, obj, off, size, num, args, log⟩) = .agg #[.int .i64 2, .int .i64 (-1), .int .i64 (-1), .int .i64 (-1), .int .i64 fn, .int .i64 obj, .int .i64 off, .int .i64 size, .int .u32 num, .slice none 0 0, .bool (if (2 : Int) = 6 ∨ defI ⟨2, d, a, b, fn, obj, off, size, num, args, log⟩ ≠ -1 then false else log)]) := by
  show _ = _
  unfold inA plainI
  simp
 have H6 : Hid (¬ (2 : Int) = 6) := by show ¬ _; omega
 generalize defI ⟨2, d, a, b, fn, obj, off, size, num, args, log⟩ = df at ED HV
 cases hd : (df != -1)
 ·have HV2 : Hid (inA (plainI ⟨2, d, a, b, fn, obj, off, size, num, args, log⟩) = .agg #[.int .i64 2, .int .i64 (-1), .int .i64 (-1), .int .i64 (-1), .int .i64 fn, .int .i64 obj, .int .i64 off, .int .i64 size, .int .u32 num, .slice none 0 0, .bool log]) := by
   show _ = _
   rw [HV.out, if_neg]
   rintro (h | h)
   ·exact H6.out h
   ·rw [(by simpa using hd : df = -1)] at h; exact h rfl
  go_enter Tryz.func89, Tryz.ntmps89
  go_wp2_with fail
  rw [← HW0.out]
  refine ED.out.mono ?_
  rintro e w2 ⟨rfl, hb2⟩
  have x0 := HC.out w2 hb2 0 (by decide)
  have x1 := HC.out w2 hb2 1 (by decide)
  have x2 := HC.out w2 hb2 2 (by decide)
  have x3 := HC.out w2 hb2 3 (by decide)
  have x4 := HC.out w2 hb2 4 (by decide)
  have x5 := HC.out w2 hb2 5 (by decide)
  have x6 := HC.out w2 hb2 6 (by decide)
  have x7 := HC.out w2 hb2 7 (by decide)
  have x8 := HC.out w2 hb2 8 (by decide)
  have x9 := HC.out w2 hb2 9 (by decide)
  have x10 := HC.out w2 hb2 10 (by decide)
  have y0 := HY.out w2 hb2 0 (by decide)
  have y1 := HY.out w2 hb2 1 (by decide)
  have y2 := HY.out w2 hb2 2 (by decide)
  have y3 := HY.out w2 hb2 3 (by decide)
  have y4 := HY.out w2 hb2 4 (by decide)
  have y5 := HY.out w2 hb2 5 (by decide)
  have y6 := HY.out w2 hb2 6 (by decide)
  have y7 := HY.out w2 hb2 7 (by decide)
  have y8 := HY.out w2 hb2 8 (by decide)
  have y9 := HY.out w2 hb2 9 (by decide)
  have y10 := HY.out w2 hb2 10 (by decide)
  simp at x0 x1 x2 x3 x4 x5 x6 x7 x8 x9 x10 y0 y1 y2 y3 y4 y5 y6 y7 y8 y9 y10
  have z := fun j => (HZ.out w2 hb2 j).1
  have z1 := fun j => (HZ.out w2 hb2 j).2
  have hz2 : w.heap.size + 2 ≤ w2.heap.size := Nat.le_trans hzb hb2.size
  have HB2 := Lib.hid (HB.out.trans (hb2.mono (by omega)))
  clear hb2
  go_wp2_with fail
  refine bodyPost_ret (v := .agg #[.int .i64 2, .int .i64 (-1), .int .i64 (-1), .int .i64 (-1), .int .i64 fn, .int .i64 obj, .int .i64 off, .int .i64 size, .int .u32 num, .slice none 0 0, .bool log]) (by simp [results, Tryz.results89, go_sem, hz2, y0, y1, y2, y3, y4, y5, y6, y7, y8, y9, y10]) rfl ⟨by rw [HV2.out], ?_⟩
  repeat (refine Below.setCell ?_ (by simp) _)
  exact HB2.out
 ·have HV2 : Hid (inA (plainI ⟨2, d, a, b, fn, obj, off, size, num, args, log⟩) = .agg #[.int .i64 2, .int .i64 (-1), .int .i64 (-1), .int .i64 (-1), .int .i64 fn, .int .i64 obj, .int .i64 off, .int .i64 size, .int .u32 num, .slice none 0 0, .bool false]) := by
   show _ = _
   rw [HV.out, if_pos]
   right
   intro h
   rw [h] at hd
   exact absurd hd (by decide)
  go_enter Tryz.func89, Tryz.ntmps89
  go_wp2_with fail
  rw [← HW0.out]
  refine ED.out.mono ?_
  rintro e w2 ⟨rfl, hb2⟩
  have x0 := HC.out w2 hb2 0 (by decide)
  have x1 := HC.out w2 hb2 1 (by decide)
  have x2 := HC.out w2 hb2 2 (by decide)
  have x3 := HC.out w2 hb2 3 (by decide)
  have x4 := HC.out w2 hb2 4 (by decide)
  have x5 := HC.out w2 hb2 5 (by decide)
  have x6 := HC.out w2 hb2 6 (by decide)
  have x7 := HC.out w2 hb2 7 (by decide)
  have x8 := HC.out w2 hb2 8 (by decide)
  have x9 := HC.out w2 hb2 9 (by decide)
  have x10 := HC.out w2 hb2 10 (by decide)
  have y0 := HY.out w2 hb2 0 (by decide)
  have y1 := HY.out w2 hb2 1 (by decide)
  have y2 := HY.out w2 hb2 2 (by decide)
  have y3 := HY.out w2 hb2 3 (by decide)
  have y4 := HY.out w2 hb2 4 (by decide)
  have y5 := HY.out w2 hb2 5 (by decide)
  have y6 := HY.out w2 hb2 6 (by decide)
  have y7 := HY.out w2 hb2 7 (by decide)
  have y8 := HY.out w2 hb2 8 (by decide)
  have y9 := HY.out w2 hb2 9 (by decide)
  have y10 := HY.out w2 hb2 10 (by decide)
  simp at x0 x1 x2 x3 x4 x5 x6 x7 x8 x9 x10 y0 y1 y2 y3 y4 y5 y6 y7 y8 y9 y10
  have z := fun j => (HZ.out w2 hb2 j).1
  have z1 := fun j => (HZ.out w2 hb2 j).2
  have hz2 : w.heap.size + 2 ≤ w2.heap.size := Nat.le_trans hzb hb2.size
  have HB2 := Lib.hid (HB.out.trans (hb2.mono (by omega)))
  clear hb2
  go_wp2_with fail
  refine bodyPost_ret (v := .agg #[.int .i64 2, .int .i64 (-1), .int .i64 (-1), .int .i64 (-1), .int .i64 fn, .int .i64 obj, .int .i64 off, .int .i64 size, .int .u32 num, .slice none 0 0, .bool false]) (by simp [results, Tryz.results89, go_sem, hz2, y0, y1, y2, y3, y4, y5, y6, y7, y8, y9, y10]) rfl ⟨by rw [HV2.out], ?_⟩
  repeat (refine Below.setCell ?_ (by simp) _)
  exact HB2.out
theorem plain_3 (d a b fn obj off size num : Int) (args : List Int) (log : Bool) (aa : Option Addr) (ca : Nat) (w : World) (hva : RdI w (.slice aa args.length ca) args) :
  Calls Tryz.prog 89 #[.agg #[.int .i64 3, .int .i64 d, .int .i64 a, .int .i64 b, .int .i64 fn, .int .i64 obj, .int .i64 off, .int .i64 size, .int .u32 num, .slice aa args.length ca, .bool log]] w fun e w' => e = .returned (inA (plainI ⟨3, d, a, b, fn, obj, off, size, num, args, log⟩)) ∧ Below w.heap.size w w' := by
 obtain ⟨W0, hW0⟩ : ∃ W0, W0 = (w.alloc (.cells #[.int .i64 3, .int .i64 d, .int .i64 a, .int .i64 b, .int .i64 fn, .int .i64 obj, .int .i64 off, .int .i64 size, .int .u32 num, .slice aa args.length ca, .bool log] 48)).alloc (.cells #[.int .i64 0, .int .i64 0, .int .i64 0, .int .i64 0, .int .i64 0, .int .i64 0, .int .i64 0, .int .i64 0, .int .u32 0, .slice none 0 0, .bool false] 48) := ⟨_, rfl⟩
 have hz0 : W0.heap.size = w.heap.size + 2 := by rw [hW0]; simp
 have ED := Lib.hid (def_c ⟨3, d, a, b, fn, obj, off, size, num, args, log⟩ (.agg #[.int .i64 3, .int .i64 d, .int .i64 a, .int .i64 b, .int .i64 fn, .int .i64 obj, .int .i64 off, .int .i64 size, .int .u32 num, .slice aa args.length ca, .bool log]) W0 ⟨_, rfl, hva.ext (by rw [hW0]; exact (Ext.alloc w _).trans (Ext.alloc _ _))⟩)
 have HC : Hid (∀ w', Below W0.heap.size W0 w' → ∀ j : Nat, j < 11 → w'.cell? ⟨w.heap.size, j, none⟩ = #[Value.int .i64 3, .int .i64 d, .int .i64 a, .int .i64 b, .int .i64 fn, .int .i64 obj, .int .i64 off, .int .i64 size, .int .u32 num, .slice aa args.length ca, .bool log][j]?) := fun w' hb j _ => by
  rw [hb.cell (p := ⟨w.heap.size, j, none⟩) (by rw [hz0]; simp only; omega), hW0, (below_alloc (w.alloc (.cells #[.int .i64 3, .int .i64 d, .int .i64 a, .int .i64 b, .int .i64 fn, .int .i64 obj, .int .i64 off, .int .i64 size, .int .u32 num, .slice aa args.length ca, .bool log] 48)) _).cell (p := ⟨w.heap.size, j, none⟩) (by simp)]
  exact cell_of_heap (heap_alloc_new w _) j
 have HY : Hid (∀ w', Below W0.heap.size W0 w' → ∀ j : Nat, j < 11 → w'.cell? ⟨w.heap.size + 1, j, none⟩ = #[Value.int .i64 0, .int .i64 0, .int .i64 0, .int .i64 0, .int .i64 0, .int .i64 0, .int .i64 0, .int .i64 0, .int .u32 0, .slice none 0 0, .bool false][j]?) := fun w' hb j _ => by
  rw [hb.cell (p := ⟨w.heap.size + 1, j, none⟩) (by rw [hz0]; simp only; omega), hW0]
  have := cell_of_heap (heap_alloc_new (w.alloc (.cells #[.int .i64 3, .int .i64 d, .int .i64 a, .int .i64 b, .int .i64 fn, .int .i64 obj, .int .i64 off, .int .i64 size, .int .u32 num, .slice aa args.length ca, .bool log] 48)) (.cells #[.int .i64 0, .int .i64 0, .int .i64 0, .int .i64 0, .int .i64 0, .int .i64 0, .int .i64 0, .int .i64 0, .int .u32 0, .slice none 0 0, .bool false] 48)) j
  simpa using this
 have HZ : Hid (∀ w', Below W0.heap.size W0 w' → ∀ j : Nat, w'.frozen? ⟨w.heap.size, j, none⟩ = false ∧ w'.frozen? ⟨w.heap.size + 1, j, none⟩ = false) := fun w' hb j => by
  rw [hb.frozen (p := ⟨w.heap.size, j, none⟩) (by rw [hz0]; simp only; omega), hb.frozen (p := ⟨w.heap.size + 1, j, none⟩) (by rw [hz0]; simp only; omega), hW0, (below_alloc (w.alloc (.cells #[.int .i64 3, .int .i64 d, .int .i64 a, .int .i64 b, .int .i64 fn, .int .i64 obj, .int .i64 off, .int .i64 size, .int .u32 num, .slice aa args.length ca, .bool log] 48)) _).frozen (p := ⟨w.heap.size, j, none⟩) (by simp)]
  have := frozen_of_heap (heap_alloc_new (w.alloc (.cells #[.int .i64 3, .int .i64 d, .int .i64 a, .int .i64 b, .int .i64 fn, .int .i64 obj, .int .i64 off, .int .i64 size, .int .u32 num, .slice aa args.length ca, .bool log] 48)) (.cells #[.int .i64 0, .int .i64 0, .int .i64 0, .int .i64 0, .int .i64 0, .int .i64 0, .int .i64 0, .int .i64 0, .int .u32 0, .slice none 0 0, .bool false] 48)) j
  exact ⟨frozen_of_heap (heap_alloc_new w _) j, by simpa using this⟩
 have HB : Hid (Below w.heap.size w W0) := by rw [hW0]; exact (below_alloc w _).alloc (by simp) _
 have HW0 := Lib.hid hW0
 have hza : W0.heap.size ≤ w.heap.size + 2 := Nat.le_of_eq hz0
 have hzb : w.heap.size + 2 ≤ W0.heap.size := Nat.le_of_eq hz0.symm
 clear hW0 hz0
 have HV : Hid (inA (plainI ⟨3, d, a, b, fn, obj, off, size, num, args, log⟩) = .agg #[.int .i64 3, .int .i64 (-1), .int .i64 (-1), .int .i64 (-1), .int .i64 0, .int .i64 obj, .int .i64 off, .int .i64 size, .int .u32 num, .slice none 0 0, .bool (if (3 : Int) = 6 ∨ defI ⟨3, d, a, b, fn, obj, off, size, num, args, log⟩ ≠ -1 then false else log)]) := by
  show _ = _
  unfold inA plainI
  simp
 have H6 : Hid (¬ (3 : Int) = 6) := by show ¬ _; omega
 generalize defI ⟨3, d, a, b, fn, obj, off, size, num, args, log⟩ = df at ED HV
 cases hd : (df != -1)
 ·have HV2 : Hid (inA (plainI ⟨3, d, a, b, fn, obj, off, size, num, args, log⟩) = .agg #[.int .i64 3, .int .i64 (-1), .int .i64 (-1), .int .i64 (-1), .int .i64 0, .int .i64 obj, .int .i64 off, .int .i64 size, .int .u32 num, .slice none 0 0, .bool log]) := by
   show _ = _
   rw [HV.out, if_neg]
   rintro (h | h)
   ·exact H6.out h
   ·rw [(by simpa using hd : df = -1)] at h; exact h rfl
  go_enter Tryz.func89, Tryz.ntmps89
  go_wp2_with fail
  rw [← HW0.out]
  refine ED.out.mono ?_
  rintro e w2 ⟨rfl, hb2⟩
  have x0 := HC.out w2 hb2 0 (by decide)
  have x1 := HC.out w2 hb2 1 (by decide)
  have x2 := HC.out w2 hb2 2 (by decide)
  have x3 := HC.out w2 hb2 3 (by decide)
  have x4 := HC.out w2 hb2 4 (by decide)
  have x5 := HC.out w2 hb2 5 (by decide)
  have x6 := HC.out w2 hb2 6 (by decide)
  have x7 := HC.out w2 hb2 7 (by decide)
  have x8 := HC.out w2 hb2 8 (by decide)
  have x9 := HC.out w2 hb2 9 (by decide)
  have x10 := HC.out w2 hb2 10 (by decide)
  have y0 := HY.out w2 hb2 0 (by decide)
  have y1 := HY.out w2 hb2 1 (by decide)
  have y2 := HY.out w2 hb2 2 (by decide)
  have y3 := HY.out w2 hb2 3 (by decide)
  have y4 := HY.out w2 hb2 4 (by decide)
  have y5 := HY.out w2 hb2 5 (by decide)
  have y6 := HY.out w2 hb2 6 (by decide)
  have y7 := HY.out w2 hb2 7 (by decide)
  have y8 := HY.out w2 hb2 8 (by decide)
  have y9 := HY.out w2 hb2 9 (by decide)
  have y10 := HY.out w2 hb2 10 (by decide)
  simp at x0 x1 x2 x3 x4 x5 x6 x7 x8 x9 x10 y0 y1 y2 y3 y4 y5 y6 y7 y8 y9 y10
  have z := fun j => (HZ.out w2 hb2 j).1
  have z1 := fun j => (HZ.out w2 hb2 j).2
  have hz2 : w.heap.size + 2 ≤ w2.heap.size := Nat.le_trans hzb hb2.size
  have HB2 := Lib.hid (HB.out.trans (hb2.mono (by omega)))
  clear hb2
  go_wp2_with fail
  refine bodyPost_ret (v := .agg #[.int .i64 3, .int .i64 (-1), .int .i64 (-1), .int .i64 (-1), .int .i64 0, .int .i64 obj, .int .i64 off, .int .i64 size, .int .u32 num, .slice none 0 0, .bool log]) (by simp [results, Tryz.results89, go_sem, hz2, y0, y1, y2, y3, y4, y5, y6, y7, y8, y9, y10]) rfl ⟨by rw [HV2.out], ?_⟩
  repeat (refine Below.setCell ?_ (by simp) _)
  exact HB2.out
 ·have HV2 : Hid (inA (plainI ⟨3, d, a, b, fn, obj, off, size, num, args, log⟩) = .agg #[.int .i64 3, .int .i64 (-1), .int .i64 (-1), .int .i64 (-1), .int .i64 0, .int .i64 obj, .int .i64 off, .int .i64 size, .int .u32 num, .slice none 0 0, .bool false]) := by
   show _ = _
   rw [HV.out, if_pos]
   right
   intro h
   rw [h] at hd
   exact absurd hd (by decide)
  go_enter Tryz.func89, Tryz.ntmps89
  go_wp2_with fail
  rw [← HW0.out]
  refine ED.out.mono ?_
  rintro e w2 ⟨rfl, hb2⟩
  have x0 := HC.out w2 hb2 0 (by decide)
  have x1 := HC.out w2 hb2 1 (by decide)
  have x2 := HC.out w2 hb2 2 (by decide)
  have x3 := HC.out w2 hb2 3 (by decide)
  have x4 := HC.out w2 hb2 4 (by decide)
  have x5 := HC.out w2 hb2 5 (by decide)
  have x6 := HC.out w2 hb2 6 (by decide)
  have x7 := HC.out w2 hb2 7 (by decide)
  have x8 := HC.out w2 hb2 8 (by decide)
  have x9 := HC.out w2 hb2 9 (by decide)
  have x10 := HC.out w2 hb2 10 (by decide)
  have y0 := HY.out w2 hb2 0 (by decide)
  have y1 := HY.out w2 hb2 1 (by decide)
  have y2 := HY.out w2 hb2 2 (by decide)
  have y3 := HY.out w2 hb2 3 (by decide)
  have y4 := HY.out w2 hb2 4 (by decide)
  have y5 := HY.out w2 hb2 5 (by decide)
  have y6 := HY.out w2 hb2 6 (by decide)
  have y7 := HY.out w2 hb2 7 (by decide)
  have y8 := HY.out w2 hb2 8 (by decide)
  have y9 := HY.out w2 hb2 9 (by decide)
  have y10 := HY.out w2 hb2 10 (by decide)
  simp at x0 x1 x2 x3 x4 x5 x6 x7 x8 x9 x10 y0 y1 y2 y3 y4 y5 y6 y7 y8 y9 y10
  have z := fun j => (HZ.out w2 hb2 j).1
  have z1 := fun j => (HZ.out w2 hb2 j).2
  have hz2 : w.heap.size + 2 ≤ w2.heap.size := Nat.le_trans hzb hb2.size
  have HB2 := Lib.hid (HB.out.trans (hb2.mono (by omega)))
  clear hb2
  go_wp2_with fail
  refine bodyPost_ret (v := .agg #[.int .i64 3, .int .i64 (-1), .int .i64 (-1), .int .i64 (-1), .int .i64 0, .int .i64 obj, .int .i64 off, .int .i64 size, .int .u32 num, .slice none 0 0, .bool false]) (by simp [results, Tryz.results89, go_sem, hz2, y0, y1, y2, y3, y4, y5, y6, y7, y8, y9, y10]) rfl ⟨by rw [HV2.out], ?_⟩
  repeat (refine Below.setCell ?_ (by simp) _)
  exact HB2.out
theorem plain_4 (d a b fn obj off size num : Int) (args : List Int) (log : Bool) (aa : Option Addr) (ca : Nat) (w : World) (hva : RdI w (.slice aa args.length ca) args) :
  Calls Tryz.prog 89 #[.agg #[.int .i64 4, .int .i64 d, .int .i64 a, .int .i64 b, .int .i64 fn, .int .i64 obj, .int .i64 off, .int .i64 size, .int .u32 num, .slice aa args.length ca, .bool log]] w fun e w' => e = .returned (inA (plainI ⟨4, d, a, b, fn, obj, off, size, num, args, log⟩)) ∧ Below w.heap.size w w' := by
 obtain ⟨W0, hW0⟩ : ∃ W0, W0 = (w.alloc (.cells #[.int .i64 4, .int .i64 d, .int .i64 a, .int .i64 b, .int .i64 fn, .int .i64 obj, .int .i64 off, .int .i64 size, .int .u32 num, .slice aa args.length ca, .bool log] 48)).alloc (.cells #[.int .i64 0, .int .i64 0, .int .i64 0, .int .i64 0, .int .i64 0, .int .i64 0, .int .i64 0, .int .i64 0, .int .u32 0, .slice none 0 0, .bool false] 48) := ⟨_, rfl⟩
 have hz0 : W0.heap.size = w.heap.size + 2 := by rw [hW0]; simp
 have ED := Lib.hid (def_c ⟨4, d, a, b, fn, obj, off, size, num, args, log⟩ (.agg #[.int .i64 4, .int .i64 d, .int .i64 a, .int .i64 b, .int .i64 fn, .int .i64 obj, .int .i64 off, .int .i64 size, .int .u32 num, .slice aa args.length ca, .bool log]) W0 ⟨_, rfl, hva.ext (by rw [hW0]; exact (Ext.alloc w _).trans (Ext.alloc _ _))⟩)
 have HC : Hid (∀ w', Below W0.heap.size W0 w' → ∀ j : Nat, j < 11 → w'.cell? ⟨w.heap.size, j, none⟩ = #[Value.int .i64 4, .int .i64 d, .int .i64 a, .int .i64 b, .int .i64 fn, .int .i64 obj, .int .i64 off, .int .i64 size, .int .u32 num, .slice aa args.length ca, .bool log][j]?) := fun w' hb j _ => by
  rw [hb.cell (p := ⟨w.heap.size, j, none⟩) (by rw [hz0]; simp only; omega), hW0, (below_alloc (w.alloc (.cells #[.int .i64 4, .int .i64 d, .int .i64 a, .int .i64 b, .int .i64 fn, .int .i64 obj, .int .i64 off, .int .i64 size, .int .u32 num, .slice aa args.length ca, .bool log] 48)) _).cell (p := ⟨w.heap.size, j, none⟩) (by simp)]
  exact cell_of_heap (heap_alloc_new w _) j
 have HY : Hid (∀ w', Below W0.heap.size W0 w' → ∀ j : Nat, j < 11 → w'.cell? ⟨w.heap.size + 1, j, none⟩ = #[Value.int .i64 0, .int .i64 0, .int .i64 0, .int .i64 0, .int .i64 0, .int .i64 0, .int .i64 0, .int .i64 0, .int .u32 0, .slice none 0 0, .bool false][j]?) := fun w' hb j _ => by
  rw [hb.cell (p := ⟨w.heap.size + 1, j, none⟩) (by rw [hz0]; simp only; omega), hW0]
  have := cell_of_heap (heap_alloc_new (w.alloc (.cells #[.int .i64 4, .int .i64 d, .int .i64 a, .int .i64 b, .int .i64 fn, .int .i64 obj, .int .i64 off, .int .i64 size, .int .u32 num, .slice aa args.length ca, .bool log] 48)) (.cells #[.int .i64 0, .int .i64 0, .int .i64 0, .int .i64 0, .int .i64 0, .int .i64 0, .int .i64 0, .int .i64 0, .int .u32 0, .slice none 0 0, .bool false] 48)) j
  simpa using this
 have HZ : Hid (∀ w', Below W0.heap.size W0 w' → ∀ j : Nat, w'.frozen? ⟨w.heap.size, j, none⟩ = false ∧ w'.frozen? ⟨w.heap.size + 1, j, none⟩ = false) := fun w' hb j => by
  rw [hb.frozen (p := ⟨w.heap.size, j, none⟩) (by rw [hz0]; simp only; omega), hb.frozen (p := ⟨w.heap.size + 1, j, none⟩) (by rw [hz0]; simp only; omega), hW0, (below_alloc (w.alloc (.cells #[.int .i64 4, .int .i64 d, .int .i64 a, .int .i64 b, .int .i64 fn, .int .i64 obj, .int .i64 off, .int .i64 size, .int .u32 num, .slice aa args.length ca, .bool log] 48)) _).frozen (p := ⟨w.heap.size, j, none⟩) (by simp)]
  have := frozen_of_heap (heap_alloc_new (w.alloc (.cells #[.int .i64 4, .int .i64 d, .int .i64 a, .int .i64 b, .int .i64 fn, .int .i64 obj, .int .i64 off, .int .i64 size, .int .u32 num, .slice aa args.length ca, .bool log] 48)) (.cells #[.int .i64 0, .int .i64 0, .int .i64 0, .int .i64 0, .int .i64 0, .int .i64 0, .int .i64 0, .int .i64 0, .int .u32 0, .slice none 0 0, .bool false] 48)) j
  exact ⟨frozen_of_heap (heap_alloc_new w _) j, by simpa using this⟩
 have HB : Hid (Below w.heap.size w W0) := by rw [hW0]; exact (below_alloc w _).alloc (by simp) _
 have HW0 := Lib.hid hW0
 have hza : W0.heap.size ≤ w.heap.size + 2 := Nat.le_of_eq hz0
 have hzb : w.heap.size + 2 ≤ W0.heap.size := Nat.le_of_eq hz0.symm
 clear hW0 hz0
 have HV : Hid (inA (plainI ⟨4, d, a, b, fn, obj, off, size, num, args, log⟩) = .agg #[.int .i64 4, .int .i64 (-1), .int .i64 (-1), .int .i64 (-1), .int .i64 0, .int .i64 obj, .int .i64 off, .int .i64 size, .int .u32 num, .slice none 0 0, .bool (if (4 : Int) = 6 ∨ defI ⟨4, d, a, b, fn, obj, off, size, num, args, log⟩ ≠ -1 then false else log)]) := by
  show _ = _
  unfold inA plainI
  simp
 have H6 : Hid (¬ (4 : Int) = 6) := by show ¬ _; omega
 generalize defI ⟨4, d, a, b, fn, obj, off, size, num, args, log⟩ = df at ED HV
 cases hd : (df != -1)
 ·have HV2 : Hid (inA (plainI ⟨4, d, a, b, fn, obj, off, size, num, args, log⟩) = .agg #[.int .i64 4, .int .i64 (-1), .int .i64 (-1), .int .i64 (-1), .int .i64 0, .int .i64 obj, .int .i64 off, .int .i64 size, .int .u32 num, .slice none 0 0, .bool log]) := by
   show _ = _
   rw [HV.out, if_neg]
   rintro (h | h)
   ·exact H6.out h
   ·rw [(by simpa using hd : df = -1)] at h; exact h rfl
  go_enter Tryz.func89, Tryz.ntmps89
  go_wp2_with fail
  rw [← HW0.out]
  refine ED.out.mono ?_
  rintro e w2 ⟨rfl, hb2⟩
  have x0 := HC.out w2 hb2 0 (by decide)
  have x1 := HC.out w2 hb2 1 (by decide)
  have x2 := HC.out w2 hb2 2 (by decide)
  have x3 := HC.out w2 hb2 3 (by decide)
  have x4 := HC.out w2 hb2 4 (by decide)
  have x5 := HC.out w2 hb2 5 (by decide)
  have x6 := HC.out w2 hb2 6 (by decide)
  have x7 := HC.out w2 hb2 7 (by decide)
  have x8 := HC.out w2 hb2 8 (by decide)
  have x9 := HC.out w2 hb2 9 (by decide)
  have x10 := HC.out w2 hb2 10 (by decide)
  have y0 := HY.out w2 hb2 0 (by decide)
  have y1 := HY.out w2 hb2 1 (by decide)
  have y2 := HY.out w2 hb2 2 (by decide)
  have y3 := HY.out w2 hb2 3 (by decide)
  have y4 := HY.out w2 hb2 4 (by decide)
  have y5 := HY.out w2 hb2 5 (by decide)
  have y6 := HY.out w2 hb2 6 (by decide)
  have y7 := HY.out w2 hb2 7 (by decide)
  have y8 := HY.out w2 hb2 8 (by decide)
  have y9 := HY.out w2 hb2 9 (by decide)
  have y10 := HY.out w2 hb2 10 (by decide)
  simp at x0 x1 x2 x3 x4 x5 x6 x7 x8 x9 x10 y0 y1 y2 y3 y4 y5 y6 y7 y8 y9 y10
  have z := fun j => (HZ.out w2 hb2 j).1
  have z1 := fun j => (HZ.out w2 hb2 j).2
  have hz2 : w.heap.size + 2 ≤ w2.heap.size := Nat.le_trans hzb hb2.size
  have HB2 := Lib.hid (HB.out.trans (hb2.mono (by omega)))
  clear hb2
  go_wp2_with fail
  refine bodyPost_ret (v := .agg #[.int .i64 4, .int .i64 (-1), .int .i64 (-1), .int .i64 (-1), .int .i64 0, .int .i64 obj, .int .i64 off, .int .i64 size, .int .u32 num, .slice none 0 0, .bool log]) (by simp [results, Tryz.results89, go_sem, hz2, y0, y1, y2, y3, y4, y5, y6, y7, y8, y9, y10]) rfl ⟨by rw [HV2.out], ?_⟩
  repeat (refine Below.setCell ?_ (by simp) _)
  exact HB2.out
 ·have HV2 : Hid (inA (plainI ⟨4, d, a, b, fn, obj, off, size, num, args, log⟩) = .agg #[.int .i64 4, .int .i64 (-1), .int .i64 (-1), .int .i64 (-1), .int .i64 0, .int .i64 obj, .int .i64 off, .int .i64 size, .int .u32 num, .slice none 0 0, .bool false]) := by
   show _ = _
   rw [HV.out, if_pos]
   right
   intro h
   rw [h] at hd
   exact absurd hd (by decide)
  go_enter Tryz.func89, Tryz.ntmps89
  go_wp2_with fail
  rw [← HW0.out]
  refine ED.out.mono ?_
  rintro e w2 ⟨rfl, hb2⟩
  have x0 := HC.out w2 hb2 0 (by decide)
  have x1 := HC.out w2 hb2 1 (by decide)
  have x2 := HC.out w2 hb2 2 (by decide)
  have x3 := HC.out w2 hb2 3 (by decide)
  have x4 := HC.out w2 hb2 4 (by decide)
  have x5 := HC.out w2 hb2 5 (by decide)
  have x6 := HC.out w2 hb2 6 (by decide)
  have x7 := HC.out w2 hb2 7 (by decide)
  have x8 := HC.out w2 hb2 8 (by decide)
  have x9 := HC.out w2 hb2 9 (by decide)
  have x10 := HC.out w2 hb2 10 (by decide)
  have y0 := HY.out w2 hb2 0 (by decide)
  have y1 := HY.out w2 hb2 1 (by decide)
  have y2 := HY.out w2 hb2 2 (by decide)
  have y3 := HY.out w2 hb2 3 (by decide)
  have y4 := HY.out w2 hb2 4 (by decide)
  have y5 := HY.out w2 hb2 5 (by decide)
  have y6 := HY.out w2 hb2 6 (by decide)
  have y7 := HY.out w2 hb2 7 (by decide)
  have y8 := HY.out w2 hb2 8 (by decide)
  have y9 := HY.out w2 hb2 9 (by decide)
  have y10 := HY.out w2 hb2 10 (by decide)
  simp at x0 x1 x2 x3 x4 x5 x6 x7 x8 x9 x10 y0 y1 y2 y3 y4 y5 y6 y7 y8 y9 y10
  have z := fun j => (HZ.out w2 hb2 j).1
  have z1 := fun j => (HZ.out w2 hb2 j).2
  have hz2 : w.heap.size + 2 ≤ w2.heap.size := Nat.le_trans hzb hb2.size
  have HB2 := Lib.hid (HB.out.trans (hb2.mono (by omega)))
  clear hb2
  go_wp2_with fail
  refine bodyPost_ret (v := .agg #[.int .i64 4, .int .i64 (-1), .int .i64 (-1), .int .i64 (-1), .int .i64 0, .int .i64 obj, .int .i64 off, .int .i64 size, .int .u32 num, .slice none 0 0, .bool false]) (by simp [results, Tryz.results89, go_sem, hz2, y0, y1, y2, y3, y4, y5, y6, y7, y8, y9, y10]) rfl ⟨by rw [HV2.out], ?_⟩
  repeat (refine Below.setCell ?_ (by simp) _)
  exact HB2.out
theorem plain_5 (d a b fn obj off size num : Int) (args : List Int) (log : Bool) (aa : Option Addr) (ca : Nat) (w : World) (hva : RdI w (.slice aa args.length ca) args) :
  Calls Tryz.prog 89 #[.agg #[.int .i64 5, .int .i64 d, .int .i64 a, .int .i64 b, .int .i64 fn, .int .i64 obj, .int .i64 off, .int .i64 size, .int .u32 num, .slice aa args.length ca, .bool log]] w fun e w' => e = .returned (inA (plainI ⟨5, d, a, b, fn, obj, off, size, num, args, log⟩)) ∧ Below w.heap.size w w' := by
 obtain ⟨W0, hW0⟩ : ∃ W0, W0 = (w.alloc (.cells #[.int .i64 5, .int .i64 d, .int .i64 a, .int .i64 b, .int .i64 fn, .int .i64 obj, .int .i64 off, .int .i64 size, .int .u32 num, .slice aa args.length ca, .bool log] 48)).alloc (.cells #[.int .i64 0, .int .i64 0, .int .i64 0, .int .i64 0, .int .i64 0, .int .i64 0, .int .i64 0, .int .i64 0, .int .u32 0, .slice none 0 0, .bool false] 48) := ⟨_, rfl⟩
 have hz0 : W0.heap.size = w.heap.size + 2 := by rw [hW0]; simp
 have ED := Lib.hid (def_c ⟨5, d, a, b, fn, obj, off, size, num, args, log⟩ (.agg #[.int .i64 5, .int .i64 d, .int .i64 a, .int .i64 b, .int .i64 fn, .int .i64 obj, .int .i64 off, .int .i64 size, .int .u32 num, .slice aa args.length ca, .bool log]) W0 ⟨_, rfl, hva.ext (by rw [hW0]; exact (Ext.alloc w _).trans (Ext.alloc _ _))⟩)
 have HC : Hid (∀ w', Below W0.heap.size W0 w' → ∀ j : Nat, j < 11 → w'.cell? ⟨w.heap.size, j, none⟩ = #[Value.int .i64 5, .int .i64 d, .int .i64 a, .int .i64 b, .int .i64 fn, .int .i64 obj, .int .i64 off, .int .i64 size, .int .u32 num, .slice aa args.length ca, .bool log][j]?) := fun w' hb j _ => by
  rw [hb.cell (p := ⟨w.heap.size, j, none⟩) (by rw [hz0]; simp only; omega), hW0, (below_alloc (w.alloc (.cells #[.int .i64 5, .int .i64 d, .int .i64 a, .int .i64 b, .int .i64 fn, .int .i64 obj, .int .i64 off, .int .i64 size, .int .u32 num, .slice aa args.length ca, .bool log] 48)) _).cell (p := ⟨w.heap.size, j, none⟩) (by simp)]
  exact cell_of_heap (heap_alloc_new w _) j
 have HY : Hid (∀ w', Below W0.heap.size W0 w' → ∀ j : Nat, j < 11 → w'.cell? ⟨w.heap.size + 1, j, none⟩ = #[Value.int .i64 0, .int .i64 0, .int .i64 0, .int .i64 0, .int .i64 0, .int .i64 0, .int .i64 0, .int .i64 0, .int .u32 0, .slice none 0 0, .bool false][j]?) := fun w' hb j _ => by
  rw [hb.cell (p := ⟨w.heap.size + 1, j, none⟩) (by rw [hz0]; simp only; omega), hW0]
  have := cell_of_heap (heap_alloc_new (w.alloc (.cells #[.int .i64 5, .int .i64 d, .int .i64 a, .int .i64 b, .int .i64 fn, .int .i64 obj, .int .i64 off, .int .i64 size, .int .u32 num, .slice aa args.length ca, .bool log] 48)) (.cells #[.int .i64 0, .int .i64 0, .int .i64 0, .int .i64 0, .int .i64 0, .int .i64 0, .int .i64 0, .int .i64 0, .int .u32 0, .slice none 0 0, .bool false] 48)) j
  simpa using this
 have HZ : Hid (∀ w', Below W0.heap.size W0 w' → ∀ j : Nat, w'.frozen? ⟨w.heap.size, j, none⟩ = false ∧ w'.frozen? ⟨w.heap.size + 1, j, none⟩ = false) := fun w' hb j => by
  rw [hb.frozen (p := ⟨w.heap.size, j, none⟩) (by rw [hz0]; simp only; omega), hb.frozen (p := ⟨w.heap.size + 1, j, none⟩) (by rw [hz0]; simp only; omega), hW0, (below_alloc (w.alloc (.cells #[.int .i64 5, .int .i64 d, .int .i64 a, .int .i64 b, .int .i64 fn, .int .i64 obj, .int .i64 off, .int .i64 size, .int .u32 num, .slice aa args.length ca, .bool log] 48)) _).frozen (p := ⟨w.heap.size, j, none⟩) (by simp)]
  have := frozen_of_heap (heap_alloc_new (w.alloc (.cells #[.int .i64 5, .int .i64 d, .int .i64 a, .int .i64 b, .int .i64 fn, .int .i64 obj, .int .i64 off, .int .i64 size, .int .u32 num, .slice aa args.length ca, .bool log] 48)) (.cells #[.int .i64 0, .int .i64 0, .int .i64 0, .int .i64 0, .int .i64 0, .int .i64 0, .int .i64 0, .int .i64 0, .int .u32 0, .slice none 0 0, .bool false] 48)) j
  exact ⟨frozen_of_heap (heap_alloc_new w _) j, by simpa using this⟩
 have HB : Hid (Below w.heap.size w W0) := by rw [hW0]; exact (below_alloc w _).alloc (by simp) _
 have HW0 := Lib.hid hW0
 have hza : W0.heap.size ≤ w.heap.size + 2 := Nat.le_of_eq hz0
 have hzb : w.heap.size + 2 ≤ W0.heap.size := Nat.le_of_eq hz0.symm
 clear hW0 hz0
 have HV : Hid (inA (plainI ⟨5, d, a, b, fn, obj, off, size, num, args, log⟩) = .agg #[.int .i64 5, .int .i64 (-1), .int .i64 (-1), .int .i64 (-1), .int .i64 fn, .int .i64 obj, .int .i64 0, .int .i64 0, .int .u32 num, .slice none 0 0, .bool (if (5 : Int) = 6 ∨ defI ⟨5, d, a, b, fn, obj, off, size, num, args, log⟩ ≠ -1 then false else log)]) := by
  show _ = _
  unfold inA plainI
  simp
 have H6 : Hid (¬ (5 : Int) = 6) := by show ¬ _; omega
 generalize defI ⟨5, d, a, b, fn, obj, off, size, num, args, log⟩ = df at ED HV
 cases hd : (df != -1)
 ·have HV2 : Hid (inA (plainI ⟨5, d, a, b, fn, obj, off, size, num, args, log⟩) = .agg #[.int .i64 5, .int .i64 (-1), .int .i64 (-1), .int .i64 (-1), .int .i64 fn, .int .i64 obj, .int .i64 0, .int .i64 0, .int .u32 num, .slice none 0 0, .bool log]) := by
   show _ = _
   rw [HV.out, if_neg]
   rintro (h | h)
   ·exact H6.out h
   ·rw [(by simpa using hd : df = -1)] at h; exact h rfl
  go_enter Tryz.func89, Tryz.ntmps89
  go_wp2_with fail
  rw [← HW0.out]
  refine ED.out.mono ?_
  rintro e w2 ⟨rfl, hb2⟩
  have x0 := HC.out w2 hb2 0 (by decide)
  have x1 := HC.out w2 hb2 1 (by decide)
  have x2 := HC.out w2 hb2 2 (by decide)
  have x3 := HC.out w2 hb2 3 (by decide)
  have x4 := HC.out w2 hb2 4 (by decide)
  have x5 := HC.out w2 hb2 5 (by decide)
  have x6 := HC.out w2 hb2 6 (by decide)
  have x7 := HC.out w2 hb2 7 (by decide)
  have x8 := HC.out w2 hb2 8 (by decide)
  have x9 := HC.out w2 hb2 9 (by decide)
  have x10 := HC.out w2 hb2 10 (by decide)
  have y0 := HY.out w2 hb2 0 (by decide)
  have y1 := HY.out w2 hb2 1 (by decide)
  have y2 := HY.out w2 hb2 2 (by decide)
  have y3 := HY.out w2 hb2 3 (by decide)
  have y4 := HY.out w2 hb2 4 (by decide)
  have y5 := HY.out w2 hb2 5 (by decide)
  have y6 := HY.out w2 hb2 6 (by decide)
  have y7 := HY.out w2 hb2 7 (by decide)
  have y8 := HY.out w2 hb2 8 (by decide)
  have y9 := HY.out w2 hb2 9 (by decide)
  have y10 := HY.out w2 hb2 10 (by decide)
  simp at x0 x1 x2 x3 x4 x5 x6 x7 x8 x9 x10 y0 y1 y2 y3 y4 y5 y6 y7 y8 y9 y10
  have z := fun j => (HZ.out w2 hb2 j).1
  have z1 := fun j => (HZ.out w2 hb2 j).2
  have hz2 : w.heap.size + 2 ≤ w2.heap.size := Nat.le_trans hzb hb2.size
  have HB2 := Lib.hid (HB.out.trans (hb2.mono (by omega)))
  clear hb2
  go_wp2_with fail
  refine bodyPost_ret (v := .agg #[.int .i64 5, .int .i64 (-1), .int .i64 (-1), .int .i64 (-1), .int .i64 fn, .int .i64 obj, .int .i64 0, .int .i64 0, .int .u32 num, .slice none 0 0, .bool log]) (by simp [results, Tryz.results89, go_sem, hz2, y0, y1, y2, y3, y4, y5, y6, y7, y8, y9, y10]) rfl ⟨by rw [HV2.out], ?_⟩
  repeat (refine Below.setCell ?_ (by simp) _)
  exact HB2.out
 ·have HV2 : Hid (inA (plainI ⟨5, d, a, b, fn, obj, off, size, num, args, log⟩) = .agg #[.int .i64 5, .int .i64 (-1), .int .i64 (-1), .int .i64 (-1), .int .i64 fn, .int .i64 obj, .int .i64 0, .int .i64 0, .int .u32 num, .slice none 0 0, .bool false]) := by
   show _ = _
   rw [HV.out, if_pos]
   right
   intro h
   rw [h] at hd
   exact absurd hd (by decide)
  go_enter Tryz.func89, Tryz.ntmps89
  go_wp2_with fail
  rw [← HW0.out]
  refine ED.out.mono ?_
  rintro e w2 ⟨rfl, hb2⟩
  have x0 := HC.out w2 hb2 0 (by decide)
  have x1 := HC.out w2 hb2 1 (by decide)
  have x2 := HC.out w2 hb2 2 (by decide)
  have x3 := HC.out w2 hb2 3 (by decide)
  have x4 := HC.out w2 hb2 4 (by decide)
  have x5 := HC.out w2 hb2 5 (by decide)
  have x6 := HC.out w2 hb2 6 (by decide)
  have x7 := HC.out w2 hb2 7 (by decide)
  have x8 := HC.out w2 hb2 8 (by decide)
  have x9 := HC.out w2 hb2 9 (by decide)
  have x10 := HC.out w2 hb2 10 (by decide)
  have y0 := HY.out w2 hb2 0 (by decide)
  have y1 := HY.out w2 hb2 1 (by decide)
  have y2 := HY.out w2 hb2 2 (by decide)
  have y3 := HY.out w2 hb2 3 (by decide)
  have y4 := HY.out w2 hb2 4 (by decide)
  have y5 := HY.out w2 hb2 5 (by decide)
  have y6 := HY.out w2 hb2 6 (by decide)
  have y7 := HY.out w2 hb2 7 (by decide)
  have y8 := HY.out w2 hb2 8 (by decide)
  have y9 := HY.out w2 hb2 9 (by decide)
  have y10 := HY.out w2 hb2 10 (by decide)
  simp at x0 x1 x2 x3 x4 x5 x6 x7 x8 x9 x10 y0 y1 y2 y3 y4 y5 y6 y7 y8 y9 y10
  have z := fun j => (HZ.out w2 hb2 j).1
  have z1 := fun j => (HZ.out w2 hb2 j).2
  have hz2 : w.heap.size + 2 ≤ w2.heap.size := Nat.le_trans hzb hb2.size
  have HB2 := Lib.hid (HB.out.trans (hb2.mono (by omega)))
  clear hb2
  go_wp2_with fail
  refine bodyPost_ret (v := .agg #[.int .i64 5, .int .i64 (-1), .int .i64 (-1), .int .i64 (-1), .int .i64 fn, .int .i64 obj, .int .i64 0, .int .i64 0, .int .u32 num, .slice none 0 0, .bool false]) (by simp [results, Tryz.results89, go_sem, hz2, y0, y1, y2, y3, y4, y5, y6, y7, y8, y9, y10]) rfl ⟨by rw [HV2.out], ?_⟩
  repeat (refine Below.setCell ?_ (by simp) _)
  exact HB2.out
theorem plain_7 (d a b fn obj off size num : Int) (args : List Int) (log : Bool) (aa : Option Addr) (ca : Nat) (w : World) (hva : RdI w (.slice aa args.length ca) args) :
  Calls Tryz.prog 89 #[.agg #[.int .i64 7, .int .i64 d, .int .i64 a, .int .i64 b, .int .i64 fn, .int .i64 obj, .int .i64 off, .int .i64 size, .int .u32 num, .slice aa args.length ca, .bool log]] w fun e w' => e = .returned (inA (plainI ⟨7, d, a, b, fn, obj, off, size, num, args, log⟩)) ∧ Below w.heap.size w w' := by
 obtain ⟨W0, hW0⟩ : ∃ W0, W0 = (w.alloc (.cells #[.int .i64 7, .int .i64 d, .int .i64 a, .int .i64 b, .int .i64 fn, .int .i64 obj, .int .i64 off, .int .i64 size, .int .u32 num, .slice aa args.length ca, .bool log] 48)).alloc (.cells #[.int .i64 0, .int .i64 0, .int .i64 0, .int .i64 0, .int .i64 0, .int .i64 0, .int .i64 0, .int .i64 0, .int .u32 0, .slice none 0 0, .bool false] 48) := ⟨_, rfl⟩
 have hz0 : W0.heap.size = w.heap.size + 2 := by rw [hW0]; simp
 have ED := Lib.hid (def_c ⟨7, d, a, b, fn, obj, off, size, num, args, log⟩ (.agg #[.int .i64 7, .int .i64 d, .int .i64 a, .int .i64 b, .int .i64 fn, .int .i64 obj, .int .i64 off, .int .i64 size, .int .u32 num, .slice aa args.length ca, .bool log]) W0 ⟨_, rfl, hva.ext (by rw [hW0]; exact (Ext.alloc w _).trans (Ext.alloc _ _))⟩)
 have HC : Hid (∀ w', Below W0.heap.size W0 w' → ∀ j : Nat, j < 11 → w'.cell? ⟨w.heap.size, j, none⟩ = #[Value.int .i64 7, .int .i64 d, .int .i64 a, .int .i64 b, .int .i64 fn, .int .i64 obj, .int .i64 off, .int .i64 size, .int .u32 num, .slice aa args.length ca, .bool log][j]?) := fun w' hb j _ => by
  rw [hb.cell (p := ⟨w.heap.size, j, none⟩) (by rw [hz0]; simp only; omega), hW0, (below_alloc (w.alloc (.cells #[.int .i64 7, .int .i64 d, .int .i64 a, .int .i64 b, .int .i64 fn, .int .i64 obj, .int .i64 off, .int .i64 size, .int .u32 num, .slice aa args.length ca, .bool log] 48)) _).cell (p := ⟨w.heap.size, j, none⟩) (by simp)]
  exact cell_of_heap (heap_alloc_new w _) j
 have HY : Hid (∀ w', Below W0.heap.size W0 w' → ∀ j : Nat, j < 11 → w'.cell? ⟨w.heap.size + 1, j, none⟩ = #[Value.int .i64 0, .int .i64 0, .int .i64 0, .int .i64 0, .int .i64 0, .int .i64 0, .int .i64 0, .int .i64 0, .int .u32 0, .slice none 0 0, .bool false][j]?) := fun w' hb j _ => by
  rw [hb.cell (p := ⟨w.heap.size + 1, j, none⟩) (by rw [hz0]; simp only; omega), hW0]
  have := cell_of_heap (heap_alloc_new (w.alloc (.cells #[.int .i64 7, .int .i64 d, .int .i64 a, .int .i64 b, .int .i64 fn, .int .i64 obj, .int .i64 off, .int .i64 size, .int .u32 num, .slice aa args.length ca, .bool log] 48)) (.cells #[.int .i64 0, .int .i64 0, .int .i64 0, .int .i64 0, .int .i64 0, .int .i64 0, .int .i64 0, .int .i64 0, .int .u32 0, .slice none 0 0, .bool false] 48)) j
  simpa using this
 have HZ : Hid (∀ w', Below W0.heap.size W0 w' → ∀ j : Nat, w'.frozen? ⟨w.heap.size, j, none⟩ = false ∧ w'.frozen? ⟨w.heap.size + 1, j, none⟩ = false) := fun w' hb j => by
  rw [hb.frozen (p := ⟨w.heap.size, j, none⟩) (by rw [hz0]; simp only; omega), hb.frozen (p := ⟨w.heap.size + 1, j, none⟩) (by rw [hz0]; simp only; omega), hW0, (below_alloc (w.alloc (.cells #[.int .i64 7, .int .i64 d, .int .i64 a, .int .i64 b, .int .i64 fn, .int .i64 obj, .int .i64 off, .int .i64 size, .int .u32 num, .slice aa args.length ca, .bool log] 48)) _).frozen (p := ⟨w.heap.size, j, none⟩) (by simp)]
  have := frozen_of_heap (heap_alloc_new (w.alloc (.cells #[.int .i64 7, .int .i64 d, .int .i64 a, .int .i64 b, .int .i64 fn, .int .i64 obj, .int .i64 off, .int .i64 size, .int .u32 num, .slice aa args.length ca, .bool log] 48)) (.cells #[.int .i64 0, .int .i64 0, .int .i64 0, .int .i64 0, .int .i64 0, .int .i64 0, .int .i64 0, .int .i64 0, .int .u32 0, .slice none 0 0, .bool false] 48)) j
  exact ⟨frozen_of_heap (heap_alloc_new w _) j, by simpa using this⟩
 have HB : Hid (Below w.heap.size w W0) := by rw [hW0]; exact (below_alloc w _).alloc (by simp) _
 have HW0 := Lib.hid hW0
 have hza : W0.heap.size ≤ w.heap.size + 2 := Nat.le_of_eq hz0
 have hzb : w.heap.size + 2 ≤ W0.heap.size := Nat.le_of_eq hz0.symm
 clear hW0 hz0
 have HV : Hid (inA (plainI ⟨7, d, a, b, fn, obj, off, size, num, args, log⟩) = .agg #[.int .i64 7, .int .i64 (-1), .int .i64 (-1), .int .i64 (-1), .int .i64 fn, .int .i64 0, .int .i64 0, .int .i64 size, .int .u32 num, .slice none 0 0, .bool (if (7 : Int) = 6 ∨ defI ⟨7, d, a, b, fn, obj, off, size, num, args, log⟩ ≠ -1 then false else log)]) := by
  show _ = _
  unfold inA plainI
  simp
 have H6 : Hid (¬ (7 : Int) = 6) := by show ¬ _; omega
 generalize defI ⟨7, d, a, b, fn, obj, off, size, num, args, log⟩ = df at ED HV
 cases hd : (df != -1)
 ·have HV2 : Hid (inA (plainI ⟨7, d, a, b, fn, obj, off, size, num, args, log⟩) = .agg #[.int .i64 7, .int .i64 (-1), .int .i64 (-1), .int .i64 (-1), .int .i64 fn, .int .i64 0, .int .i64 0, .int .i64 size, .int .u32 num, .slice none 0 0, .bool log]) := by
   show _ = _
   rw [HV.out, if_neg]
   rintro (h | h)
   ·exact H6.out h
   ·rw [(by simpa using hd : df = -1)] at h; exact h rfl
  go_enter Tryz.func89, Tryz.ntmps89
  go_wp2_with fail
  rw [← HW0.out]
  refine ED.out.mono ?_
  rintro e w2 ⟨rfl, hb2⟩
  have x0 := HC.out w2 hb2 0 (by decide)
  have x1 := HC.out w2 hb2 1 (by decide)
  have x2 := HC.out w2 hb2 2 (by decide)
  have x3 := HC.out w2 hb2 3 (by decide)
  have x4 := HC.out w2 hb2 4 (by decide)
  have x5 := HC.out w2 hb2 5 (by decide)
  have x6 := HC.out w2 hb2 6 (by decide)
  have x7 := HC.out w2 hb2 7 (by decide)
  have x8 := HC.out w2 hb2 8 (by decide)
  have x9 := HC.out w2 hb2 9 (by decide)
  have x10 := HC.out w2 hb2 10 (by decide)
  have y0 := HY.out w2 hb2 0 (by decide)
  have y1 := HY.out w2 hb2 1 (by decide)
  have y2 := HY.out w2 hb2 2 (by decide)
  have y3 := HY.out w2 hb2 3 (by decide)
  have y4 := HY.out w2 hb2 4 (by decide)
  have y5 := HY.out w2 hb2 5 (by decide)
  have y6 := HY.out w2 hb2 6 (by decide)
  have y7 := HY.out w2 hb2 7 (by decide)
  have y8 := HY.out w2 hb2 8 (by decide)
  have y9 := HY.out w2 hb2 9 (by decide)
  have y10 := HY.out w2 hb2 10 (by decide)
  simp at x0 x1 x2 x3 x4 x5 x6 x7 x8 x9 x10 y0 y1 y2 y3 y4 y5 y6 y7 y8 y9 y10
  have z := fun j => (HZ.out w2 hb2 j).1
  have z1 := fun j => (HZ.out w2 hb2 j).2
  have hz2 : w.heap.size + 2 ≤ w2.heap.size := Nat.le_trans hzb hb2.size
  have HB2 := Lib.hid (HB.out.trans (hb2.mono (by omega)))
  clear hb2
  go_wp2_with fail
  refine bodyPost_ret (v := .agg #[.int .i64 7, .int .i64 (-1), .int .i64 (-1), .int .i64 (-1), .int .i64 fn, .int .i64 0, .int .i64 0, .int .i64 size, .int .u32 num, .slice none 0 0, .bool log]) (by simp [results, Tryz.results89, go_sem, hz2, y0, y1, y2, y3, y4, y5, y6, y7, y8, y9, y10]) rfl ⟨by rw [HV2.out], ?_⟩
  repeat (refine Below.setCell ?_ (by simp) _)
  exact HB2.out
 ·have HV2 : Hid (inA (plainI ⟨7, d, a, b, fn, obj, off, size, num, args, log⟩) = .agg #[.int .i64 7, .int .i64 (-1), .int .i64 (-1), .int .i64 (-1), .int .i64 fn, .int .i64 0, .int .i64 0, .int .i64 size, .int .u32 num, .slice none 0 0, .bool false]) := by
   show _ = _
   rw [HV.out, if_pos]
   right
   intro h
   rw [h] at hd
   exact absurd hd (by decide)
  go_enter Tryz.func89, Tryz.ntmps89
  go_wp2_with fail
  rw [← HW0.out]
  refine ED.out.mono ?_
  rintro e w2 ⟨rfl, hb2⟩
  have x0 := HC.out w2 hb2 0 (by decide)
  have x1 := HC.out w2 hb2 1 (by decide)
  have x2 := HC.out w2 hb2 2 (by decide)
  have x3 := HC.out w2 hb2 3 (by decide)
  have x4 := HC.out w2 hb2 4 (by decide)
  have x5 := HC.out w2 hb2 5 (by decide)
  have x6 := HC.out w2 hb2 6 (by decide)
  have x7 := HC.out w2 hb2 7 (by decide)
  have x8 := HC.out w2 hb2 8 (by decide)
  have x9 := HC.out w2 hb2 9 (by decide)
  have x10 := HC.out w2 hb2 10 (by decide)
  have y0 := HY.out w2 hb2 0 (by decide)
  have y1 := HY.out w2 hb2 1 (by decide)
  have y2 := HY.out w2 hb2 2 (by decide)
  have y3 := HY.out w2 hb2 3 (by decide)
  have y4 := HY.out w2 hb2 4 (by decide)
  have y5 := HY.out w2 hb2 5 (by decide)
  have y6 := HY.out w2 hb2 6 (by decide)
  have y7 := HY.out w2 hb2 7 (by decide)
  have y8 := HY.out w2 hb2 8 (by decide)
  have y9 := HY.out w2 hb2 9 (by decide)
  have y10 := HY.out w2 hb2 10 (by decide)
  simp at x0 x1 x2 x3 x4 x5 x6 x7 x8 x9 x10 y0 y1 y2 y3 y4 y5 y6 y7 y8 y9 y10
  have z := fun j => (HZ.out w2 hb2 j).1
  have z1 := fun j => (HZ.out w2 hb2 j).2
  have hz2 : w.heap.size + 2 ≤ w2.heap.size := Nat.le_trans hzb hb2.size
  have HB2 := Lib.hid (HB.out.trans (hb2.mono (by omega)))
  clear hb2
  go_wp2_with fail
  refine bodyPost_ret (v := .agg #[.int .i64 7, .int .i64 (-1), .int .i64 (-1), .int .i64 (-1), .int .i64 fn, .int .i64 0, .int .i64 0, .int .i64 size, .int .u32 num, .slice none 0 0, .bool false]) (by simp [results, Tryz.results89, go_sem, hz2, y0, y1, y2, y3, y4, y5, y6, y7, y8, y9, y10]) rfl ⟨by rw [HV2.out], ?_⟩
  repeat (refine Below.setCell ?_ (by simp) _)
  exact HB2.out
theorem plain_8 (d a b fn obj off size num : Int) (args : List Int) (log : Bool) (aa : Option Addr) (ca : Nat) (w : World) (hva : RdI w (.slice aa args.length ca) args) :
  Calls Tryz.prog 89 #[.agg #[.int .i64 8, .int .i64 d, .int .i64 a, .int .i64 b, .int .i64 fn, .int .i64 obj, .int .i64 off, .int .i64 size, .int .u32 num, .slice aa args.length ca, .bool log]] w fun e w' => e = .returned (inA (plainI ⟨8, d, a, b, fn, obj, off, size, num, args, log⟩)) ∧ Below w.heap.size w w' := by
 obtain ⟨W0, hW0⟩ : ∃ W0, W0 = (w.alloc (.cells #[.int .i64 8, .int .i64 d, .int .i64 a, .int .i64 b, .int .i64 fn, .int .i64 obj, .int .i64 off, .int .i64 size, .int .u32 num, .slice aa args.length ca, .bool log] 48)).alloc (.cells #[.int .i64 0, .int .i64 0, .int .i64 0, .int .i64 0, .int .i64 0, .int .i64 0, .int .i64 0, .int .i64 0, .int .u32 0, .slice none 0 0, .bool false] 48) := ⟨_, rfl⟩
 have hz0 : W0.heap.size = w.heap.size + 2 := by rw [hW0]; simp
 have ED := Lib.hid (def_c ⟨8, d, a, b, fn, obj, off, size, num, args, log⟩ (.agg #[.int .i64 8, .int .i64 d, .int .i64 a, .int .i64 b, .int .i64 fn, .int .i64 obj, .int .i64 off, .int .i64 size, .int .u32 num, .slice aa args.length ca, .bool log]) W0 ⟨_, rfl, hva.ext (by rw [hW0]; exact (Ext.alloc w _).trans (Ext.alloc _ _))⟩)
 have HC : Hid (∀ w', Below W0.heap.size W0 w' → ∀ j : Nat, j < 11 → w'.cell? ⟨w.heap.size, j, none⟩ = #[Value.int .i64 8, .int .i64 d, .int .i64 a, .int .i64 b, .int .i64 fn, .int .i64 obj, .int .i64 off, .int .i64 size, .int .u32 num, .slice aa args.length ca, .bool log][j]?) := fun w' hb j _ => by
  rw [hb.cell (p := ⟨w.heap.size, j, none⟩) (by rw [hz0]; simp only; omega), hW0, (below_alloc (w.alloc (.cells #[.int .i64 8, .int .i64 d, .int .i64 a, .int .i64 b, .int .i64 fn, .int .i64 obj, .int .i64 off, .int .i64 size, .int .u32 num, .slice aa args.length ca, .bool log] 48)) _).cell (p := ⟨w.heap.size, j, none⟩) (by simp)]
  exact cell_of_heap (heap_alloc_new w _) j
 have HY : Hid (∀ w', Below W0.heap.size W0 w' → ∀ j : Nat, j < 11 → w'.cell? ⟨w.heap.size + 1, j, none⟩ = #[Value.int .i64 0, .int .i64 0, .int .i64 0, .int .i64 0, .int .i64 0, .int .i64 0, .int .i64 0, .int .i64 0, .int .u32 0, .slice none 0 0, .bool false][j]?) := fun w' hb j _ => by
  rw [hb.cell (p := ⟨w.heap.size + 1, j, none⟩) (by rw [hz0]; simp only; omega), hW0]
  have := cell_of_heap (heap_alloc_new (w.alloc (.cells #[.int .i64 8, .int .i64 d, .int .i64 a, .int .i64 b, .int .i64 fn, .int .i64 obj, .int .i64 off, .int .i64 size, .int .u32 num, .slice aa args.length ca, .bool log] 48)) (.cells #[.int .i64 0, .int .i64 0, .int .i64 0, .int .i64 0, .int .i64 0, .int .i64 0, .int .i64 0, .int .i64 0, .int .u32 0, .slice none 0 0, .bool false] 48)) j
  simpa using this
 have HZ : Hid (∀ w', Below W0.heap.size W0 w' → ∀ j : Nat, w'.frozen? ⟨w.heap.size, j, none⟩ = false ∧ w'.frozen? ⟨w.heap.size + 1, j, none⟩ = false) := fun w' hb j => by
  rw [hb.frozen (p := ⟨w.heap.size, j, none⟩) (by rw [hz0]; simp only; omega), hb.frozen (p := ⟨w.heap.size + 1, j, none⟩) (by rw [hz0]; simp only; omega), hW0, (below_alloc (w.alloc (.cells #[.int .i64 8, .int .i64 d, .int .i64 a, .int .i64 b, .int .i64 fn, .int .i64 obj, .int .i64 off, .int .i64 size, .int .u32 num, .slice aa args.length ca, .bool log] 48)) _).frozen (p := ⟨w.heap.size, j, none⟩) (by simp)]
  have := frozen_of_heap (heap_alloc_new (w.alloc (.cells #[.int .i64 8, .int .i64 d, .int .i64 a, .int .i64 b, .int .i64 fn, .int .i64 obj, .int .i64 off, .int .i64 size, .int .u32 num, .slice aa args.length ca, .bool log] 48)) (.cells #[.int .i64 0, .int .i64 0, .int .i64 0, .int .i64 0, .int .i64 0, .int .i64 0, .int .i64 0, .int .i64 0, .int .u32 0, .slice none 0 0, .bool false] 48)) j
  exact ⟨frozen_of_heap (heap_alloc_new w _) j, by simpa using this⟩
 have HB : Hid (Below w.heap.size w W0) := by rw [hW0]; exact (below_alloc w _).alloc (by simp) _
 have HW0 := Lib.hid hW0
 have hza : W0.heap.size ≤ w.heap.size + 2 := Nat.le_of_eq hz0
 have hzb : w.heap.size + 2 ≤ W0.heap.size := Nat.le_of_eq hz0.symm
 clear hW0 hz0
 have HV : Hid (inA (plainI ⟨8, d, a, b, fn, obj, off, size, num, args, log⟩) = .agg #[.int .i64 8, .int .i64 (-1), .int .i64 (-1), .int .i64 (-1), .int .i64 fn, .int .i64 0, .int .i64 0, .int .i64 size, .int .u32 num, .slice none 0 0, .bool (if (8 : Int) = 6 ∨ defI ⟨8, d, a, b, fn, obj, off, size, num, args, log⟩ ≠ -1 then false else log)]) := by
  show _ = _
  unfold inA plainI
  simp
 have H6 : Hid (¬ (8 : Int) = 6) := by show ¬ _; omega
 generalize defI ⟨8, d, a, b, fn, obj, off, size, num, args, log⟩ = df at ED HV
 cases hd : (df != -1)
 ·have HV2 : Hid (inA (plainI ⟨8, d, a, b, fn, obj, off, size, num, args, log⟩) = .agg #[.int .i64 8, .int .i64 (-1), .int .i64 (-1), .int .i64 (-1), .int .i64 fn, .int .i64 0, .int .i64 0, .int .i64 size, .int .u32 num, .slice none 0 0, .bool log]) := by
   show _ = _
   rw [HV.out, if_neg]
   rintro (h | h)
   ·exact H6.out h
   ·rw [(by simpa using hd : df = -1)] at h; exact h rfl
  go_enter Tryz.func89, Tryz.ntmps89
  go_wp2_with fail
  rw [← HW0.out]
  refine ED.out.mono ?_
  rintro e w2 ⟨rfl, hb2⟩
  have x0 := HC.out w2 hb2 0 (by decide)
  have x1 := HC.out w2 hb2 1 (by decide)
  have x2 := HC.out w2 hb2 2 (by decide)
  have x3 := HC.out w2 hb2 3 (by decide)
  have x4 := HC.out w2 hb2 4 (by decide)
  have x5 := HC.out w2 hb2 5 (by decide)
  have x6 := HC.out w2 hb2 6 (by decide)
  have x7 := HC.out w2 hb2 7 (by decide)
  have x8 := HC.out w2 hb2 8 (by decide)
  have x9 := HC.out w2 hb2 9 (by decide)
  have x10 := HC.out w2 hb2 10 (by decide)
  have y0 := HY.out w2 hb2 0 (by decide)
  have y1 := HY.out w2 hb2 1 (by decide)
  have y2 := HY.out w2 hb2 2 (by decide)
  have y3 := HY.out w2 hb2 3 (by decide)
  have y4 := HY.out w2 hb2 4 (by decide)
  have y5 := HY.out w2 hb2 5 (by decide)
  have y6 := HY.out w2 hb2 6 (by decide)
  have y7 := HY.out w2 hb2 7 (by decide)
  have y8 := HY.out w2 hb2 8 (by decide)
  have y9 := HY.out w2 hb2 9 (by decide)
  have y10 := HY.out w2 hb2 10 (by decide)
  simp at x0 x1 x2 x3 x4 x5 x6 x7 x8 x9 x10 y0 y1 y2 y3 y4 y5 y6 y7 y8 y9 y10
  have z := fun j => (HZ.out w2 hb2 j).1
  have z1 := fun j => (HZ.out w2 hb2 j).2
  have hz2 : w.heap.size + 2 ≤ w2.heap.size := Nat.le_trans hzb hb2.size
  have HB2 := Lib.hid (HB.out.trans (hb2.mono (by omega)))
  clear hb2
  go_wp2_with fail
  refine bodyPost_ret (v := .agg #[.int .i64 8, .int .i64 (-1), .int .i64 (-1), .int .i64 (-1), .int .i64 fn, .int .i64 0, .int .i64 0, .int .i64 size, .int .u32 num, .slice none 0 0, .bool log]) (by simp [results, Tryz.results89, go_sem, hz2, y0, y1, y2, y3, y4, y5, y6, y7, y8, y9, y10]) rfl ⟨by rw [HV2.out], ?_⟩
  repeat (refine Below.setCell ?_ (by simp) _)
  exact HB2.out
 ·have HV2 : Hid (inA (plainI ⟨8, d, a, b, fn, obj, off, size, num, args, log⟩) = .agg #[.int .i64 8, .int .i64 (-1), .int .i64 (-1), .int .i64 (-1), .int .i64 fn, .int .i64 0, .int .i64 0, .int .i64 size, .int .u32 num, .slice none 0 0, .bool false]) := by
   show _ = _
   rw [HV.out, if_pos]
   right
   intro h
   rw [h] at hd
   exact absurd hd (by decide)
  go_enter Tryz.func89, Tryz.ntmps89
  go_wp2_with fail
  rw [← HW0.out]
  refine ED.out.mono ?_
  rintro e w2 ⟨rfl, hb2⟩
  have x0 := HC.out w2 hb2 0 (by decide)
  have x1 := HC.out w2 hb2 1 (by decide)
  have x2 := HC.out w2 hb2 2 (by decide)
  have x3 := HC.out w2 hb2 3 (by decide)
  have x4 := HC.out w2 hb2 4 (by decide)
  have x5 := HC.out w2 hb2 5 (by decide)
  have x6 := HC.out w2 hb2 6 (by decide)
  have x7 := HC.out w2 hb2 7 (by decide)
  have x8 := HC.out w2 hb2 8 (by decide)
  have x9 := HC.out w2 hb2 9 (by decide)
  have x10 := HC.out w2 hb2 10 (by decide)
  have y0 := HY.out w2 hb2 0 (by decide)
  have y1 := HY.out w2 hb2 1 (by decide)
  have y2 := HY.out w2 hb2 2 (by decide)
  have y3 := HY.out w2 hb2 3 (by decide)
  have y4 := HY.out w2 hb2 4 (by decide)
  have y5 := HY.out w2 hb2 5 (by decide)
  have y6 := HY.out w2 hb2 6 (by decide)
  have y7 := HY.out w2 hb2 7 (by decide)
  have y8 := HY.out w2 hb2 8 (by decide)
  have y9 := HY.out w2 hb2 9 (by decide)
  have y10 := HY.out w2 hb2 10 (by decide)
  simp at x0 x1 x2 x3 x4 x5 x6 x7 x8 x9 x10 y0 y1 y2 y3 y4 y5 y6 y7 y8 y9 y10
  have z := fun j => (HZ.out w2 hb2 j).1
  have z1 := fun j => (HZ.out w2 hb2 j).2
  have hz2 : w.heap.size + 2 ≤ w2.heap.size := Nat.le_trans hzb hb2.size
  have HB2 := Lib.hid (HB.out.trans (hb2.mono (by omega)))
  clear hb2
  go_wp2_with fail
  refine bodyPost_ret (v := .agg #[.int .i64 8, .int .i64 (-1), .int .i64 (-1), .int .i64 (-1), .int .i64 fn, .int .i64 0, .int .i64 0, .int .i64 size, .int .u32 num, .slice none 0 0, .bool false]) (by simp [results, Tryz.results89, go_sem, hz2, y0, y1, y2, y3, y4, y5, y6, y7, y8, y9, y10]) rfl ⟨by rw [HV2.out], ?_⟩
  repeat (refine Below.setCell ?_ (by simp) _)
  exact HB2.out
theorem plain_9 (d a b fn obj off size num : Int) (args : List Int) (log : Bool) (aa : Option Addr) (ca : Nat) (w : World) (hva : RdI w (.slice aa args.length ca) args) :
  Calls Tryz.prog 89 #[.agg #[.int .i64 9, .int .i64 d, .int .i64 a, .int .i64 b, .int .i64 fn, .int .i64 obj, .int .i64 off, .int .i64 size, .int .u32 num, .slice aa args.length ca, .bool log]] w fun e w' => e = .returned (inA (plainI ⟨9, d, a, b, fn, obj, off, size, num, args, log⟩)) ∧ Below w.heap.size w w' := by
 obtain ⟨W0, hW0⟩ : ∃ W0, W0 = (w.alloc (.cells #[.int .i64 9, .int .i64 d, .int .i64 a, .int .i64 b, .int .i64 fn, .int .i64 obj, .int .i64 off, .int .i64 size, .int .u32 num, .slice aa args.length ca, .bool log] 48)).alloc (.cells #[.int .i64 0, .int .i64 0, .int .i64 0, .int .i64 0, .int .i64 0, .int .i64 0, .int .i64 0, .int .i64 0, .int .u32 0, .slice none 0 0, .bool false] 48) := ⟨_, rfl⟩
 have hz0 : W0.heap.size = w.heap.size + 2 := by rw [hW0]; simp
 have ED := Lib.hid (def_c ⟨9, d, a, b, fn, obj, off, size, num, args, log⟩ (.agg #[.int .i64 9, .int .i64 d, .int .i64 a, .int .i64 b, .int .i64 fn, .int .i64 obj, .int .i64 off, .int .i64 size, .int .u32 num, .slice aa args.length ca, .bool log]) W0 ⟨_, rfl, hva.ext (by rw [hW0]; exact (Ext.alloc w _).trans (Ext.alloc _ _))⟩)
 have HC : Hid (∀ w', Below W0.heap.size W0 w' → ∀ j : Nat, j < 11 → w'.cell? ⟨w.heap.size, j, none⟩ = #[Value.int .i64 9, .int .i64 d, .int .i64 a, .int .i64 b, .int .i64 fn, .int .i64 obj, .int .i64 off, .int .i64 size, .int .u32 num, .slice aa args.length ca, .bool log][j]?) := fun w' hb j _ => by
  rw [hb.cell (p := ⟨w.heap.size, j, none⟩) (by rw [hz0]; simp only; omega), hW0, (below_alloc (w.alloc (.cells #[.int .i64 9, .int .i64 d, .int .i64 a, .int .i64 b, .int .i64 fn, .int .i64 obj, .int .i64 off, .int .i64 size, .int .u32 num, .slice aa args.length ca, .bool log] 48)) _).cell (p := ⟨w.heap.size, j, none⟩) (by simp)]
  exact cell_of_heap (heap_alloc_new w _) j
 have HY : Hid (∀ w', Below W0.heap.size W0 w' → ∀ j : Nat, j < 11 → w'.cell? ⟨w.heap.size + 1, j, none⟩ = #[Value.int .i64 0, .int .i64 0, .int .i64 0, .int .i64 0, .int .i64 0, .int .i64 0, .int .i64 0, .int .i64 0, .int .u32 0, .slice none 0 0, .bool false][j]?) := fun w' hb j _ => by
  rw [hb.cell (p := ⟨w.heap.size + 1, j, none⟩) (by rw [hz0]; simp only; omega), hW0]
  have := cell_of_heap (heap_alloc_new (w.alloc (.cells #[.int .i64 9, .int .i64 d, .int .i64 a, .int .i64 b, .int .i64 fn, .int .i64 obj, .int .i64 off, .int .i64 size, .int .u32 num, .slice aa args.length ca, .bool log] 48)) (.cells #[.int .i64 0, .int .i64 0, .int .i64 0, .int .i64 0, .int .i64 0, .int .i64 0, .int .i64 0, .int .i64 0, .int .u32 0, .slice none 0 0, .bool false] 48)) j
  simpa using this
 have HZ : Hid (∀ w', Below W0.heap.size W0 w' → ∀ j : Nat, w'.frozen? ⟨w.heap.size, j, none⟩ = false ∧ w'.frozen? ⟨w.heap.size + 1, j, none⟩ = false) := fun w' hb j => by
  rw [hb.frozen (p := ⟨w.heap.size, j, none⟩) (by rw [hz0]; simp only; omega), hb.frozen (p := ⟨w.heap.size + 1, j, none⟩) (by rw [hz0]; simp only; omega), hW0, (below_alloc (w.alloc (.cells #[.int .i64 9, .int .i64 d, .int .i64 a, .int .i64 b, .int .i64 fn, .int .i64 obj, .int .i64 off, .int .i64 size, .int .u32 num, .slice aa args.length ca, .bool log] 48)) _).frozen (p := ⟨w.heap.size, j, none⟩) (by simp)]
  have := frozen_of_heap (heap_alloc_new (w.alloc (.cells #[.int .i64 9, .int .i64 d, .int .i64 a, .int .i64 b, .int .i64 fn, .int .i64 obj, .int .i64 off, .int .i64 size, .int .u32 num, .slice aa args.length ca, .bool log] 48)) (.cells #[.int .i64 0, .int .i64 0, .int .i64 0, .int .i64 0, .int .i64 0, .int .i64 0, .int .i64 0, .int .i64 0, .int .u32 0, .slice none 0 0, .bool false] 48)) j
  exact ⟨frozen_of_heap (heap_alloc_new w _) j, by simpa using this⟩
 have HB : Hid (Below w.heap.size w W0) := by rw [hW0]; exact (below_alloc w _).alloc (by simp) _
 have HW0 := Lib.hid hW0
 have hza : W0.heap.size ≤ w.heap.size + 2 := Nat.le_of_eq hz0
 have hzb : w.heap.size + 2 ≤ W0.heap.size := Nat.le_of_eq hz0.symm
 clear hW0 hz0
 have HV : Hid (inA (plainI ⟨9, d, a, b, fn, obj, off, size, num, args, log⟩) = .agg #[.int .i64 9, .int .i64 (-1), .int .i64 (-1), .int .i64 (-1), .int .i64 fn, .int .i64 0, .int .i64 off, .int .i64 size, .int .u32 num, .slice none 0 0, .bool (if (9 : Int) = 6 ∨ defI ⟨9, d, a, b, fn, obj, off, size, num, args, log⟩ ≠ -1 then false else log)]) := by
  show _ = _
  unfold inA plainI
  simp
 have H6 : Hid (¬ (9 : Int) = 6) := by show ¬ _; omega
 generalize defI ⟨9, d, a, b, fn, obj, off, size, num, args, log⟩ = df at ED HV
 cases hd : (df != -1)
 ·have HV2 : Hid (inA (plainI ⟨9, d, a, b, fn, obj, off, size, num, args, log⟩) = .agg #[.int .i64 9, .int .i64 (-1), .int .i64 (-1), .int .i64 (-1), .int .i64 fn, .int .i64 0, .int .i64 off, .int .i64 size, .int .u32 num, .slice none 0 0, .bool log]) := by
   show _ = _
   rw [HV.out, if_neg]
   rintro (h | h)
   ·exact H6.out h
   ·rw [(by simpa using hd : df = -1)] at h; exact h rfl
  go_enter Tryz.func89, Tryz.ntmps89
  go_wp2_with fail
  rw [← HW0.out]
  refine ED.out.mono ?_
  rintro e w2 ⟨rfl, hb2⟩
  have x0 := HC.out w2 hb2 0 (by decide)
  have x1 := HC.out w2 hb2 1 (by decide)
  have x2 := HC.out w2 hb2 2 (by decide)
  have x3 := HC.out w2 hb2 3 (by decide)
  have x4 := HC.out w2 hb2 4 (by decide)
  have x5 := HC.out w2 hb2 5 (by decide)
  have x6 := HC.out w2 hb2 6 (by decide)
  have x7 := HC.out w2 hb2 7 (by decide)
  have x8 := HC.out w2 hb2 8 (by decide)
  have x9 := HC.out w2 hb2 9 (by decide)
  have x10 := HC.out w2 hb2 10 (by decide)
  have y0 := HY.out w2 hb2 0 (by decide)
  have y1 := HY.out w2 hb2 1 (by decide)
  have y2 := HY.out w2 hb2 2 (by decide)
  have y3 := HY.out w2 hb2 3 (by decide)
  have y4 := HY.out w2 hb2 4 (by decide)
  have y5 := HY.out w2 hb2 5 (by decide)
  have y6 := HY.out w2 hb2 6 (by decide)
  have y7 := HY.out w2 hb2 7 (by decide)
  have y8 := HY.out w2 hb2 8 (by decide)
  have y9 := HY.out w2 hb2 9 (by decide)
  have y10 := HY.out w2 hb2 10 (by decide)
  simp at x0 x1 x2 x3 x4 x5 x6 x7 x8 x9 x10 y0 y1 y2 y3 y4 y5 y6 y7 y8 y9 y10
  have z := fun j => (HZ.out w2 hb2 j).1
  have z1 := fun j => (HZ.out w2 hb2 j).2
  have hz2 : w.heap.size + 2 ≤ w2.heap.size := Nat.le_trans hzb hb2.size
  have HB2 := Lib.hid (HB.out.trans (hb2.mono (by omega)))
  clear hb2
  go_wp2_with fail
  refine bodyPost_ret (v := .agg #[.int .i64 9, .int .i64 (-1), .int .i64 (-1), .int .i64 (-1), .int .i64 fn, .int .i64 0, .int .i64 off, .int .i64 size, .int .u32 num, .slice none 0 0, .bool log]) (by simp [results, Tryz.results89, go_sem, hz2, y0, y1, y2, y3, y4, y5, y6, y7, y8, y9, y10]) rfl ⟨by rw [HV2.out], ?_⟩
  repeat (refine Below.setCell ?_ (by simp) _)
  exact HB2.out
 ·have HV2 : Hid (inA (plainI ⟨9, d, a, b, fn, obj, off, size, num, args, log⟩) = .agg #[.int .i64 9, .int .i64 (-1), .int .i64 (-1), .int .i64 (-1), .int .i64 fn, .int .i64 0, .int .i64 off, .int .i64 size, .int .u32 num, .slice none 0 0, .bool false]) := by
   show _ = _
   rw [HV.out, if_pos]
   right
   intro h
   rw [h] at hd
   exact absurd hd (by decide)
  go_enter Tryz.func89, Tryz.ntmps89
  go_wp2_with fail
  rw [← HW0.out]
  refine ED.out.mono ?_
  rintro e w2 ⟨rfl, hb2⟩
  have x0 := HC.out w2 hb2 0 (by decide)
  have x1 := HC.out w2 hb2 1 (by decide)
  have x2 := HC.out w2 hb2 2 (by decide)
  have x3 := HC.out w2 hb2 3 (by decide)
  have x4 := HC.out w2 hb2 4 (by decide)
  have x5 := HC.out w2 hb2 5 (by decide)
  have x6 := HC.out w2 hb2 6 (by decide)
  have x7 := HC.out w2 hb2 7 (by decide)
  have x8 := HC.out w2 hb2 8 (by decide)
  have x9 := HC.out w2 hb2 9 (by decide)
  have x10 := HC.out w2 hb2 10 (by decide)
  have y0 := HY.out w2 hb2 0 (by decide)
  have y1 := HY.out w2 hb2 1 (by decide)
  have y2 := HY.out w2 hb2 2 (by decide)
  have y3 := HY.out w2 hb2 3 (by decide)
  have y4 := HY.out w2 hb2 4 (by decide)
  have y5 := HY.out w2 hb2 5 (by decide)
  have y6 := HY.out w2 hb2 6 (by decide)
  have y7 := HY.out w2 hb2 7 (by decide)
  have y8 := HY.out w2 hb2 8 (by decide)
  have y9 := HY.out w2 hb2 9 (by decide)
  have y10 := HY.out w2 hb2 10 (by decide)
  simp at x0 x1 x2 x3 x4 x5 x6 x7 x8 x9 x10 y0 y1 y2 y3 y4 y5 y6 y7 y8 y9 y10
  have z := fun j => (HZ.out w2 hb2 j).1
  have z1 := fun j => (HZ.out w2 hb2 j).2
  have hz2 : w.heap.size + 2 ≤ w2.heap.size := Nat.le_trans hzb hb2.size
  have HB2 := Lib.hid (HB.out.trans (hb2.mono (by omega)))
  clear hb2
  go_wp2_with fail
  refine bodyPost_ret (v := .agg #[.int .i64 9, .int .i64 (-1), .int .i64 (-1), .int .i64 (-1), .int .i64 fn, .int .i64 0, .int .i64 off, .int .i64 size, .int .u32 num, .slice none 0 0, .bool false]) (by simp [results, Tryz.results89, go_sem, hz2, y0, y1, y2, y3, y4, y5, y6, y7, y8, y9, y10]) rfl ⟨by rw [HV2.out], ?_⟩
  repeat (refine Below.setCell ?_ (by simp) _)
  exact HB2.out
theorem plain_o (op d a b fn obj off size num : Int) (args : List Int) (log : Bool) (aa : Option Addr) (ca : Nat) (w : World) (hva : RdI w (.slice aa args.length ca) args) (n1 : (op == 1) = false) (n2 : (op == 2) = false) (n3 : (op == 3) = false) (n4 : (op == 4) = false) (n5 : (op == 5) = false) (n6 : (op == 6) = false) (n7 : (op == 7) = false) (n8 : (op == 8) = false) (n9 : (op == 9) = false) :
  Calls Tryz.prog 89 #[.agg #[.int .i64 op, .int .i64 d, .int .i64 a, .int .i64 b, .int .i64 fn, .int .i64 obj, .int .i64 off, .int .i64 size, .int .u32 num, .slice aa args.length ca, .bool log]] w fun e w' => e = .returned (inA (plainI ⟨op, d, a, b, fn, obj, off, size, num, args, log⟩)) ∧ Below w.heap.size w w' := by
 obtain ⟨W0, hW0⟩ : ∃ W0, W0 = (w.alloc (.cells #[.int .i64 op, .int .i64 d, .int .i64 a, .int .i64 b, .int .i64 fn, .int .i64 obj, .int .i64 off, .int .i64 size, .int .u32 num, .slice aa args.length ca, .bool log] 48)).alloc (.cells #[.int .i64 0, .int .i64 0, .int .i64 0, .int .i64 0, .int .i64 0, .int .i64 0, .int .i64 0, .int .i64 0, .int .u32 0, .slice none 0 0, .bool false] 48) := ⟨_, rfl⟩
 have hz0 : W0.heap.size = w.heap.size + 2 := by rw [hW0]; simp
 have ED := Lib.hid (def_c ⟨op, d, a, b, fn, obj, off, size, num, args, log⟩ (.agg #[.int .i64 op, .int .i64 d, .int .i64 a, .int .i64 b, .int .i64 fn, .int .i64 obj, .int .i64 off, .int .i64 size, .int .u32 num, .slice aa args.length ca, .bool log]) W0 ⟨_, rfl, hva.ext (by rw [hW0]; exact (Ext.alloc w _).trans (Ext.alloc _ _))⟩)
 have HC : Hid (∀ w', Below W0.heap.size W0 w' → ∀ j : Nat, j < 11 → w'.cell? ⟨w.heap.size, j, none⟩ = #[Value.int .i64 op, .int .i64 d, .int .i64 a, .int .i64 b, .int .i64 fn, .int .i64 obj, .int .i64 off, .int .i64 size, .int .u32 num, .slice aa args.length ca, .bool log][j]?) := fun w' hb j _ => by
  rw [hb.cell (p := ⟨w.heap.size, j, none⟩) (by rw [hz0]; simp only; omega), hW0, (below_alloc (w.alloc (.cells #[.int .i64 op, .int .i64 d, .int .i64 a, .int .i64 b, .int .i64 fn, .int .i64 obj, .int .i64 off, .int .i64 size, .int .u32 num, .slice aa args.length ca, .bool log] 48)) _).cell (p := ⟨w.heap.size, j, none⟩) (by simp)]
  exact cell_of_heap (heap_alloc_new w _) j
 have HY : Hid (∀ w', Below W0.heap.size W0 w' → ∀ j : Nat, j < 11 → w'.cell? ⟨w.heap.size + 1, j, none⟩ = #[Value.int .i64 0, .int .i64 0, .int .i64 0, .int .i64 0, .int .i64 0, .int .i64 0, .int .i64 0, .int .i64 0, .int .u32 0, .slice none 0 0, .bool false][j]?) := fun w' hb j _ => by
  rw [hb.cell (p := ⟨w.heap.size + 1, j, none⟩) (by rw [hz0]; simp only; omega), hW0]
  have := cell_of_heap (heap_alloc_new (w.alloc (.cells #[.int .i64 op, .int .i64 d, .int .i64 a, .int .i64 b, .int .i64 fn, .int .i64 obj, .int .i64 off, .int .i64 size, .int .u32 num, .slice aa args.length ca, .bool log] 48)) (.cells #[.int .i64 0, .int .i64 0, .int .i64 0, .int .i64 0, .int .i64 0, .int .i64 0, .int .i64 0, .int .i64 0, .int .u32 0, .slice none 0 0, .bool false] 48)) j
  simpa using this
 have HZ : Hid (∀ w', Below W0.heap.size W0 w' → ∀ j : Nat, w'.frozen? ⟨w.heap.size, j, none⟩ = false ∧ w'.frozen? ⟨w.heap.size + 1, j, none⟩ = false) := fun w' hb j => by
  rw [hb.frozen (p := ⟨w.heap.size, j, none⟩) (by rw [hz0]; simp only; omega), hb.frozen (p := ⟨w.heap.size + 1, j, none⟩) (by rw [hz0]; simp only; omega), hW0, (below_alloc (w.alloc (.cells #[.int .i64 op, .int .i64 d, .int .i64 a, .int .i64 b, .int .i64 fn, .int .i64 obj, .int .i64 off, .int .i64 size, .int .u32 num, .slice aa args.length ca, .bool log] 48)) _).frozen (p := ⟨w.heap.size, j, none⟩) (by simp)]
  have := frozen_of_heap (heap_alloc_new (w.alloc (.cells #[.int .i64 op, .int .i64 d, .int .i64 a, .int .i64 b, .int .i64 fn, .int .i64 obj, .int .i64 off, .int .i64 size, .int .u32 num, .slice aa args.length ca, .bool log] 48)) (.cells #[.int .i64 0, .int .i64 0, .int .i64 0, .int .i64 0, .int .i64 0, .int .i64 0, .int .i64 0, .int .i64 0, .int .u32 0, .slice none 0 0, .bool false] 48)) j
  exact ⟨frozen_of_heap (heap_alloc_new w _) j, by simpa using this⟩
 have HB : Hid (Below w.heap.size w W0) := by rw [hW0]; exact (below_alloc w _).alloc (by simp) _
 have HW0 := Lib.hid hW0
 have hza : W0.heap.size ≤ w.heap.size + 2 := Nat.le_of_eq hz0
 have hzb : w.heap.size + 2 ≤ W0.heap.size := Nat.le_of_eq hz0.symm
 clear hW0 hz0
 have HV : Hid (inA (plainI ⟨op, d, a, b, fn, obj, off, size, num, args, log⟩) = .agg #[.int .i64 op, .int .i64 (-1), .int .i64 (-1), .int .i64 (-1), .int .i64 fn, .int .i64 obj, .int .i64 off, .int .i64 size, .int .u32 num, .slice none 0 0, .bool (if (op : Int) = 6 ∨ defI ⟨op, d, a, b, fn, obj, off, size, num, args, log⟩ ≠ -1 then false else log)]) := by
  show _ = _
  unfold inA plainI
  have m := fun j (h : (op == j) = false) => (beq_eq_false_iff_ne.1 h : op ≠ j)
  have m1 := m 1 n1
  have m3 := m 3 n3
  have m4 := m 4 n4
  have m5 := m 5 n5
  have m6 := m 6 n6
  have m7 := m 7 n7
  have m8 := m 8 n8
  have m9 := m 9 n9
  simp [m1, m3, m4, m5, m6, m7, m8, m9]
 have H6 : Hid (¬ (op : Int) = 6) := by show ¬ _; exact beq_eq_false_iff_ne.1 n6
 generalize defI ⟨op, d, a, b, fn, obj, off, size, num, args, log⟩ = df at ED HV
 cases hd : (df != -1)
 ·have HV2 : Hid (inA (plainI ⟨op, d, a, b, fn, obj, off, size, num, args, log⟩) = .agg #[.int .i64 op, .int .i64 (-1), .int .i64 (-1), .int .i64 (-1), .int .i64 fn, .int .i64 obj, .int .i64 off, .int .i64 size, .int .u32 num, .slice none 0 0, .bool log]) := by
   show _ = _
   rw [HV.out, if_neg]
   rintro (h | h)
   ·exact H6.out h
   ·rw [(by simpa using hd : df = -1)] at h; exact h rfl
  go_enter Tryz.func89, Tryz.ntmps89
  go_wp2_with fail
  rw [← HW0.out]
  refine ED.out.mono ?_
  rintro e w2 ⟨rfl, hb2⟩
  have x0 := HC.out w2 hb2 0 (by decide)
  have x1 := HC.out w2 hb2 1 (by decide)
  have x2 := HC.out w2 hb2 2 (by decide)
  have x3 := HC.out w2 hb2 3 (by decide)
  have x4 := HC.out w2 hb2 4 (by decide)
  have x5 := HC.out w2 hb2 5 (by decide)
  have x6 := HC.out w2 hb2 6 (by decide)
  have x7 := HC.out w2 hb2 7 (by decide)
  have x8 := HC.out w2 hb2 8 (by decide)
  have x9 := HC.out w2 hb2 9 (by decide)
  have x10 := HC.out w2 hb2 10 (by decide)
  have y0 := HY.out w2 hb2 0 (by decide)
  have y1 := HY.out w2 hb2 1 (by decide)
  have y2 := HY.out w2 hb2 2 (by decide)
  have y3 := HY.out w2 hb2 3 (by decide)
  have y4 := HY.out w2 hb2 4 (by decide)
  have y5 := HY.out w2 hb2 5 (by decide)
  have y6 := HY.out w2 hb2 6 (by decide)
  have y7 := HY.out w2 hb2 7 (by decide)
  have y8 := HY.out w2 hb2 8 (by decide)
  have y9 := HY.out w2 hb2 9 (by decide)
  have y10 := HY.out w2 hb2 10 (by decide)
  simp at x0 x1 x2 x3 x4 x5 x6 x7 x8 x9 x10 y0 y1 y2 y3 y4 y5 y6 y7 y8 y9 y10
  have z := fun j => (HZ.out w2 hb2 j).1
  have z1 := fun j => (HZ.out w2 hb2 j).2
  have hz2 : w.heap.size + 2 ≤ w2.heap.size := Nat.le_trans hzb hb2.size
  have HB2 := Lib.hid (HB.out.trans (hb2.mono (by omega)))
  clear hb2
  go_wp2_with fail
  refine bodyPost_ret (v := .agg #[.int .i64 op, .int .i64 (-1), .int .i64 (-1), .int .i64 (-1), .int .i64 fn, .int .i64 obj, .int .i64 off, .int .i64 size, .int .u32 num, .slice none 0 0, .bool log]) (by simp [results, Tryz.results89, go_sem, hz2, y0, y1, y2, y3, y4, y5, y6, y7, y8, y9, y10]) rfl ⟨by rw [HV2.out], ?_⟩
  repeat (refine Below.setCell ?_ (by simp) _)
  exact HB2.out
 ·have HV2 : Hid (inA (plainI ⟨op, d, a, b, fn, obj, off, size, num, args, log⟩) = .agg #[.int .i64 op, .int .i64 (-1), .int .i64 (-1), .int .i64 (-1), .int .i64 fn, .int .i64 obj, .int .i64 off, .int .i64 size, .int .u32 num, .slice none 0 0, .bool false]) := by
   show _ = _
   rw [HV.out, if_pos]
   right
   intro h
   rw [h] at hd
   exact absurd hd (by decide)
  go_enter Tryz.func89, Tryz.ntmps89
  go_wp2_with fail
  rw [← HW0.out]
  refine ED.out.mono ?_
  rintro e w2 ⟨rfl, hb2⟩
  have x0 := HC.out w2 hb2 0 (by decide)
  have x1 := HC.out w2 hb2 1 (by decide)
  have x2 := HC.out w2 hb2 2 (by decide)
  have x3 := HC.out w2 hb2 3 (by decide)
  have x4 := HC.out w2 hb2 4 (by decide)
  have x5 := HC.out w2 hb2 5 (by decide)
  have x6 := HC.out w2 hb2 6 (by decide)
  have x7 := HC.out w2 hb2 7 (by decide)
  have x8 := HC.out w2 hb2 8 (by decide)
  have x9 := HC.out w2 hb2 9 (by decide)
  have x10 := HC.out w2 hb2 10 (by decide)
  have y0 := HY.out w2 hb2 0 (by decide)
  have y1 := HY.out w2 hb2 1 (by decide)
  have y2 := HY.out w2 hb2 2 (by decide)
  have y3 := HY.out w2 hb2 3 (by decide)
  have y4 := HY.out w2 hb2 4 (by decide)
  have y5 := HY.out w2 hb2 5 (by decide)
  have y6 := HY.out w2 hb2 6 (by decide)
  have y7 := HY.out w2 hb2 7 (by decide)
  have y8 := HY.out w2 hb2 8 (by decide)
  have y9 := HY.out w2 hb2 9 (by decide)
  have y10 := HY.out w2 hb2 10 (by decide)
  simp at x0 x1 x2 x3 x4 x5 x6 x7 x8 x9 x10 y0 y1 y2 y3 y4 y5 y6 y7 y8 y9 y10
  have z := fun j => (HZ.out w2 hb2 j).1
  have z1 := fun j => (HZ.out w2 hb2 j).2
  have hz2 : w.heap.size + 2 ≤ w2.heap.size := Nat.le_trans hzb hb2.size
  have HB2 := Lib.hid (HB.out.trans (hb2.mono (by omega)))
  clear hb2
  go_wp2_with fail
  refine bodyPost_ret (v := .agg #[.int .i64 op, .int .i64 (-1), .int .i64 (-1), .int .i64 (-1), .int .i64 fn, .int .i64 obj, .int .i64 off, .int .i64 size, .int .u32 num, .slice none 0 0, .bool false]) (by simp [results, Tryz.results89, go_sem, hz2, y0, y1, y2, y3, y4, y5, y6, y7, y8, y9, y10]) rfl ⟨by rw [HV2.out], ?_⟩
  repeat (refine Below.setCell ?_ (by simp) _)
  exact HB2.out
theorem plain_c (i : In) (V : Value) (w : World) (hv : InV w V i) : Calls Tryz.prog 89 #[V] w fun e w' => e = .returned (inA (plainI i)) ∧ Below w.heap.size w w' := by
 obtain ⟨op, d, a, b, fn, obj, off, size, num, args, log⟩ := i
 obtain ⟨va, rfl, hva⟩ := hv
 have hva' := hva
 obtain ⟨aa, ca, rfl, -⟩ := hva'
 simp only at hva ⊢
 by_cases h1 : op = 1
 ·subst h1
  exact plain_1 d a b fn obj off size num args log aa ca w hva
 by_cases h2 : op = 2
 ·subst h2
  exact plain_2 d a b fn obj off size num args log aa ca w hva
 by_cases h3 : op = 3
 ·subst h3
  exact plain_3 d a b fn obj off size num args log aa ca w hva
 by_cases h4 : op = 4
 ·subst h4
  exact plain_4 d a b fn obj off size num args log aa ca w hva
 by_cases h5 : op = 5
 ·subst h5
  exact plain_5 d a b fn obj off size num args log aa ca w hva
 by_cases h6 : op = 6
 ·subst h6
  exact plain_6 d a b fn obj off size num args log aa ca w hva
 by_cases h7 : op = 7
 ·subst h7
  exact plain_7 d a b fn obj off size num args log aa ca w hva
 by_cases h8 : op = 8
 ·subst h8
  exact plain_8 d a b fn obj off size num args log aa ca w hva
 by_cases h9 : op = 9
 ·subst h9
  exact plain_9 d a b fn obj off size num args log aa ca w hva
 exact plain_o op d a b fn obj off size num args log aa ca w hva (beq_eq_false_iff_ne.2 h1) (beq_eq_false_iff_ne.2 h2) (beq_eq_false_iff_ne.2 h3) (beq_eq_false_iff_ne.2 h4) (beq_eq_false_iff_ne.2 h5) (beq_eq_false_iff_ne.2 h6) (beq_eq_false_iff_ne.2 h7) (beq_eq_false_iff_ne.2 h8) (beq_eq_false_iff_ne.2 h9)
theorem bare_c (i : In) (V : Value) (w : World) (hv : InV w V i) : Calls Tryz.prog 65 #[V] w fun e w' => e = .returned (.bool (bareF i)) ∧ Below w.heap.size w w' := by
 have EP : Hid (∀ w', Ext w w' → Calls Tryz.prog 89 #[V] w' fun e w'' => e = .returned (inA (plainI i)) ∧ Below w'.heap.size w' w'') := fun w' he => plain_c i V w' (hv.ext he)
 obtain ⟨va, rfl, ⟨aa, ca, rfl, -⟩⟩ := hv
 have HF : Hid (bareF i = ((plainI i).fn == 0 && ((plainI i).obj == 0 && ((plainI i).off == 0 && ((plainI i).size == 0 && ((plainI i).num == 0 && (!(plainI i).log && (i.op == 9 || decide (i.args.length = 0))))))))) := rfl
 generalize plainI i = P at EP HF
 unfold inA at EP
 have HX : Hid (∀ w', Below (w.heap.size + 1) (w.alloc (.cells #[.int .i64 i.op, .int .i64 i.d, .int .i64 i.a, .int .i64 i.b, .int .i64 i.fn, .int .i64 i.obj, .int .i64 i.off, .int .i64 i.size, .int .u32 i.num, .slice aa i.args.length ca, .bool i.log] 48)) w' → w'.cell? ⟨w.heap.size, 0, none⟩ = some (.int .i64 i.op) ∧ w'.cell? ⟨w.heap.size, 9, none⟩ = some (.slice aa i.args.length ca)) := fun w' hb => by
  rw [hb.cell (p := ⟨w.heap.size, 0, none⟩) (Nat.lt_succ_self _), hb.cell (p := ⟨w.heap.size, 9, none⟩) (Nat.lt_succ_self _)]
  exact ⟨cell_of_heap (heap_alloc_new w _) 0, cell_of_heap (heap_alloc_new w _) 9⟩
 cases h0 : (P.fn == 0)
 ·skip
  have HV : Hid (bareF i = false) := by show _ = _; rw [HF.out, h0]; rfl
  clear HF
  go_enter Tryz.func65, Tryz.ntmps65
  go_wp2_with fail
  refine (EP.out _ (Ext.alloc w _)).mono ?_
  rintro e w2 ⟨rfl, hb2⟩
  have hb2 : Below (w.heap.size + 1) (w.alloc (.cells #[.int .i64 i.op, .int .i64 i.d, .int .i64 i.a, .int .i64 i.b, .int .i64 i.fn, .int .i64 i.obj, .int .i64 i.off, .int .i64 i.size, .int .u32 i.num, .slice aa i.args.length ca, .bool i.log] 48)) w2 := by simpa using hb2
  obtain ⟨x0, x9⟩ := HX.out w2 hb2
  have hz : w.heap.size < w2.heap.size := by have := hb2.size; simp at this; omega
  have HB := Lib.hid ((below_alloc w _).trans (hb2.mono (by simp)))
  clear hb2
  go_wp2_with fail
  go_ret
  exact ⟨ret_b HV.out.symm, HB.out.alloc HB.out.size _⟩
 ·skip
  cases h1 : (P.obj == 0)
  ·skip
   have HV : Hid (bareF i = false) := by show _ = _; rw [HF.out, h0, h1]; rfl
   clear HF
   go_enter Tryz.func65, Tryz.ntmps65
   go_wp2_with fail
   refine (EP.out _ (Ext.alloc w _)).mono ?_
   rintro e w2 ⟨rfl, hb2⟩
   have hb2 : Below (w.heap.size + 1) (w.alloc (.cells #[.int .i64 i.op, .int .i64 i.d, .int .i64 i.a, .int .i64 i.b, .int .i64 i.fn, .int .i64 i.obj, .int .i64 i.off, .int .i64 i.size, .int .u32 i.num, .slice aa i.args.length ca, .bool i.log] 48)) w2 := by simpa using hb2
   obtain ⟨x0, x9⟩ := HX.out w2 hb2
   have hz : w.heap.size < w2.heap.size := by have := hb2.size; simp at this; omega
   have HB := Lib.hid ((below_alloc w _).trans (hb2.mono (by simp)))
   clear hb2
   go_wp2_with fail
   go_ret
   exact ⟨ret_b HV.out.symm, HB.out.alloc HB.out.size _⟩
  ·skip
   cases h2 : (P.off == 0)
   ·skip
    have HV : Hid (bareF i = false) := by show _ = _; rw [HF.out, h0, h1, h2]; rfl
    clear HF
    go_enter Tryz.func65, Tryz.ntmps65
    go_wp2_with fail
    refine (EP.out _ (Ext.alloc w _)).mono ?_
    rintro e w2 ⟨rfl, hb2⟩
    have hb2 : Below (w.heap.size + 1) (w.alloc (.cells #[.int .i64 i.op, .int .i64 i.d, .int .i64 i.a, .int .i64 i.b, .int .i64 i.fn, .int .i64 i.obj, .int .i64 i.off, .int .i64 i.size, .int .u32 i.num, .slice aa i.args.length ca, .bool i.log] 48)) w2 := by simpa using hb2
    obtain ⟨x0, x9⟩ := HX.out w2 hb2
    have hz : w.heap.size < w2.heap.size := by have := hb2.size; simp at this; omega
    have HB := Lib.hid ((below_alloc w _).trans (hb2.mono (by simp)))
    clear hb2
    go_wp2_with fail
    go_ret
    exact ⟨ret_b HV.out.symm, HB.out.alloc HB.out.size _⟩
   ·skip
    cases h3 : (P.size == 0)
    ·skip
     have HV : Hid (bareF i = false) := by show _ = _; rw [HF.out, h0, h1, h2, h3]; rfl
     clear HF
     go_enter Tryz.func65, Tryz.ntmps65
     go_wp2_with fail
     refine (EP.out _ (Ext.alloc w _)).mono ?_
     rintro e w2 ⟨rfl, hb2⟩
     have hb2 : Below (w.heap.size + 1) (w.alloc (.cells #[.int .i64 i.op, .int .i64 i.d, .int .i64 i.a, .int .i64 i.b, .int .i64 i.fn, .int .i64 i.obj, .int .i64 i.off, .int .i64 i.size, .int .u32 i.num, .slice aa i.args.length ca, .bool i.log] 48)) w2 := by simpa using hb2
     obtain ⟨x0, x9⟩ := HX.out w2 hb2
     have hz : w.heap.size < w2.heap.size := by have := hb2.size; simp at this; omega
     have HB := Lib.hid ((below_alloc w _).trans (hb2.mono (by simp)))
     clear hb2
     go_wp2_with fail
     go_ret
     exact ⟨ret_b HV.out.symm, HB.out.alloc HB.out.size _⟩
    ·skip
     cases h4 : (P.num == 0)
     ·skip
      have HV : Hid (bareF i = false) := by show _ = _; rw [HF.out, h0, h1, h2, h3, h4]; rfl
      clear HF
      go_enter Tryz.func65, Tryz.ntmps65
      go_wp2_with fail
      refine (EP.out _ (Ext.alloc w _)).mono ?_
      rintro e w2 ⟨rfl, hb2⟩
      have hb2 : Below (w.heap.size + 1) (w.alloc (.cells #[.int .i64 i.op, .int .i64 i.d, .int .i64 i.a, .int .i64 i.b, .int .i64 i.fn, .int .i64 i.obj, .int .i64 i.off, .int .i64 i.size, .int .u32 i.num, .slice aa i.args.length ca, .bool i.log] 48)) w2 := by simpa using hb2
      obtain ⟨x0, x9⟩ := HX.out w2 hb2
      have hz : w.heap.size < w2.heap.size := by have := hb2.size; simp at this; omega
      have HB := Lib.hid ((below_alloc w _).trans (hb2.mono (by simp)))
      clear hb2
      go_wp2_with fail
      go_ret
      exact ⟨ret_b HV.out.symm, HB.out.alloc HB.out.size _⟩
     ·skip
      cases h5 : (P.log)
      ·skip
       cases h6 : (i.op == 9)
       ·by_cases hl : i.args.length = 0
        ·have h7 : decide (i.args.length = 0) = true := decide_eq_true hl
         have h8 : ((i.args.length : Int) == 0) = true := by rw [hl]; rfl
         clear hl
         have HV : Hid (bareF i = true) := by show _ = _; rw [HF.out, h0, h1, h2, h3, h4, h5, h6, h7]; rfl
         clear HF h7
         go_enter Tryz.func65, Tryz.ntmps65
         go_wp2_with fail
         refine (EP.out _ (Ext.alloc w _)).mono ?_
         rintro e w2 ⟨rfl, hb2⟩
         have hb2 : Below (w.heap.size + 1) (w.alloc (.cells #[.int .i64 i.op, .int .i64 i.d, .int .i64 i.a, .int .i64 i.b, .int .i64 i.fn, .int .i64 i.obj, .int .i64 i.off, .int .i64 i.size, .int .u32 i.num, .slice aa i.args.length ca, .bool i.log] 48)) w2 := by simpa using hb2
         obtain ⟨x0, x9⟩ := HX.out w2 hb2
         have hz : w.heap.size < w2.heap.size := by have := hb2.size; simp at this; omega
         have HB := Lib.hid ((below_alloc w _).trans (hb2.mono (by simp)))
         clear hb2
         go_wp2_with fail
         go_ret
         exact ⟨ret_b HV.out.symm, HB.out.alloc HB.out.size _⟩
        ·have h7 : decide (i.args.length = 0) = false := decide_eq_false hl
         have h8 : ((i.args.length : Int) == 0) = false := beq_eq_false_iff_ne.2 (by omega)
         clear hl
         have HV : Hid (bareF i = false) := by show _ = _; rw [HF.out, h0, h1, h2, h3, h4, h5, h6, h7]; rfl
         clear HF h7
         go_enter Tryz.func65, Tryz.ntmps65
         go_wp2_with fail
         refine (EP.out _ (Ext.alloc w _)).mono ?_
         rintro e w2 ⟨rfl, hb2⟩
         have hb2 : Below (w.heap.size + 1) (w.alloc (.cells #[.int .i64 i.op, .int .i64 i.d, .int .i64 i.a, .int .i64 i.b, .int .i64 i.fn, .int .i64 i.obj, .int .i64 i.off, .int .i64 i.size, .int .u32 i.num, .slice aa i.args.length ca, .bool i.log] 48)) w2 := by simpa using hb2
         obtain ⟨x0, x9⟩ := HX.out w2 hb2
         have hz : w.heap.size < w2.heap.size := by have := hb2.size; simp at this; omega
         have HB := Lib.hid ((below_alloc w _).trans (hb2.mono (by simp)))
         clear hb2
         go_wp2_with fail
         go_ret
         exact ⟨ret_b HV.out.symm, HB.out.alloc HB.out.size _⟩
       ·skip
        have HV : Hid (bareF i = true) := by show _ = _; rw [HF.out, h0, h1, h2, h3, h4, h5, h6]; rfl
        clear HF
        go_enter Tryz.func65, Tryz.ntmps65
        go_wp2_with fail
        refine (EP.out _ (Ext.alloc w _)).mono ?_
        rintro e w2 ⟨rfl, hb2⟩
        have hb2 : Below (w.heap.size + 1) (w.alloc (.cells #[.int .i64 i.op, .int .i64 i.d, .int .i64 i.a, .int .i64 i.b, .int .i64 i.fn, .int .i64 i.obj, .int .i64 i.off, .int .i64 i.size, .int .u32 i.num, .slice aa i.args.length ca, .bool i.log] 48)) w2 := by simpa using hb2
        obtain ⟨x0, x9⟩ := HX.out w2 hb2
        have hz : w.heap.size < w2.heap.size := by have := hb2.size; simp at this; omega
        have HB := Lib.hid ((below_alloc w _).trans (hb2.mono (by simp)))
        clear hb2
        go_wp2_with fail
        go_ret
        exact ⟨ret_b HV.out.symm, HB.out.alloc HB.out.size _⟩
      ·skip
       have HV : Hid (bareF i = false) := by show _ = _; rw [HF.out, h0, h1, h2, h3, h4, h5]; rfl
       clear HF
       go_enter Tryz.func65, Tryz.ntmps65
       go_wp2_with fail
       refine (EP.out _ (Ext.alloc w _)).mono ?_
       rintro e w2 ⟨rfl, hb2⟩
       have hb2 : Below (w.heap.size + 1) (w.alloc (.cells #[.int .i64 i.op, .int .i64 i.d, .int .i64 i.a, .int .i64 i.b, .int .i64 i.fn, .int .i64 i.obj, .int .i64 i.off, .int .i64 i.size, .int .u32 i.num, .slice aa i.args.length ca, .bool i.log] 48)) w2 := by simpa using hb2
       obtain ⟨x0, x9⟩ := HX.out w2 hb2
       have hz : w.heap.size < w2.heap.size := by have := hb2.size; simp at this; omega
       have HB := Lib.hid ((below_alloc w _).trans (hb2.mono (by simp)))
       clear hb2
       go_wp2_with fail
       go_ret
       exact ⟨ret_b HV.out.symm, HB.out.alloc HB.out.size _⟩
end Go.Proofs.YtchoiankeohonaaGreatDoor
