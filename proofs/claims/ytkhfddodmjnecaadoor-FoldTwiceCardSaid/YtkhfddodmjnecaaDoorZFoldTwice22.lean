/-
 What an instruction sets (fold.number).
-/
import Derived.Test.YtkhfddodmjnecaaDoorZFoldTwice14
import Derived.Test.YtkhfddodmjnecaaDoorZFoldTwice21
import Derived.Test.YtkhfddodmjnecaaDoorZFoldTwice10
set_option linter.all false
namespace Go.Proofs.YtkhfddodmjnecaaDoor
open Go.ChangeShapes Go.WideShapes Go.ChangeAt Go.RowKit
set_option maxHeartbeats 4000000
set_option maxRecDepth 100000
set_option linter.unusedVariables false

/-- two cells in boxes of their own -/
def TwoCl (W1 : World) (o1 o2 : Option Int) (t5 t6 : Value) (wx : World) : Prop := ∃ b1 b2, t5 = .pointer (some ⟨b1, 0, none⟩) ∧ t6 = .pointer (some ⟨b2, 0, none⟩) ∧
 Hid (wx.heap[b1]? = some (.cells #[.bool o1.isSome, .int .u32 (o1.getD 0)] 54)) ∧ Hid (wx.heap[b2]? = some (.cells #[.bool o2.isSome, .int .u32 (o2.getD 0)] 54)) ∧ Hid (Below W1.heap.size W1 wx) ∧ W1.heap.size ≤ b1 ∧ W1.heap.size ≤ b2
/-- what number hands back -/
def NumQ (t : Ro) (i : In) (w : World) (e : Ending) (w' : World) : Prop := ∃ X, e = .returned (.agg #[.bool (numC t i).isSome, .int .u32 X]) ∧ (∀ y, numC t i = some y → X = y) ∧ Below w.heap.size w w'
theorem keepY_set2 {n b : Nat} {w0 w : World} (hk : KeepY (fun z => z < n) w0 w) (h : ¬ b < n) (u v : Value) : KeepY (fun z => z < n) w0 ((w.setCell ⟨b, 0, none⟩ u).setCell ⟨b, 1, none⟩ v) := (hk.set (p := ⟨b, 0, none⟩) u h).set (p := ⟨b, 1, none⟩) v h
theorem below_set2c {B b : Nat} {w0 w : World} (hk : Below B w0 w) (h : B ≤ b) (u v : Value) : Below B w0 ((w.setCell ⟨b, 0, none⟩ u).setCell ⟨b, 1, none⟩ v) := (hk.setCell (p := ⟨b, 0, none⟩) h u).setCell (p := ⟨b, 1, none⟩) h v
theorem set2_other {w : World} {b c : Nat} {z : Option Obj} (h : w.heap[c]? = z) (hc : c ≠ b) (u v : Value) : ((w.setCell ⟨b, 0, none⟩ u).setCell ⟨b, 1, none⟩ v).heap[c]? = z :=
 (Below.heap_setCell _ ⟨b, 1, none⟩ v c hc).trans ((Below.heap_setCell _ ⟨b, 0, none⟩ u c hc).trans h)
theorem number_c (g c : Nat) (t : Ro) (i : In) (va : Value) (w : World) (h : RdRo w g c t) (ht : RoOk t) (hv : RdI w va i.args) :
  Calls Tryd.prog 33 #[.slice (some ⟨g, 0, none⟩) t.length c, aggI i va] w (NumQ t i w) := by
 have HAT : Hid (∀ (r : Int) W, Ext w W → Calls Tryd.prog 17 #[.slice (some ⟨g, 0, none⟩) t.length c, .int .i64 r] W fun e w' => e = .returned (cellV (cAt t r)) ∧ Below W.heap.size W w') := fun r W hW => atC_c g c t r W (h.ext hW)
 have HOK := Lib.hid ht.at
 obtain ⟨aa, ac, rfl, -⟩ := hv
 have HN : Hid (∀ X, (numC t i = some X → True)) := fun _ _ => trivial
 clear h ht HN
 have HQ : Hid (∀ e w', NumQ t i w e w' ↔ NumQ t i w e w') := fun _ _ => Iff.rfl
 clear HQ
 obtain ⟨op, d, a, b, fn, obj, off, size, num, args, lg⟩ := i
 unfold aggI
 dsimp only
 have HA1 := Lib.hid (HAT.out a)
 have HA2 := Lib.hid (HAT.out b)
 have HOA := Lib.hid (HOK.out a)
 have HOB := Lib.hid (HOK.out b)
 have HNU : Hid (numC t ⟨op, d, a, b, fn, obj, off, size, num, args, lg⟩ = if op = 1 then some num else if op = 2 then cAt t a else if op = 4 then (cAt t a).map fun x => fnF fn x 0 else if op = 3 then (cAt t a).bind fun x => (cAt t b).map fun y => fnF fn x y else none) := rfl
 have HPost : Hid (∀ (S : Bool) (X : Int) w', (numC t ⟨op, d, a, b, fn, obj, off, size, num, args, lg⟩).isSome = S → (∀ y, numC t ⟨op, d, a, b, fn, obj, off, size, num, args, lg⟩ = some y → X = y) → Below w.heap.size w w' → NumQ t ⟨op, d, a, b, fn, obj, off, size, num, args, lg⟩ w (.returned (.agg #[.bool S, .int .u32 X])) w') := fun S X w' h1 h2 h3 => ⟨X, by rw [h1], h2, h3⟩
 clear HAT HOK
 generalize NumQ t ⟨op, d, a, b, fn, obj, off, size, num, args, lg⟩ w = QQ at *
 generalize numC t ⟨op, d, a, b, fn, obj, off, size, num, args, lg⟩ = NN at *
 generalize cAt t a = oa at *
 generalize cAt t b = ob at *
 generalize t.length = n at *
 obtain ⟨W1, hW1⟩ : ∃ W1, W1 = allocs w [.cells #[.int .i64 op, .int .i64 d, .int .i64 a, .int .i64 b, .int .i64 fn, .int .i64 obj, .int .i64 off, .int .i64 size, .int .u32 num, .slice aa args.length ac, .bool lg] 40, .cells #[.bool false, .int .u32 0] 54] := ⟨_, rfl⟩
 have BB : Hid (Below w.heap.size w W1) := by rw [hW1]; exact allocs_below _ _
 have H0 : Hid (W1.heap[w.heap.size]? = some (.cells #[.int .i64 op, .int .i64 d, .int .i64 a, .int .i64 b, .int .i64 fn, .int .i64 obj, .int .i64 off, .int .i64 size, .int .u32 num, .slice aa args.length ac, .bool lg] 40)) := by rw [hW1]; exact allocs_heap _ w 0 (by simp)
 have H1 : Hid (W1.heap[w.heap.size + 1]? = some (.cells #[.bool false, .int .u32 0] 54)) := by rw [hW1]; exact allocs_heap _ w 1 (by simp)
 have HW1 : Hid ((w.alloc (.cells #[.int .i64 op, .int .i64 d, .int .i64 a, .int .i64 b, .int .i64 fn, .int .i64 obj, .int .i64 off, .int .i64 size, .int .u32 num, .slice aa args.length ac, .bool lg] 40)).alloc (.cells #[.bool false, .int .u32 0] 54) = W1) := hW1.symm
 clear hW1
 obtain ⟨x0, x1, x2, x3, x4, x5, x6, x7, x8, x9, x10, l0⟩ := cl11 H0.out
 obtain ⟨r0, r1, lr⟩ := cl2 H1.out
 unfold cellV at HA1 HA2
 obtain ⟨S1, hS1⟩ : ∃ S, oa.isSome = S := ⟨_, rfl⟩
 obtain ⟨X1, hX1⟩ : ∃ X, oa.getD 0 = X := ⟨_, rfl⟩
 obtain ⟨S2, hS2⟩ : ∃ S, ob.isSome = S := ⟨_, rfl⟩
 obtain ⟨X2, hX2⟩ : ∃ X, ob.getD 0 = X := ⟨_, rfl⟩
 rw [hS1, hX1] at HA1
 rw [hS2, hX2] at HA2
 have HS1 := Lib.hid hS1
 have HX1 := Lib.hid hX1
 have HS2 := Lib.hid hS2
 have HX2 := Lib.hid hX2
 clear hS1 hX1 hS2 hX2
 go_enter Tryd.func33, Tryd.ntmps33
 go_wp2_with fail
 rw [HW1.out]
 clear HW1
 go_cut [5, 6] from 7 to 14 (fun t5 t6 wx => TwoCl W1 oa ob t5 t6 wx)
 case first =>
  refine wp_region_yard (fun z => z < W1.heap.size) (by kernel_rfl) ?_
  refine Y_mobs [0, 1, 2, 4, 5, 6] _ _ _ _ (by kernel_rfl) ?_
  simp only [List.map_cons, List.map_nil, List.getElem?_toArray, List.getElem?_cons_succ, List.getElem?_cons_zero, Option.getD_some, List.size_toArray, List.length_cons, List.length_nil, Nat.reduceAdd, Nat.reduceSub]
  repeat (go_big_quiet_step (fail))
  refine wpQuiet_nil ?_
  have HEW : Hid (Ext w W1) := Ext.below BB.out
  have HSZ : Hid (w.heap.size ≤ W1.heap.size) := BB.out.size
  refine Y_call 3 _ (.agg #[.bool S1, .int .u32 X1]) rfl (by kernel_rfl) rfl ?_ ?_
  all_goals simp only [List.getElem_toArray, List.getElem_cons_succ, List.getElem_cons_zero]
  ·intro wk hk
   go_wp2_with fail
   refine (HA1.out wk (hk.ext HEW.out HSZ.out)).mono ?_
   rintro e wz ⟨rfl, hb⟩
   go_wp2_with fail
   exact ⟨rfl, hb⟩
  simp only [Act.put, List.setIfInBounds_toArray, List.set_cons_succ, List.set_cons_zero]
  refine Y_call 7 _ (.agg #[.bool S2, .int .u32 X2]) rfl (by kernel_rfl) rfl ?_ ?_
  all_goals simp only [List.getElem_toArray, List.getElem_cons_succ, List.getElem_cons_zero]
  ·intro wk hk
   go_wp2_with fail
   refine (HA2.out wk (hk.ext HEW.out HSZ.out)).mono ?_
   rintro e wz ⟨rfl, hb⟩
   go_wp2_with fail
   exact ⟨rfl, hb⟩
  simp only [Act.put, List.setIfInBounds_toArray, List.set_cons_succ, List.set_cons_zero]
  have BC : Hid (Below W1.heap.size W1 W1) := Below.refl _ _
  refine Y_loud2 8 9 _ _ rfl rfl (by kernel_rfl) ?_ ?_
  ·simp only [List.getElem_toArray, List.getElem_cons_succ, List.getElem_cons_zero]
   intro wj hj
   have BC := Lib.hid (BC.out.trans (hj.mono BC.out.size))
   go_wp2_with fail
   refine ⟨KeepY.below (below_alloc _ _), ?_⟩
   have hA := below_alloc wj (.cells #[.bool false, .int .u32 0] 54)
   have Zb1 : Hid ((wj.alloc (.cells #[.bool false, .int .u32 0] 54)).heap[wj.heap.size]? = _) := heap_alloc_new wj _
   obtain ⟨b1, hb1⟩ : ∃ b, b = wj.heap.size := ⟨_, rfl⟩
   rw [← hb1] at Zb1 ⊢
   have lb1 : W1.heap.size ≤ b1 := by rw [hb1]; exact BC.out.size
   have hlt : b1 < (wj.alloc (.cells #[.bool false, .int .u32 0] 54)).heap.size := by rw [hb1]; simp
   have BC := Lib.hid (BC.out.trans (hA.mono BC.out.size))
   generalize wj.alloc (.cells #[.bool false, .int .u32 0] 54) = w5 at *
   clear hA hj hb1
   refine Y_loud1 9 _ rfl (by kernel_rfl) ?_
   simp only [List.getElem_toArray, List.getElem_cons_succ, List.getElem_cons_zero]
   intro wj hj
   have BC := Lib.hid (BC.out.trans (hj.mono BC.out.size))
   have Zb1 := Lib.hid ((hj.block _ hlt).trans Zb1.out)
   have hlt1 : b1 < wj.heap.size := Nat.lt_of_lt_of_le hlt hj.size
   go_wp2_with fail
   refine ⟨KeepY.below (below_alloc _ _), ?_⟩
   have hA := below_alloc wj (.cells #[.bool false, .int .u32 0] 54)
   have Zb2 : Hid ((wj.alloc (.cells #[.bool false, .int .u32 0] 54)).heap[wj.heap.size]? = _) := heap_alloc_new wj _
   obtain ⟨b2, hb2⟩ : ∃ b, b = wj.heap.size := ⟨_, rfl⟩
   rw [← hb2] at Zb2 ⊢
   have lb2 : W1.heap.size ≤ b2 := by rw [hb2]; exact BC.out.size
   have hlt : b2 < (wj.alloc (.cells #[.bool false, .int .u32 0] 54)).heap.size := by rw [hb2]; simp
   have BC := Lib.hid (BC.out.trans (hA.mono BC.out.size))
   have Zb1 := Lib.hid ((hA.block _ hlt1).trans Zb1.out)
   have hne : b1 ≠ b2 := by omega
   generalize wj.alloc (.cells #[.bool false, .int .u32 0] 54) = w6 at *
   clear hA hj hb2 hlt hlt1
   refine Y_loud1 10 _ rfl (by kernel_rfl) ?_
   simp only [List.getElem_toArray, List.getElem_cons_succ, List.getElem_cons_zero]
   intro wj hj
   have Zb1 := Lib.hid ((hj.block _ (Array.getElem?_eq_some_iff.1 Zb1.out).1).trans Zb1.out)
   have Zb2 := Lib.hid ((hj.block _ (Array.getElem?_eq_some_iff.1 Zb2.out).1).trans Zb2.out)
   have BC := Lib.hid (BC.out.trans (hj.mono BC.out.size))
   obtain ⟨z0, z1, zl⟩ := cl2 Zb1.out
   have q0 := frozen_of_heap Zb1.out 0
   have q1 := frozen_of_heap Zb1.out 1
   go_wp2_with fail
   refine ⟨keepY_set2 (KeepY.refl _ wj) (by omega) (.bool S1) (.int .u32 X1), ?_⟩
   have BS := below_set2c BC.out (b := b1) lb1 (.bool S1) (.int .u32 X1)
   have Zb1 := Lib.hid (set2_heap Zb1.out (.bool S1) (.int .u32 X1))
   have Zb2 := Lib.hid (set2_other Zb2.out (Ne.symm hne) (.bool S1) (.int .u32 X1))
   have BC := Lib.hid BS
   generalize (wj.setCell ⟨b1, 0, none⟩ (.bool S1)).setCell ⟨b1, 1, none⟩ (.int .u32 X1) = w7 at *
   clear BS hj z0 z1 zl q0 q1
   refine Y_loud1 11 _ rfl (by kernel_rfl) ?_
   simp only [List.getElem_toArray, List.getElem_cons_succ, List.getElem_cons_zero]
   intro wj hj
   have Zb1 := Lib.hid ((hj.block _ (Array.getElem?_eq_some_iff.1 Zb1.out).1).trans Zb1.out)
   have Zb2 := Lib.hid ((hj.block _ (Array.getElem?_eq_some_iff.1 Zb2.out).1).trans Zb2.out)
   have BC := Lib.hid (BC.out.trans (hj.mono BC.out.size))
   obtain ⟨z0, z1, zl⟩ := cl2 Zb2.out
   have q0 := frozen_of_heap Zb2.out 0
   have q1 := frozen_of_heap Zb2.out 1
   go_wp2_with fail
   refine ⟨keepY_set2 (KeepY.refl _ wj) (by omega) (.bool S2) (.int .u32 X2), ?_⟩
   have BS := below_set2c BC.out (b := b2) lb2 (.bool S2) (.int .u32 X2)
   have Zb2 := Lib.hid (set2_heap Zb2.out (.bool S2) (.int .u32 X2))
   have Zb1 := Lib.hid (set2_other Zb1.out hne (.bool S2) (.int .u32 X2))
   have BC := Lib.hid BS
   generalize (wj.setCell ⟨b2, 0, none⟩ (.bool S2)).setCell ⟨b2, 1, none⟩ (.int .u32 X2) = w8 at *
   clear BS hj z0 z1 zl q0 q1
   refine Y_done (by kernel_rfl) (fun wj hj => ?_) _
   have Zb1 := Lib.hid ((hj.block _ (Array.getElem?_eq_some_iff.1 Zb1.out).1).trans Zb1.out)
   have Zb2 := Lib.hid ((hj.block _ (Array.getElem?_eq_some_iff.1 Zb2.out).1).trans Zb2.out)
   have BC := Lib.hid (BC.out.trans (hj.mono BC.out.size))
   go_wp2_with fail
   go_meet
   case rel => exact ⟨b1, b2, rfl, rfl, by rw [HS1.out, HX1.out]; exact Zb1, by rw [HS2.out, HX2.out]; exact Zb2, BC, lb1, lb2⟩
  ·simp only [List.getElem_toArray, List.getElem_cons_succ, List.getElem_cons_zero]
   intro wj hj
   have BC := Lib.hid (BC.out.trans (hj.mono BC.out.size))
   go_wp2_with fail
   refine ⟨KeepY.below (below_alloc _ _), ?_⟩
   have hA := below_alloc wj (.cells #[.bool false, .int .u32 0] 54)
   have Zb2 : Hid ((wj.alloc (.cells #[.bool false, .int .u32 0] 54)).heap[wj.heap.size]? = _) := heap_alloc_new wj _
   obtain ⟨b2, hb2⟩ : ∃ b, b = wj.heap.size := ⟨_, rfl⟩
   rw [← hb2] at Zb2 ⊢
   have lb2 : W1.heap.size ≤ b2 := by rw [hb2]; exact BC.out.size
   have hlt : b2 < (wj.alloc (.cells #[.bool false, .int .u32 0] 54)).heap.size := by rw [hb2]; simp
   have BC := Lib.hid (BC.out.trans (hA.mono BC.out.size))
   generalize wj.alloc (.cells #[.bool false, .int .u32 0] 54) = w5 at *
   clear hA hj hb2
   refine Y_loud1 8 _ rfl (by kernel_rfl) ?_
   simp only [List.getElem_toArray, List.getElem_cons_succ, List.getElem_cons_zero]
   intro wj hj
   have BC := Lib.hid (BC.out.trans (hj.mono BC.out.size))
   have Zb2 := Lib.hid ((hj.block _ hlt).trans Zb2.out)
   have hlt1 : b2 < wj.heap.size := Nat.lt_of_lt_of_le hlt hj.size
   go_wp2_with fail
   refine ⟨KeepY.below (below_alloc _ _), ?_⟩
   have hA := below_alloc wj (.cells #[.bool false, .int .u32 0] 54)
   have Zb1 : Hid ((wj.alloc (.cells #[.bool false, .int .u32 0] 54)).heap[wj.heap.size]? = _) := heap_alloc_new wj _
   obtain ⟨b1, hb1⟩ : ∃ b, b = wj.heap.size := ⟨_, rfl⟩
   rw [← hb1] at Zb1 ⊢
   have lb1 : W1.heap.size ≤ b1 := by rw [hb1]; exact BC.out.size
   have hlt : b1 < (wj.alloc (.cells #[.bool false, .int .u32 0] 54)).heap.size := by rw [hb1]; simp
   have BC := Lib.hid (BC.out.trans (hA.mono BC.out.size))
   have Zb2 := Lib.hid ((hA.block _ hlt1).trans Zb2.out)
   have hne : b1 ≠ b2 := by omega
   generalize wj.alloc (.cells #[.bool false, .int .u32 0] 54) = w6 at *
   clear hA hj hb1 hlt hlt1
   refine Y_loud1 10 _ rfl (by kernel_rfl) ?_
   simp only [List.getElem_toArray, List.getElem_cons_succ, List.getElem_cons_zero]
   intro wj hj
   have Zb1 := Lib.hid ((hj.block _ (Array.getElem?_eq_some_iff.1 Zb1.out).1).trans Zb1.out)
   have Zb2 := Lib.hid ((hj.block _ (Array.getElem?_eq_some_iff.1 Zb2.out).1).trans Zb2.out)
   have BC := Lib.hid (BC.out.trans (hj.mono BC.out.size))
   obtain ⟨z0, z1, zl⟩ := cl2 Zb1.out
   have q0 := frozen_of_heap Zb1.out 0
   have q1 := frozen_of_heap Zb1.out 1
   go_wp2_with fail
   refine ⟨keepY_set2 (KeepY.refl _ wj) (by omega) (.bool S1) (.int .u32 X1), ?_⟩
   have BS := below_set2c BC.out (b := b1) lb1 (.bool S1) (.int .u32 X1)
   have Zb1 := Lib.hid (set2_heap Zb1.out (.bool S1) (.int .u32 X1))
   have Zb2 := Lib.hid (set2_other Zb2.out (Ne.symm hne) (.bool S1) (.int .u32 X1))
   have BC := Lib.hid BS
   generalize (wj.setCell ⟨b1, 0, none⟩ (.bool S1)).setCell ⟨b1, 1, none⟩ (.int .u32 X1) = w7 at *
   clear BS hj z0 z1 zl q0 q1
   refine Y_loud1 11 _ rfl (by kernel_rfl) ?_
   simp only [List.getElem_toArray, List.getElem_cons_succ, List.getElem_cons_zero]
   intro wj hj
   have Zb1 := Lib.hid ((hj.block _ (Array.getElem?_eq_some_iff.1 Zb1.out).1).trans Zb1.out)
   have Zb2 := Lib.hid ((hj.block _ (Array.getElem?_eq_some_iff.1 Zb2.out).1).trans Zb2.out)
   have BC := Lib.hid (BC.out.trans (hj.mono BC.out.size))
   obtain ⟨z0, z1, zl⟩ := cl2 Zb2.out
   have q0 := frozen_of_heap Zb2.out 0
   have q1 := frozen_of_heap Zb2.out 1
   go_wp2_with fail
   refine ⟨keepY_set2 (KeepY.refl _ wj) (by omega) (.bool S2) (.int .u32 X2), ?_⟩
   have BS := below_set2c BC.out (b := b2) lb2 (.bool S2) (.int .u32 X2)
   have Zb2 := Lib.hid (set2_heap Zb2.out (.bool S2) (.int .u32 X2))
   have Zb1 := Lib.hid (set2_other Zb1.out hne (.bool S2) (.int .u32 X2))
   have BC := Lib.hid BS
   generalize (wj.setCell ⟨b2, 0, none⟩ (.bool S2)).setCell ⟨b2, 1, none⟩ (.int .u32 X2) = w8 at *
   clear BS hj z0 z1 zl q0 q1
   refine Y_done (by kernel_rfl) (fun wj hj => ?_) _
   have Zb1 := Lib.hid ((hj.block _ (Array.getElem?_eq_some_iff.1 Zb1.out).1).trans Zb1.out)
   have Zb2 := Lib.hid ((hj.block _ (Array.getElem?_eq_some_iff.1 Zb2.out).1).trans Zb2.out)
   have BC := Lib.hid (BC.out.trans (hj.mono BC.out.size))
   go_wp2_with fail
   go_meet
   case rel => exact ⟨b1, b2, rfl, rfl, by rw [HS1.out, HX1.out]; exact Zb1, by rw [HS2.out, HX2.out]; exact Zb2, BC, lb1, lb2⟩
 case rest =>
  obtain ⟨b1, b2, rfl, rfl, Z1, Z2, BC, lb1, lb2⟩ := hcut
  have nb1 : b1 ≠ w.heap.size + 1 := by omega
  have nb2 : b2 ≠ w.heap.size + 1 := by omega
  have hXb1 : 0 ≤ X1 ∧ X1 < 4294967296 := by
   rw [← HX1.out]
   cases hoa : oa with
   | none => exact ⟨by decide, by decide⟩
   | some x => exact HOA.out x hoa
  have hXb2 : 0 ≤ X2 ∧ X2 < 4294967296 := by
   rw [← HX2.out]
   cases hob : ob with
   | none => exact ⟨by decide, by decide⟩
   | some x => exact HOB.out x hob
  rw [HS1.out, HX1.out] at Z1
  rw [HS2.out, HX2.out] at Z2
  have H0 := Lib.hid ((BC.out.block _ l0).trans H0.out)
  have H1 := Lib.hid ((BC.out.block _ lr).trans H1.out)
  have BB := Lib.hid (BB.out.trans (BC.out.mono BB.out.size))
  clear x0 x1 x2 x3 x4 x5 x6 x7 x8 x9 x10 l0 r0 r1 lr BC HA1 HA2
  obtain ⟨x0, x1, x2, x3, x4, x5, x6, x7, x8, x9, x10, l0⟩ := cl11 H0.out
  obtain ⟨r0, r1, lr⟩ := cl2 H1.out
  have rf0 := frozen_of_heap H1.out 0
  have rf1 := frozen_of_heap H1.out 1
  obtain ⟨z0, z1, lz1⟩ := cl2 Z1.out
  obtain ⟨u0, u1, lz2⟩ := cl2 Z2.out
  by_cases e1 : op = 1
  ·have HV : Hid (NN = some num) := by show _ = _; rw [HNU.out, if_pos e1]
   subst e1
   obtain ⟨W9, hW9⟩ : ∃ W9, W9 = (wc.setCell ⟨w.heap.size + 1, 0, none⟩ (.bool true)).setCell ⟨w.heap.size + 1, 1, none⟩ (.int .u32 num) := ⟨_, rfl⟩
   have hR := set2_heap H1.out (.bool true) (.int .u32 num)
   have B9 : Hid (Below w.heap.size w W9) := by
    show Below _ _ _
    rw [hW9]; exact below_set2c BB.out (by omega) _ _
   rw [← hW9] at hR
   have y0 := cell_of_heap hR 0
   have y1 := cell_of_heap hR 1
   simp only [List.getElem?_toArray, List.getElem?_cons_zero, List.getElem?_cons_succ] at y0 y1
   have HW9 := Lib.hid hW9
   clear hR hW9
   go_wp2_with fail
   rw [← HW9.out]
   refine bodyPost_ret (v := .agg #[.bool true, .int .u32 num]) (by simp [results, Tryd.results33, go_sem, y0, y1]) rfl ?_
   have hpf : NN.isSome = true ∧ ∀ y, NN = some y → num = y := ⟨by rw [HV.out]; rfl, fun y hy => by rw [HV.out] at hy; cases hy; rfl⟩
   exact HPost.out _ _ _ hpf.1 hpf.2 B9.out
  by_cases e2 : op = 2
  ·have HV : Hid (NN = oa) := by show _ = _; rw [HNU.out, if_neg e1, if_pos e2]
   have g1 : (op == 1) = false := beq_eq_false_iff_ne.2 e1
   have g2 : (op == 2) = true := beq_iff_eq.2 e2
   clear e1 e2
   obtain ⟨W9, hW9⟩ : ∃ W9, W9 = (wc.setCell ⟨w.heap.size + 1, 0, none⟩ (.bool S1)).setCell ⟨w.heap.size + 1, 1, none⟩ (.int .u32 X1) := ⟨_, rfl⟩
   have hR := set2_heap H1.out (.bool S1) (.int .u32 X1)
   have B9 : Hid (Below w.heap.size w W9) := by
    show Below _ _ _
    rw [hW9]; exact below_set2c BB.out (by omega) _ _
   rw [← hW9] at hR
   have y0 := cell_of_heap hR 0
   have y1 := cell_of_heap hR 1
   simp only [List.getElem?_toArray, List.getElem?_cons_zero, List.getElem?_cons_succ] at y0 y1
   have HW9 := Lib.hid hW9
   clear hR hW9
   go_wp2_with fail
   rw [← HW9.out]
   refine bodyPost_ret (v := .agg #[.bool S1, .int .u32 X1]) (by simp [results, Tryd.results33, go_sem, y0, y1]) rfl ?_
   have hpf : NN.isSome = S1 ∧ ∀ y, NN = some y → X1 = y := ⟨by rw [HV.out]; exact HS1.out, fun y hy => by rw [HV.out] at hy; rw [← HX1.out, hy]; rfl⟩
   exact HPost.out _ _ _ hpf.1 hpf.2 B9.out
  by_cases e4 : op = 4
  ·have HV : Hid (NN = oa.map fun x => fnF fn x 0) := by show _ = _; rw [HNU.out, if_neg e1, if_neg e2, if_pos e4]
   have PF : NN.isSome = S1 ∧ ∀ y, NN = some y → fnF fn X1 0 = y := by
    rw [HV.out, ← HS1.out, ← HX1.out]
    cases oa with
    | none => exact ⟨rfl, fun y hy => by cases hy⟩
    | some x => exact ⟨rfl, fun y hy => by simpa using hy⟩
   subst e4
   go_wp2_with fail
   refine wp_region_yard (fun z => z = w.heap.size ∨ z = b1 ∨ z = b2) (by kernel_rfl) ?_
   refine Y_mobs [0, 1, 2, 3, 4, 5] _ _ _ _ (by kernel_rfl) ?_
   simp only [List.map_cons, List.map_nil, List.getElem?_toArray, List.getElem?_cons_succ, List.getElem?_cons_zero, Option.getD_some, List.size_toArray, List.length_cons, List.length_nil, Nat.reduceAdd, Nat.reduceSub]
   repeat (go_big_quiet_step (fail))
   refine wpQuiet_nil ?_
   refine Y_loud1 6 _ rfl (by kernel_rfl) ?_
   simp only [List.getElem_toArray, List.getElem_cons_succ, List.getElem_cons_zero]
   intro wj hj
   go_wp2_with fail
   refine (fn_c fn X1 0 wj hXb1.1 hXb1.2 (by decide) (by decide)).mono ?_
   rintro e wz ⟨rfl, rfl⟩
   go_wp2_with fail
   refine ⟨KeepY.refl _ _, ?_⟩
   have H1 := Lib.hid ((hj.block _ lr).trans H1.out)
   have BB := Lib.hid (BB.out.trans (hj.mono BB.out.size))
   clear x0 x1 x2 x3 x4 x5 x6 x7 x8 x9 x10 l0 r0 r1 lr rf0 rf1 z0 z1 lz1 u0 u1 lz2 hj H0 Z1 Z2
   obtain ⟨r0, r1, lr⟩ := cl2 H1.out
   refine Y_mobs [7] _ _ _ _ (by kernel_rfl) ?_
   simp only [List.map_cons, List.map_nil, List.getElem?_toArray, List.getElem?_cons_succ, List.getElem?_cons_zero, Option.getD_some, List.size_toArray, List.length_cons, List.length_nil, Nat.reduceAdd, Nat.reduceSub]
   repeat (go_big_quiet_step (fail))
   refine wpQuiet_nil ?_
   refine Y_loud1 8 _ rfl (by kernel_rfl) ?_
   simp only [List.getElem_toArray, List.getElem_cons_succ, List.getElem_cons_zero]
   intro wj hj
   have H1 := Lib.hid ((hj.block _ lr).trans H1.out)
   have BB := Lib.hid (BB.out.trans (hj.mono BB.out.size))
   clear r0 r1 lr hj
   obtain ⟨r0, r1, lr⟩ := cl2 H1.out
   have rf0 := frozen_of_heap H1.out 0
   have rf1 := frozen_of_heap H1.out 1
   go_wp2_with fail
   refine ⟨((KeepY.refl _ _).set (p := ⟨w.heap.size + 1, 0, none⟩) (.bool S1) (by dsimp only; omega)).set (p := ⟨w.heap.size + 1, 1, none⟩) (.int .u32 (fnF fn X1 0)) (by dsimp only; omega), ?_⟩
   have H1 := Lib.hid (set2_heap H1.out (.bool S1) (.int .u32 (fnF fn X1 0)))
   have BB := Lib.hid (below_set2c BB.out (b := w.heap.size + 1) (by omega) (.bool S1) (.int .u32 (fnF fn X1 0)))
   generalize (wj.setCell ⟨w.heap.size + 1, 0, none⟩ (.bool S1)).setCell ⟨w.heap.size + 1, 1, none⟩ (.int .u32 (fnF fn X1 0)) = W8 at *
   clear r0 r1 lr rf0 rf1
   refine Y_done (by kernel_rfl) (fun wj hj => ?_) _
   have lr := (Array.getElem?_eq_some_iff.1 H1.out).1
   have H1 := Lib.hid ((hj.block _ lr).trans H1.out)
   have BB := Lib.hid (BB.out.trans (hj.mono BB.out.size))
   clear hj lr
   have y0 := cell_of_heap H1.out 0
   have y1 := cell_of_heap H1.out 1
   simp only [List.getElem?_toArray, List.getElem?_cons_zero, List.getElem?_cons_succ] at y0 y1
   go_wp2_with fail
   refine bodyPost_ret (v := .agg #[.bool S1, .int .u32 (fnF fn X1 0)]) (by simp [results, Tryd.results33, go_sem, y0, y1]) rfl ?_
   have hpf : NN.isSome = S1 ∧ ∀ y, NN = some y → fnF fn X1 0 = y := PF
   exact HPost.out _ _ _ hpf.1 hpf.2 BB.out
  by_cases e3 : op = 3
  ·have HV : Hid (NN = oa.bind fun x => ob.map fun y => fnF fn x y) := by show _ = _; rw [HNU.out, if_neg e1, if_neg e2, if_neg e4, if_pos e3]
   have PF' : NN.isSome = (S1 && S2) ∧ ∀ y, NN = some y → fnF fn X1 X2 = y := by
    rw [HV.out, ← HS1.out, ← HX1.out, ← HS2.out, ← HX2.out]
    cases oa with
    | none => exact ⟨rfl, fun y hy => by cases hy⟩
    | some x =>
     cases ob with
     | none => exact ⟨rfl, fun y hy => by cases hy⟩
     | some z => exact ⟨rfl, fun y hy => by simpa using hy⟩
   subst e3
   go_wp2_with fail
   refine wp_region_yard (fun z => z = w.heap.size ∨ z = b1 ∨ z = b2) (by kernel_rfl) ?_
   cases S1
   ·have PF := PF'
    rw [Bool.false_and] at PF
    refine Y_mobs [0, 1, 2, 3, 4, 5, 6, 7, 8, 9, 10, 11] _ _ _ _ (by kernel_rfl) ?_
    simp only [List.map_cons, List.map_nil, List.getElem?_toArray, List.getElem?_cons_succ, List.getElem?_cons_zero, Option.getD_some, List.size_toArray, List.length_cons, List.length_nil, Nat.reduceAdd, Nat.reduceSub]
    repeat (go_big_quiet_step (fail))
    refine wpQuiet_nil ?_
    refine Y_loud1 12 _ rfl (by kernel_rfl) ?_
    simp only [List.getElem_toArray, List.getElem_cons_succ, List.getElem_cons_zero]
    intro wj hj
    go_wp2_with fail
    refine (fn_c fn X1 X2 wj hXb1.1 hXb1.2 hXb2.1 hXb2.2).mono ?_
    rintro e wz ⟨rfl, rfl⟩
    go_wp2_with fail
    refine ⟨KeepY.refl _ _, ?_⟩
    have H1 := Lib.hid ((hj.block _ lr).trans H1.out)
    have BB := Lib.hid (BB.out.trans (hj.mono BB.out.size))
    clear x0 x1 x2 x3 x4 x5 x6 x7 x8 x9 x10 l0 r0 r1 lr rf0 rf1 z0 z1 lz1 u0 u1 lz2 hj H0 Z1 Z2
    obtain ⟨r0, r1, lr⟩ := cl2 H1.out
    refine Y_mobs [13] _ _ _ _ (by kernel_rfl) ?_
    simp only [List.map_cons, List.map_nil, List.getElem?_toArray, List.getElem?_cons_succ, List.getElem?_cons_zero, Option.getD_some, List.size_toArray, List.length_cons, List.length_nil, Nat.reduceAdd, Nat.reduceSub]
    repeat (go_big_quiet_step (fail))
    refine wpQuiet_nil ?_
    refine Y_loud1 14 _ rfl (by kernel_rfl) ?_
    simp only [List.getElem_toArray, List.getElem_cons_succ, List.getElem_cons_zero]
    intro wj hj
    have H1 := Lib.hid ((hj.block _ lr).trans H1.out)
    have BB := Lib.hid (BB.out.trans (hj.mono BB.out.size))
    clear r0 r1 lr hj
    obtain ⟨r0, r1, lr⟩ := cl2 H1.out
    have rf0 := frozen_of_heap H1.out 0
    have rf1 := frozen_of_heap H1.out 1
    go_wp2_with fail
    refine ⟨((KeepY.refl _ _).set (p := ⟨w.heap.size + 1, 0, none⟩) (.bool false) (by dsimp only; omega)).set (p := ⟨w.heap.size + 1, 1, none⟩) (.int .u32 (fnF fn X1 X2)) (by dsimp only; omega), ?_⟩
    have H1 := Lib.hid (set2_heap H1.out (.bool false) (.int .u32 (fnF fn X1 X2)))
    have BB := Lib.hid (below_set2c BB.out (b := w.heap.size + 1) (by omega) (.bool false) (.int .u32 (fnF fn X1 X2)))
    generalize (wj.setCell ⟨w.heap.size + 1, 0, none⟩ (.bool false)).setCell ⟨w.heap.size + 1, 1, none⟩ (.int .u32 (fnF fn X1 X2)) = W8 at *
    clear r0 r1 lr rf0 rf1
    refine Y_done (by kernel_rfl) (fun wj hj => ?_) _
    have lr := (Array.getElem?_eq_some_iff.1 H1.out).1
    have H1 := Lib.hid ((hj.block _ lr).trans H1.out)
    have BB := Lib.hid (BB.out.trans (hj.mono BB.out.size))
    clear hj lr
    have y0 := cell_of_heap H1.out 0
    have y1 := cell_of_heap H1.out 1
    simp only [List.getElem?_toArray, List.getElem?_cons_zero, List.getElem?_cons_succ] at y0 y1
    go_wp2_with fail
    refine bodyPost_ret (v := .agg #[.bool false, .int .u32 (fnF fn X1 X2)]) (by simp [results, Tryd.results33, go_sem, y0, y1]) rfl ?_
    have hpf : NN.isSome = false ∧ ∀ y, NN = some y → fnF fn X1 X2 = y := PF
    exact HPost.out _ _ _ hpf.1 hpf.2 BB.out
   ·have PF := PF'
    rw [Bool.true_and] at PF
    refine Y_mobs [0, 1, 2, 3, 4, 5, 6, 7, 8, 9, 10, 11] _ _ _ _ (by kernel_rfl) ?_
    simp only [List.map_cons, List.map_nil, List.getElem?_toArray, List.getElem?_cons_succ, List.getElem?_cons_zero, Option.getD_some, List.size_toArray, List.length_cons, List.length_nil, Nat.reduceAdd, Nat.reduceSub]
    repeat (go_big_quiet_step (fail))
    refine wpQuiet_nil ?_
    refine Y_loud1 12 _ rfl (by kernel_rfl) ?_
    simp only [List.getElem_toArray, List.getElem_cons_succ, List.getElem_cons_zero]
    intro wj hj
    go_wp2_with fail
    refine (fn_c fn X1 X2 wj hXb1.1 hXb1.2 hXb2.1 hXb2.2).mono ?_
    rintro e wz ⟨rfl, rfl⟩
    go_wp2_with fail
    refine ⟨KeepY.refl _ _, ?_⟩
    have H1 := Lib.hid ((hj.block _ lr).trans H1.out)
    have BB := Lib.hid (BB.out.trans (hj.mono BB.out.size))
    clear x0 x1 x2 x3 x4 x5 x6 x7 x8 x9 x10 l0 r0 r1 lr rf0 rf1 z0 z1 lz1 u0 u1 lz2 hj H0 Z1 Z2
    obtain ⟨r0, r1, lr⟩ := cl2 H1.out
    refine Y_mobs [13] _ _ _ _ (by kernel_rfl) ?_
    simp only [List.map_cons, List.map_nil, List.getElem?_toArray, List.getElem?_cons_succ, List.getElem?_cons_zero, Option.getD_some, List.size_toArray, List.length_cons, List.length_nil, Nat.reduceAdd, Nat.reduceSub]
    repeat (go_big_quiet_step (fail))
    refine wpQuiet_nil ?_
    refine Y_loud1 14 _ rfl (by kernel_rfl) ?_
    simp only [List.getElem_toArray, List.getElem_cons_succ, List.getElem_cons_zero]
    intro wj hj
    have H1 := Lib.hid ((hj.block _ lr).trans H1.out)
    have BB := Lib.hid (BB.out.trans (hj.mono BB.out.size))
    clear r0 r1 lr hj
    obtain ⟨r0, r1, lr⟩ := cl2 H1.out
    have rf0 := frozen_of_heap H1.out 0
    have rf1 := frozen_of_heap H1.out 1
    go_wp2_with fail
    refine ⟨((KeepY.refl _ _).set (p := ⟨w.heap.size + 1, 0, none⟩) (.bool S2) (by dsimp only; omega)).set (p := ⟨w.heap.size + 1, 1, none⟩) (.int .u32 (fnF fn X1 X2)) (by dsimp only; omega), ?_⟩
    have H1 := Lib.hid (set2_heap H1.out (.bool S2) (.int .u32 (fnF fn X1 X2)))
    have BB := Lib.hid (below_set2c BB.out (b := w.heap.size + 1) (by omega) (.bool S2) (.int .u32 (fnF fn X1 X2)))
    generalize (wj.setCell ⟨w.heap.size + 1, 0, none⟩ (.bool S2)).setCell ⟨w.heap.size + 1, 1, none⟩ (.int .u32 (fnF fn X1 X2)) = W8 at *
    clear r0 r1 lr rf0 rf1
    refine Y_done (by kernel_rfl) (fun wj hj => ?_) _
    have lr := (Array.getElem?_eq_some_iff.1 H1.out).1
    have H1 := Lib.hid ((hj.block _ lr).trans H1.out)
    have BB := Lib.hid (BB.out.trans (hj.mono BB.out.size))
    clear hj lr
    have y0 := cell_of_heap H1.out 0
    have y1 := cell_of_heap H1.out 1
    simp only [List.getElem?_toArray, List.getElem?_cons_zero, List.getElem?_cons_succ] at y0 y1
    go_wp2_with fail
    refine bodyPost_ret (v := .agg #[.bool S2, .int .u32 (fnF fn X1 X2)]) (by simp [results, Tryd.results33, go_sem, y0, y1]) rfl ?_
    have hpf : NN.isSome = S2 ∧ ∀ y, NN = some y → fnF fn X1 X2 = y := PF
    exact HPost.out _ _ _ hpf.1 hpf.2 BB.out
  have HV : Hid (NN = none) := by show _ = _; rw [HNU.out, if_neg e1, if_neg e2, if_neg e4, if_neg e3]
  have g1 : (op == 1) = false := beq_eq_false_iff_ne.2 e1
  have g2 : (op == 2) = false := beq_eq_false_iff_ne.2 e2
  have g3 : (op == 3) = false := beq_eq_false_iff_ne.2 e3
  have g4 : (op == 4) = false := beq_eq_false_iff_ne.2 e4
  clear e1 e2 e3 e4
  obtain ⟨W9, hW9⟩ : ∃ W9, W9 = (wc.setCell ⟨w.heap.size + 1, 0, none⟩ (.bool false)).setCell ⟨w.heap.size + 1, 1, none⟩ (.int .u32 0) := ⟨_, rfl⟩
  have hR := set2_heap H1.out (.bool false) (.int .u32 0)
  have B9 : Hid (Below w.heap.size w W9) := by
   show Below _ _ _
   rw [hW9]; exact below_set2c BB.out (by omega) _ _
  rw [← hW9] at hR
  have y0 := cell_of_heap hR 0
  have y1 := cell_of_heap hR 1
  simp only [List.getElem?_toArray, List.getElem?_cons_zero, List.getElem?_cons_succ] at y0 y1
  have HW9 := Lib.hid hW9
  clear hR hW9
  go_wp2_with fail
  rw [← HW9.out]
  refine bodyPost_ret (v := .agg #[.bool false, .int .u32 0]) (by simp [results, Tryd.results33, go_sem, y0, y1]) rfl ?_
  have hpf : NN.isSome = false ∧ ∀ y, NN = some y → 0 = y := ⟨by rw [HV.out]; rfl, fun y hy => by rw [HV.out] at hy; cases hy⟩
  exact HPost.out _ _ _ hpf.1 hpf.2 B9.out
end Go.Proofs.YtkhfddodmjnecaaDoor
