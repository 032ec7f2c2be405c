/-
  The statement on items, their constructors, and the contrary of a branch: its walk.
-/
import Derived.Test.YtedihiodmgnlpaaA23
import Derived.Test.YtedihiodmgnlpaaO2
import Derived.Test.YtedihiodmgnlpaaJ
import Derived.Laws.IdiomArrays
set_option linter.all false
namespace Go.Proofs.Ytedihiodmgnlpaa
open Go.ChangeShapes Go.WideShapes Go.ChangeAt Go.RowKit Go.Maps
set_option maxHeartbeats 4000000
set_option linter.unusedVariables false
set_option maxRecDepth 100000

theorem AsmItems_w (x : It) (v : Value) (n : Int) (q : Int × Int × Int × Int) (vq : Value) (w : World) (hx : ItOk x) (hv : v = x.v) (hn1 : 0 ≤ n) (hn2 : n < 4294967296) (hq : I64 q.1 ∧ I64 q.2.1 ∧ I64 q.2.2.1 ∧ I64 q.2.2.2) (hvq : vq = .agg #[.int .i64 q.1, .int .i64 q.2.1, .int .i64 q.2.2.1, .int .i64 q.2.2.2]) :
    Calls Try.prog 5 #[v, .int .u32 n, vq] w fun e w' => e = .returned (.bool true) ∧ Below w.heap.size w w' := by
  subst hv hvq
  obtain ⟨a, b, c, d⟩ := q
  dsimp only
  have HA := Lib.hid awake5_c
  have R1 := Lib.hid (fun w => aright_c x w)
  have R2 := Lib.hid (fun w => aritem_c x w)
  have RF : Hid (∀ v w, RdT w v [x] → Calls Try.prog 16 #[v] w fun e w' => ∃ u, e = .returned u ∧ RdT w' u [x] ∧ Below w.heap.size w w') := fun v w h => ref_c [x] v w h (by simp)
  have FX : Hid ([x].flatMap itVs = itVs x) := by show _ = _; simp
  have HH : Hid (∀ (w : World) t, RdT (w.alloc (.cells (itVs x).toArray t)) (.slice (some ⟨w.heap.size, 0, none⟩) 1 1) [x]) := fun w t => RdT.of_heap [x] (by rw [FX.out]; exact heap_new w _ _ rfl) (by simp [maxLen])
  obtain ⟨kind, ⟨op, rd, rs1, rs2, imm⟩, label⟩ := x
  have R1 : Hid (∀ w, Calls Try.prog 18 #[.agg #[.int .i64 kind, .int .i64 op, .int .i64 rd, .int .i64 rs1, .int .i64 rs2, .int .i64 imm, .int .i64 label]] w fun e w' => e = .returned (.bool (itemF ⟨kind, ⟨op, rd, rs1, rs2, imm⟩, label⟩)) ∧ Below w.heap.size w w') := R1
  have R2 : Hid (∀ w, Calls Try.prog 19 #[.agg #[.int .i64 kind, .int .i64 op, .int .i64 rd, .int .i64 rs1, .int .i64 rs2, .int .i64 imm, .int .i64 label]] w fun e w' => e = .returned (.bool (itemF ⟨kind, ⟨op, rd, rs1, rs2, imm⟩, label⟩)) ∧ Below w.heap.size w w') := R2
  generalize itemF ⟨kind, ⟨op, rd, rs1, rs2, imm⟩, label⟩ = f at R1 R2
  have I0 : Hid (∀ w, Calls Try.prog 17 #[.int .i64 a, .int .i64 b, .int .i64 c, .int .i64 d, .int .i64 imm] w fun r w' => r = .returned (.agg #[.int .i64 1, .int .i64 a, .int .i64 b, .int .i64 c, .int .i64 d, .int .i64 imm, .int .i64 0]) ∧ Below w.heap.size w w') := fun w => ainst_c a b c d imm w
  have I1 : Hid (∀ w, Calls Try.prog 22 #[.int .i64 a, .int .u32 n] w fun r w' => r = .returned (.agg #[.int .i64 5, .int .i64 0, .int .i64 a, .int .i64 0, .int .i64 0, .int .i64 n, .int .i64 0]) ∧ Below w.heap.size w w') := fun w => aconst_c a n w hn1 hn2
  have I2 : Hid (∀ w, Calls Try.prog 23 #[.int .i64 a] w fun r w' => r = .returned (.agg #[.int .i64 2, .int .i64 0, .int .i64 0, .int .i64 0, .int .i64 0, .int .i64 0, .int .i64 a]) ∧ Below w.heap.size w w') := fun w => alabel_c a w
  have I3 : Hid (∀ w, Calls Try.prog 24 #[.int .i64 a, .int .i64 b, .int .i64 c, .int .i64 d] w fun r w' => r = .returned (.agg #[.int .i64 3, .int .i64 a, .int .i64 0, .int .i64 b, .int .i64 c, .int .i64 0, .int .i64 d]) ∧ Below w.heap.size w w') := fun w => abranch_c a b c d w
  have I4 : Hid (∀ w, Calls Try.prog 25 #[.int .i64 a, .int .i64 b] w fun r w' => r = .returned (.agg #[.int .i64 4, .int .i64 3, .int .i64 a, .int .i64 0, .int .i64 0, .int .i64 0, .int .i64 b]) ∧ Below w.heap.size w w') := fun w => ajump_c a b w
  have C1 := Lib.hid (fun w => contr_c a w)
  have C2 := Lib.hid (fun w => rcontr_c a w)
  clear hx hq
  show Calls _ _ #[.agg #[.int .i64 kind, .int .i64 op, .int .i64 rd, .int .i64 rs1, .int .i64 rs2, .int .i64 imm, .int .i64 label], .int .u32 n, .agg #[.int .i64 a, .int .i64 b, .int .i64 c, .int .i64 d]] _ _
  go_enter Try.func5, Try.ntmps5
  go_wp2_with fail
  go_quiet (fail)
  obtain ⟨W0, hW0⟩ : ∃ W0, W0 = ((w.alloc (.cells #[.int .i64 kind, .int .i64 op, .int .i64 rd, .int .i64 rs1, .int .i64 rs2, .int .i64 imm, .int .i64 label] 41)).alloc (.cells #[.int .i64 a, .int .i64 b, .int .i64 c, .int .i64 d] 42)).drewN nq := ⟨_, rfl⟩
  have BW : Hid (Below w.heap.size w W0) := by rw [hW0]; exact below_drewN' (below_a2 _ _ _) _
  have hb : W0.heap[w.heap.size]? = some (.cells #[.int .i64 kind, .int .i64 op, .int .i64 rd, .int .i64 rs1, .int .i64 rs2, .int .i64 imm, .int .i64 label] 41 (0, 0)) := by
    rw [hW0]
    exact ((below_a1 _ _).block w.heap.size (by simp)).trans (heap_new w _ _ rfl)
  rw [← hW0]
  clear hW0
  have l0 : w.heap.size < W0.heap.size := (Array.getElem?_eq_some_iff.1 hb).1
  have y0 := cell_of_heap hb 0
  have y1 := cell_of_heap hb 1
  have y2 := cell_of_heap hb 2
  have y3 := cell_of_heap hb 3
  have y4 := cell_of_heap hb 4
  have y5 := cell_of_heap hb 5
  have y6 := cell_of_heap hb 6
  clear hb
  simp only [List.getElem?_toArray, List.getElem?_cons_zero, List.getElem?_cons_succ] at y0 y1 y2 y3 y4 y5 y6
  have x0 := Lib.hid y0
  have x1 := Lib.hid y1
  have x2 := Lib.hid y2
  have x3 := Lib.hid y3
  have x4 := Lib.hid y4
  have x5 := Lib.hid y5
  have x6 := Lib.hid y6
  clear y0 y1 y2 y3 y4 y6
  go_wp2_with fail
  refine (I0.out _).mono ?_
  rintro e w1 ⟨rfl, hb1⟩
  obtain ⟨W1, hW1⟩ : ∃ W1, W1 = w1.alloc (.cells #[.int .i64 1, .int .i64 a, .int .i64 b, .int .i64 c, .int .i64 d, .int .i64 imm, .int .i64 0] 41) := ⟨_, rfl⟩
  have BB : Hid (Below W0.heap.size W0 W1) := by rw [hW1]; exact hb1.trans ((below_a1 _ _).mono hb1.size)
  have hz1 := hb1.size
  have hh := heap_new w1 (.cells #[.int .i64 1, .int .i64 a, .int .i64 b, .int .i64 c, .int .i64 d, .int .i64 imm, .int .i64 0] 41) w1.heap.size rfl
  rw [← hW1] at hh
  have l1 : w1.heap.size < W1.heap.size := (Array.getElem?_eq_some_iff.1 hh).1
  have HH1 := Lib.hid hh
  clear hb1 hh y5
  go_wp2_with fail
  simp only [List.append_eq, List.cons_append, List.nil_append]
  refine wp_region_junk (fun _ => True) (by kernel_rfl) ?_
  rw [← hW1]
  clear hW1
  have B : Hid (Below W1.heap.size W1 W1) := Below.refl _ _
  have s0 := BB.out.size
  have y0 := (BB.out.cell (p := ⟨w.heap.size, 0, none⟩) l0).trans x0.out
  have y1 := (BB.out.cell (p := ⟨w.heap.size, 1, none⟩) l0).trans x1.out
  have y2 := (BB.out.cell (p := ⟨w.heap.size, 2, none⟩) l0).trans x2.out
  have y3 := (BB.out.cell (p := ⟨w.heap.size, 3, none⟩) l0).trans x3.out
  have y4 := (BB.out.cell (p := ⟨w.heap.size, 4, none⟩) l0).trans x4.out
  have y5 := (BB.out.cell (p := ⟨w.heap.size, 5, none⟩) l0).trans x5.out
  have y6 := (BB.out.cell (p := ⟨w.heap.size, 6, none⟩) l0).trans x6.out
  refine J_call 0 _ (.bool true) rfl (by kernel_rfl) rfl ?_ ?_
  all_goals simp only [List.getElem_toArray, List.getElem_cons_succ, List.getElem_cons_zero]
  · intro wk hk
    go_wp2_with fail
    refine (HA.out _).mono ?_
    rintro e wz ⟨rfl, hb⟩
    go_wp2_with fail
    exact ⟨rfl, hb⟩
  simp only [Act.put, List.setIfInBounds_toArray, List.set_cons_succ, List.set_cons_zero]
  refine J_mob 1 _ rfl (by kernel_rfl) ?_
  simp only [List.getElem_toArray, List.getElem_cons_succ, List.getElem_cons_zero]
  go_big_quiet_step (fail)
  refine wpQuiet_nil ?_
  refine J_mob 2 _ rfl (by kernel_rfl) ?_
  simp only [List.getElem_toArray, List.getElem_cons_succ, List.getElem_cons_zero]
  go_big_quiet_step (fail)
  refine wpQuiet_nil ?_
  refine J_call 3 _ (.bool f) rfl (by kernel_rfl) rfl ?_ ?_
  all_goals simp only [List.getElem_toArray, List.getElem_cons_succ, List.getElem_cons_zero]
  · intro wk hk
    go_wp2_with fail
    refine (R1.out _).mono ?_
    rintro e wz ⟨rfl, hb⟩
    go_wp2_with fail
    exact ⟨rfl, hb⟩
  simp only [Act.put, List.setIfInBounds_toArray, List.set_cons_succ, List.set_cons_zero]
  refine J_mob 4 _ rfl (by kernel_rfl) ?_
  simp only [List.getElem_toArray, List.getElem_cons_succ, List.getElem_cons_zero]
  go_big_quiet_step (fail)
  refine wpQuiet_nil ?_
  clear y0 y1 y2 y3 y4 y5 y6
  refine J_loud1 5 _ rfl (by kernel_rfl) ?_
  simp only [List.getElem_toArray, List.getElem_cons_succ, List.getElem_cons_zero]
  intro wj hj
  have B : Hid (Below W1.heap.size W1 wj) := hj
  have BB : Hid (Below W0.heap.size W0 wj) := BB.out.trans (hj.mono BB.out.size)
  clear hj
  go_wp2_with fail
  have HR : Hid (RdT (wj.alloc (.cells #[.int .i64 kind, .int .i64 op, .int .i64 rd, .int .i64 rs1, .int .i64 rs2, .int .i64 imm, .int .i64 label] 41)) (.slice (some ⟨wj.heap.size, 0, none⟩) 1 1) [(⟨kind, ⟨op, rd, rs1, rs2, imm⟩, label⟩ : It)]) := HH.out wj _
  have hb5 := below_a1 wj (.cells #[.int .i64 kind, .int .i64 op, .int .i64 rd, .int .i64 rs1, .int .i64 rs2, .int .i64 imm, .int .i64 label] 41)
  refine ⟨KeepX.below hb5, ?_⟩
  have B : Hid (Below W1.heap.size W1 _) := B.out.trans (hb5.mono B.out.size)
  have BB : Hid (Below W0.heap.size W0 _) := BB.out.trans (hb5.mono BB.out.size)
  clear hb5
  generalize wj.alloc (.cells #[.int .i64 kind, .int .i64 op, .int .i64 rd, .int .i64 rs1, .int .i64 rs2, .int .i64 imm, .int .i64 label] 41) = w6 at HR B BB ⊢
  refine J_loud1 6 _ rfl (by kernel_rfl) ?_
  simp only [List.getElem_toArray, List.getElem_cons_succ, List.getElem_cons_zero]
  intro wj hj
  have HR := Lib.hid (HR.out.ext (Ext.below hj))
  have B : Hid (Below W1.heap.size W1 wj) := B.out.trans (hj.mono B.out.size)
  have BB : Hid (Below W0.heap.size W0 wj) := BB.out.trans (hj.mono BB.out.size)
  clear hj
  go_wp2_with fail
  refine (RF.out _ _ HR.out).mono ?_
  rintro e wn ⟨u, rfl, hu, hb⟩
  have B : Hid (Below W1.heap.size W1 wn) := B.out.trans (hb.mono B.out.size)
  have BB : Hid (Below W0.heap.size W0 wn) := BB.out.trans (hb.mono BB.out.size)
  obtain ⟨au, cu, rfl, hu1, hu2, hu3⟩ := hu
  obtain ⟨bu, ou, rfl, hc⟩ := hu3 0 (by simp)
  unfold maxLen at hu2
  simp only [List.length_singleton] at hu1
  simp only [Nat.zero_mul, Nat.add_zero, List.getD_cons_zero] at hc
  have HB := Lib.hid hb
  have z0 := hc.kind
  have z1 := hc.op
  have z2 := hc.rd
  have z3 := hc.rs1
  have z4 := hc.rs2
  have z5 := hc.imm
  have z6 := hc.label
  simp only [Nat.add_zero] at z0
  clear hb hu3 hc
  go_wp2_with fail
  refine ⟨KeepX.below HB.out, ?_⟩
  refine J_mob 7 _ rfl (by kernel_rfl) ?_
  simp only [List.getElem_toArray, List.getElem_cons_succ, List.getElem_cons_zero]
  go_big_quiet_step (fail)
  refine wpQuiet_nil ?_
  refine J_mob 8 _ rfl (by kernel_rfl) ?_
  simp only [List.getElem_toArray, List.getElem_cons_succ, List.getElem_cons_zero]
  go_big_quiet_step (fail)
  refine wpQuiet_nil ?_
  clear z0 z1 z2 z3 z4 z5 z6
  refine J_call 9 _ (.bool f) rfl (by kernel_rfl) rfl ?_ ?_
  all_goals simp only [List.getElem_toArray, List.getElem_cons_succ, List.getElem_cons_zero]
  · intro wk hk
    go_wp2_with fail
    refine (R2.out _).mono ?_
    rintro e wz ⟨rfl, hb⟩
    go_wp2_with fail
    exact ⟨rfl, hb⟩
  simp only [Act.put, List.setIfInBounds_toArray, List.set_cons_succ, List.set_cons_zero]
  refine J_mob 10 _ rfl (by kernel_rfl) ?_
  simp only [List.getElem_toArray, List.getElem_cons_succ, List.getElem_cons_zero]
  go_big_quiet_step (fail)
  refine wpQuiet_nil ?_
  refine J_mob 11 _ rfl (by kernel_rfl) ?_
  simp only [List.getElem_toArray, List.getElem_cons_succ, List.getElem_cons_zero]
  go_big_quiet_step (fail)
  refine wpQuiet_nil ?_
  refine J_mob 12 _ rfl (by kernel_rfl) ?_
  simp only [List.getElem_toArray, List.getElem_cons_succ, List.getElem_cons_zero]
  go_big_quiet_step (fail)
  refine wpQuiet_nil ?_
  refine J_mob 13 _ rfl (by kernel_rfl) ?_
  simp only [List.getElem_toArray, List.getElem_cons_succ, List.getElem_cons_zero]
  go_big_quiet_step (fail)
  refine wpQuiet_nil ?_
  refine J_mob 15 _ rfl (by kernel_rfl) ?_
  simp only [List.getElem_toArray, List.getElem_cons_succ, List.getElem_cons_zero]
  go_big_quiet_step (fail)
  refine wpQuiet_nil ?_
  refine J_call 14 _ (.int .i64 (contrF a)) rfl (by kernel_rfl) rfl ?_ ?_
  all_goals simp only [List.getElem_toArray, List.getElem_cons_succ, List.getElem_cons_zero]
  · intro wk hk
    go_wp2_with fail
    refine (C1.out _).mono ?_
    rintro e wz ⟨rfl, rfl⟩
    go_wp2_with fail
    exact ⟨rfl, Below.refl _ _⟩
  simp only [Act.put, List.setIfInBounds_toArray, List.set_cons_succ, List.set_cons_zero]
  refine J_call 16 _ (.int .i64 (contrF a)) rfl (by kernel_rfl) rfl ?_ ?_
  all_goals simp only [List.getElem_toArray, List.getElem_cons_succ, List.getElem_cons_zero]
  · intro wk hk
    go_wp2_with fail
    refine (C2.out _).mono ?_
    rintro e wz ⟨rfl, rfl⟩
    go_wp2_with fail
    exact ⟨rfl, Below.refl _ _⟩
  simp only [Act.put, List.setIfInBounds_toArray, List.set_cons_succ, List.set_cons_zero]
  have s0 := BB.out.size
  have y0 := (BB.out.cell (p := ⟨w.heap.size, 0, none⟩) l0).trans x0.out
  have y1 := (BB.out.cell (p := ⟨w.heap.size, 1, none⟩) l0).trans x1.out
  have y2 := (BB.out.cell (p := ⟨w.heap.size, 2, none⟩) l0).trans x2.out
  have y3 := (BB.out.cell (p := ⟨w.heap.size, 3, none⟩) l0).trans x3.out
  have y4 := (BB.out.cell (p := ⟨w.heap.size, 4, none⟩) l0).trans x4.out
  have y5 := (BB.out.cell (p := ⟨w.heap.size, 5, none⟩) l0).trans x5.out
  have y6 := (BB.out.cell (p := ⟨w.heap.size, 6, none⟩) l0).trans x6.out
  have hh : wn.heap[w1.heap.size]? = _ := (B.out.block _ l1).trans HH1.out
  have t0 := cell_of_heap hh 0
  have t1 := cell_of_heap hh 1
  have t2 := cell_of_heap hh 2
  have t3 := cell_of_heap hh 3
  have t4 := cell_of_heap hh 4
  have t5 := cell_of_heap hh 5
  have t6 := cell_of_heap hh 6
  simp only [List.getElem?_toArray, List.getElem?_cons_zero, List.getElem?_cons_succ] at t0 t1 t2 t3 t4 t5 t6
  clear hh
  refine J_mob 17 _ rfl (by kernel_rfl) ?_
  simp only [List.getElem_toArray, List.getElem_cons_succ, List.getElem_cons_zero]
  go_big_quiet_step (fail)
  refine wpQuiet_nil ?_
  refine J_mob 18 _ rfl (by kernel_rfl) ?_
  simp only [List.getElem_toArray, List.getElem_cons_succ, List.getElem_cons_zero]
  go_big_quiet_step (fail)
  refine wpQuiet_nil ?_
  refine J_mob 19 _ rfl (by kernel_rfl) ?_
  simp only [List.getElem_toArray, List.getElem_cons_succ, List.getElem_cons_zero]
  go_big_quiet_step (fail)
  refine wpQuiet_nil ?_
  refine J_mob 20 _ rfl (by kernel_rfl) ?_
  simp only [List.getElem_toArray, List.getElem_cons_succ, List.getElem_cons_zero]
  go_big_quiet_step (fail)
  refine wpQuiet_nil ?_
  refine J_mob 21 _ rfl (by kernel_rfl) ?_
  simp only [List.getElem_toArray, List.getElem_cons_succ, List.getElem_cons_zero]
  go_big_quiet_step (fail)
  refine wpQuiet_nil ?_
  refine J_mob 22 _ rfl (by kernel_rfl) ?_
  simp only [List.getElem_toArray, List.getElem_cons_succ, List.getElem_cons_zero]
  go_big_quiet_step (fail)
  refine wpQuiet_nil ?_
  refine J_mob 23 _ rfl (by kernel_rfl) ?_
  simp only [List.getElem_toArray, List.getElem_cons_succ, List.getElem_cons_zero]
  go_big_quiet_step (fail)
  refine wpQuiet_nil ?_
  refine J_mob 24 _ rfl (by kernel_rfl) ?_
  simp only [List.getElem_toArray, List.getElem_cons_succ, List.getElem_cons_zero]
  go_big_quiet_step (fail)
  refine wpQuiet_nil ?_
  refine J_mob 25 _ rfl (by kernel_rfl) ?_
  simp only [List.getElem_toArray, List.getElem_cons_succ, List.getElem_cons_zero]
  go_big_quiet_step (fail)
  refine wpQuiet_nil ?_
  refine J_mob 26 _ rfl (by kernel_rfl) ?_
  simp only [List.getElem_toArray, List.getElem_cons_succ, List.getElem_cons_zero]
  go_big_quiet_step (fail)
  refine wpQuiet_nil ?_
  refine J_mob 27 _ rfl (by kernel_rfl) ?_
  simp only [List.getElem_toArray, List.getElem_cons_succ, List.getElem_cons_zero]
  go_big_quiet_step (fail)
  refine wpQuiet_nil ?_
  refine J_mob 28 _ rfl (by kernel_rfl) ?_
  simp only [List.getElem_toArray, List.getElem_cons_succ, List.getElem_cons_zero]
  go_big_quiet_step (fail)
  refine wpQuiet_nil ?_
  refine J_mob 29 _ rfl (by kernel_rfl) ?_
  simp only [List.getElem_toArray, List.getElem_cons_succ, List.getElem_cons_zero]
  go_big_quiet_step (fail)
  refine wpQuiet_nil ?_
  refine J_mob 30 _ rfl (by kernel_rfl) ?_
  simp only [List.getElem_toArray, List.getElem_cons_succ, List.getElem_cons_zero]
  go_big_quiet_step (fail)
  refine wpQuiet_nil ?_
  refine J_mob 31 _ rfl (by kernel_rfl) ?_
  simp only [List.getElem_toArray, List.getElem_cons_succ, List.getElem_cons_zero]
  go_big_quiet_step (fail)
  refine wpQuiet_nil ?_
  refine J_mob 32 _ rfl (by kernel_rfl) ?_
  simp only [List.getElem_toArray, List.getElem_cons_succ, List.getElem_cons_zero]
  go_big_quiet_step (fail)
  refine wpQuiet_nil ?_
  refine J_mob 33 _ rfl (by kernel_rfl) ?_
  simp only [List.getElem_toArray, List.getElem_cons_succ, List.getElem_cons_zero]
  go_big_quiet_step (fail)
  refine wpQuiet_nil ?_
  refine J_mob 34 _ rfl (by kernel_rfl) ?_
  simp only [List.getElem_toArray, List.getElem_cons_succ, List.getElem_cons_zero]
  go_big_quiet_step (fail)
  refine wpQuiet_nil ?_
  clear y0 y1 y2 y3 y4 y5 y6
  clear t0 t1 t2 t3 t4 t5 t6
  refine J_call 35 _ (.agg #[.int .i64 5, .int .i64 0, .int .i64 a, .int .i64 0, .int .i64 0, .int .i64 n, .int .i64 0]) rfl (by kernel_rfl) rfl ?_ ?_
  all_goals simp only [List.getElem_toArray, List.getElem_cons_succ, List.getElem_cons_zero]
  · intro wk hk
    go_wp2_with fail
    refine (I1.out _).mono ?_
    rintro e wz ⟨rfl, hb⟩
    go_wp2_with fail
    exact ⟨rfl, hb⟩
  simp only [Act.put, List.setIfInBounds_toArray, List.set_cons_succ, List.set_cons_zero]
  refine J_mob 36 _ rfl (by kernel_rfl) ?_
  simp only [List.getElem_toArray, List.getElem_cons_succ, List.getElem_cons_zero]
  go_big_quiet_step (fail)
  refine wpQuiet_nil ?_
  refine J_mob 37 _ rfl (by kernel_rfl) ?_
  simp only [List.getElem_toArray, List.getElem_cons_succ, List.getElem_cons_zero]
  go_big_quiet_step (fail)
  refine wpQuiet_nil ?_
  refine J_mob 38 _ rfl (by kernel_rfl) ?_
  simp only [List.getElem_toArray, List.getElem_cons_succ, List.getElem_cons_zero]
  go_big_quiet_step (fail)
  refine wpQuiet_nil ?_
  refine J_mob 39 _ rfl (by kernel_rfl) ?_
  simp only [List.getElem_toArray, List.getElem_cons_succ, List.getElem_cons_zero]
  go_big_quiet_step (fail)
  refine wpQuiet_nil ?_
  refine J_mob 40 _ rfl (by kernel_rfl) ?_
  simp only [List.getElem_toArray, List.getElem_cons_succ, List.getElem_cons_zero]
  go_big_quiet_step (fail)
  refine wpQuiet_nil ?_
  refine J_mob 41 _ rfl (by kernel_rfl) ?_
  simp only [List.getElem_toArray, List.getElem_cons_succ, List.getElem_cons_zero]
  go_big_quiet_step (fail)
  refine wpQuiet_nil ?_
  refine J_mob 42 _ rfl (by kernel_rfl) ?_
  simp only [List.getElem_toArray, List.getElem_cons_succ, List.getElem_cons_zero]
  go_big_quiet_step (fail)
  refine wpQuiet_nil ?_
  refine J_mob 43 _ rfl (by kernel_rfl) ?_
  simp only [List.getElem_toArray, List.getElem_cons_succ, List.getElem_cons_zero]
  go_big_quiet_step (fail)
  refine wpQuiet_nil ?_
  refine J_mob 44 _ rfl (by kernel_rfl) ?_
  simp only [List.getElem_toArray, List.getElem_cons_succ, List.getElem_cons_zero]
  go_big_quiet_step (fail)
  refine wpQuiet_nil ?_
  refine J_call 45 _ (.agg #[.int .i64 2, .int .i64 0, .int .i64 0, .int .i64 0, .int .i64 0, .int .i64 0, .int .i64 a]) rfl (by kernel_rfl) rfl ?_ ?_
  all_goals simp only [List.getElem_toArray, List.getElem_cons_succ, List.getElem_cons_zero]
  · intro wk hk
    go_wp2_with fail
    refine (I2.out _).mono ?_
    rintro e wz ⟨rfl, hb⟩
    go_wp2_with fail
    exact ⟨rfl, hb⟩
  simp only [Act.put, List.setIfInBounds_toArray, List.set_cons_succ, List.set_cons_zero]
  refine J_mob 46 _ rfl (by kernel_rfl) ?_
  simp only [List.getElem_toArray, List.getElem_cons_succ, List.getElem_cons_zero]
  go_big_quiet_step (fail)
  refine wpQuiet_nil ?_
  refine J_mob 47 _ rfl (by kernel_rfl) ?_
  simp only [List.getElem_toArray, List.getElem_cons_succ, List.getElem_cons_zero]
  go_big_quiet_step (fail)
  refine wpQuiet_nil ?_
  refine J_mob 48 _ rfl (by kernel_rfl) ?_
  simp only [List.getElem_toArray, List.getElem_cons_succ, List.getElem_cons_zero]
  go_big_quiet_step (fail)
  refine wpQuiet_nil ?_
  refine J_mob 49 _ rfl (by kernel_rfl) ?_
  simp only [List.getElem_toArray, List.getElem_cons_succ, List.getElem_cons_zero]
  go_big_quiet_step (fail)
  refine wpQuiet_nil ?_
  refine J_mob 50 _ rfl (by kernel_rfl) ?_
  simp only [List.getElem_toArray, List.getElem_cons_succ, List.getElem_cons_zero]
  go_big_quiet_step (fail)
  refine wpQuiet_nil ?_
  refine J_mob 51 _ rfl (by kernel_rfl) ?_
  simp only [List.getElem_toArray, List.getElem_cons_succ, List.getElem_cons_zero]
  go_big_quiet_step (fail)
  refine wpQuiet_nil ?_
  refine J_mob 52 _ rfl (by kernel_rfl) ?_
  simp only [List.getElem_toArray, List.getElem_cons_succ, List.getElem_cons_zero]
  go_big_quiet_step (fail)
  refine wpQuiet_nil ?_
  refine J_mob 53 _ rfl (by kernel_rfl) ?_
  simp only [List.getElem_toArray, List.getElem_cons_succ, List.getElem_cons_zero]
  go_big_quiet_step (fail)
  refine wpQuiet_nil ?_
  refine J_mob 54 _ rfl (by kernel_rfl) ?_
  simp only [List.getElem_toArray, List.getElem_cons_succ, List.getElem_cons_zero]
  go_big_quiet_step (fail)
  refine wpQuiet_nil ?_
  refine J_call 55 _ (.agg #[.int .i64 3, .int .i64 a, .int .i64 0, .int .i64 b, .int .i64 c, .int .i64 0, .int .i64 d]) rfl (by kernel_rfl) rfl ?_ ?_
  all_goals simp only [List.getElem_toArray, List.getElem_cons_succ, List.getElem_cons_zero]
  · intro wk hk
    go_wp2_with fail
    refine (I3.out _).mono ?_
    rintro e wz ⟨rfl, hb⟩
    go_wp2_with fail
    exact ⟨rfl, hb⟩
  simp only [Act.put, List.setIfInBounds_toArray, List.set_cons_succ, List.set_cons_zero]
  refine J_mob 56 _ rfl (by kernel_rfl) ?_
  simp only [List.getElem_toArray, List.getElem_cons_succ, List.getElem_cons_zero]
  go_big_quiet_step (fail)
  refine wpQuiet_nil ?_
  refine J_mob 57 _ rfl (by kernel_rfl) ?_
  simp only [List.getElem_toArray, List.getElem_cons_succ, List.getElem_cons_zero]
  go_big_quiet_step (fail)
  refine wpQuiet_nil ?_
  refine J_mob 58 _ rfl (by kernel_rfl) ?_
  simp only [List.getElem_toArray, List.getElem_cons_succ, List.getElem_cons_zero]
  go_big_quiet_step (fail)
  refine wpQuiet_nil ?_
  refine J_mob 59 _ rfl (by kernel_rfl) ?_
  simp only [List.getElem_toArray, List.getElem_cons_succ, List.getElem_cons_zero]
  go_big_quiet_step (fail)
  refine wpQuiet_nil ?_
  refine J_mob 60 _ rfl (by kernel_rfl) ?_
  simp only [List.getElem_toArray, List.getElem_cons_succ, List.getElem_cons_zero]
  go_big_quiet_step (fail)
  refine wpQuiet_nil ?_
  refine J_mob 61 _ rfl (by kernel_rfl) ?_
  simp only [List.getElem_toArray, List.getElem_cons_succ, List.getElem_cons_zero]
  go_big_quiet_step (fail)
  refine wpQuiet_nil ?_
  refine J_mob 62 _ rfl (by kernel_rfl) ?_
  simp only [List.getElem_toArray, List.getElem_cons_succ, List.getElem_cons_zero]
  go_big_quiet_step (fail)
  refine wpQuiet_nil ?_
  refine J_mob 63 _ rfl (by kernel_rfl) ?_
  simp only [List.getElem_toArray, List.getElem_cons_succ, List.getElem_cons_zero]
  go_big_quiet_step (fail)
  refine wpQuiet_nil ?_
  refine J_mob 64 _ rfl (by kernel_rfl) ?_
  simp only [List.getElem_toArray, List.getElem_cons_succ, List.getElem_cons_zero]
  go_big_quiet_step (fail)
  refine wpQuiet_nil ?_
  refine J_mob 65 _ rfl (by kernel_rfl) ?_
  simp only [List.getElem_toArray, List.getElem_cons_succ, List.getElem_cons_zero]
  go_big_quiet_step (fail)
  refine wpQuiet_nil ?_
  refine J_mob 66 _ rfl (by kernel_rfl) ?_
  simp only [List.getElem_toArray, List.getElem_cons_succ, List.getElem_cons_zero]
  go_big_quiet_step (fail)
  refine wpQuiet_nil ?_
  refine J_call 67 _ (.agg #[.int .i64 4, .int .i64 3, .int .i64 a, .int .i64 0, .int .i64 0, .int .i64 0, .int .i64 b]) rfl (by kernel_rfl) rfl ?_ ?_
  all_goals simp only [List.getElem_toArray, List.getElem_cons_succ, List.getElem_cons_zero]
  · intro wk hk
    go_wp2_with fail
    refine (I4.out _).mono ?_
    rintro e wz ⟨rfl, hb⟩
    go_wp2_with fail
    exact ⟨rfl, hb⟩
  simp only [Act.put, List.setIfInBounds_toArray, List.set_cons_succ, List.set_cons_zero]
  refine J_mob 68 _ rfl (by kernel_rfl) ?_
  simp only [List.getElem_toArray, List.getElem_cons_succ, List.getElem_cons_zero]
  go_big_quiet_step (fail)
  refine wpQuiet_nil ?_
  refine J_mob 69 _ rfl (by kernel_rfl) ?_
  simp only [List.getElem_toArray, List.getElem_cons_succ, List.getElem_cons_zero]
  go_big_quiet_step (fail)
  refine wpQuiet_nil ?_
  refine J_mob 70 _ rfl (by kernel_rfl) ?_
  simp only [List.getElem_toArray, List.getElem_cons_succ, List.getElem_cons_zero]
  go_big_quiet_step (fail)
  refine wpQuiet_nil ?_
  refine J_mob 71 _ rfl (by kernel_rfl) ?_
  simp only [List.getElem_toArray, List.getElem_cons_succ, List.getElem_cons_zero]
  go_big_quiet_step (fail)
  refine wpQuiet_nil ?_
  refine J_mob 72 _ rfl (by kernel_rfl) ?_
  simp only [List.getElem_toArray, List.getElem_cons_succ, List.getElem_cons_zero]
  go_big_quiet_step (fail)
  refine wpQuiet_nil ?_
  refine J_mob 73 _ rfl (by kernel_rfl) ?_
  simp only [List.getElem_toArray, List.getElem_cons_succ, List.getElem_cons_zero]
  go_big_quiet_step (fail)
  refine wpQuiet_nil ?_
  refine J_mob 74 _ rfl (by kernel_rfl) ?_
  simp only [List.getElem_toArray, List.getElem_cons_succ, List.getElem_cons_zero]
  go_big_quiet_step (fail)
  refine wpQuiet_nil ?_
  refine J_done (by kernel_rfl) (fun wj hj => ?_) _
  go_wp2_with fail
  go_ret
  exact ⟨rfl, BW.out.trans ((BB.out.trans (hj.mono BB.out.size)).mono BW.out.size)⟩
end Go.Proofs.Ytedihiodmgnlpaa
