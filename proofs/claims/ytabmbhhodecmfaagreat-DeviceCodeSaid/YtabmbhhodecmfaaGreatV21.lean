/-
  The document's machine does an instruction.
-/
import Derived.Test.YtabmbhhodecmfaaGreatV20
import Derived.Test.YtabmbhhodecmfaaGreatN2
set_option linter.all false
namespace Go.Proofs.YtabmbhhodecmfaaGreat
open Go.ChangeShapes Go.WideShapes Go.ChangeAt Go.RowKit
set_option maxHeartbeats 2000000
set_option linter.unusedVariables false
set_option maxRecDepth 20000

section
variable {k : WK} {w : World} {vr vl : Value} {m : Dv}
theorem wdo_1 (h : Wm k w vr vl m) (hm : Dok m) (rd imm : Int) (n1 n2 : Nat) (h1 : 0 ≤ rd ∧ rd < 32) (h2 : n1 < 32) (h3 : n2 < 32) (hi : -4294967296 ≤ imm ∧ imm < 4294967296) :
    Calls Tryz.prog 31 #[.pointer (some ⟨k.br, 0, none⟩), .agg #[.int .i64 1, .int .i64 rd, .int .i64 (n1 : Int), .int .i64 (n2 : Int), .int .i64 imm]] w fun e w' => ∃ vl', e = .returned (.bool true) ∧ Wm k w' vr vl' { setD m rd (wd imm) with pc := wd (m.pc + 4) } ∧ Chw k vr vl vr vl' w w' := by
  have H := Lib.hid h
  obtain ⟨g, gc, er, -, lg, -, hcap⟩ := h.rF
  obtain ⟨ca, -, -⟩ := h.cR er n1 h2
  obtain ⟨cb, -, -⟩ := h.cR er n2 h3
  have hab := hm.rb n1
  have hbb := hm.rb n2
  have cV : w.cell? ⟨k.br, 3, none⟩ = some vr := h.c 3 (by decide)
  rw [er] at cV
  have lb := h.brLt.2
  have hpb := hm.pb
  have HSET : Hid (∀ W vl' m' v, Wm k W vr vl' m' → Calls Tryz.prog 44 #[.pointer (some ⟨k.br, 0, none⟩), .int .i64 rd, .int .u32 v] W fun e w' => e = .returned (.tuple #[]) ∧ Wm k w' vr vl' (setD m' rd v) ∧ Chw k vr vl' vr vl' W w') := fun W vl' m' v hW => wset_c hW rd v h1
  clear h er
  generalize m.regs.getD n1 0 = a at *
  generalize m.regs.getD n2 0 = b at *
  have CW1 := Lib.hid (fun w => rwrap_c (a + imm) w (by omega) (by omega))
  have CW2 := Lib.hid (fun w => rwrap_c (m.pc + 4) w (by omega) (by omega))
  have hat := wd_bd (a + imm)
  have hnx := wd_bd (m.pc + 4)
  unfold U32 at hat hnx
  generalize hATg : wd (a + imm) = AT at *
  generalize hNXg : wd (m.pc + 4) = NX at *
  have HAT := Lib.hid hATg
  have HNX := Lib.hid hNXg
  clear hATg hNXg
  have CC : Hid (∀ w, Calls Tryz.prog 45 #[.int .i64 imm] w fun e w' => e = .returned (.int .u32 (wd imm)) ∧ w = w') := fun w => rcut_c imm w (by omega) (by omega)
  generalize wd imm = V at *
  go_enter Tryz.func31, Tryz.ntmps31
  go_wp2_with fail
  go_quiet (fail)
  obtain ⟨W1, hW1⟩ : ∃ W1, W1 = (w.alloc (.cells #[.int .i64 1, .int .i64 rd, .int .i64 (n1 : Int), .int .i64 (n2 : Int), .int .i64 imm] 68)).drewN nq := ⟨_, rfl⟩
  rw [← hW1]
  have B1 : Hid (Below w.heap.size w W1) := by rw [hW1]; exact (vbelow1 w _).trans ((below_drewN3 _ nq).mono (by simp))
  have hh : W1.heap[w.heap.size]? = some (.cells #[.int .i64 1, .int .i64 rd, .int .i64 (n1 : Int), .int .i64 (n2 : Int), .int .i64 imm] 68 (0, 0)) := by rw [hW1]; exact heap_alloc_new w _
  clear hW1 ca cb cV
  have lr : w.heap.size < W1.heap.size := (Array.getElem?_eq_some_iff.1 hh).1
  have M1 := Lib.hid (H.out.grow B1.out)
  have C1 : Hid (Chw k vr vl vr vl w W1) := Chw.of_below B1.out
  have i0 := cell_of_heap hh 0
  have i1 := cell_of_heap hh 1
  have i4 := cell_of_heap hh 4
  simp only [List.getElem?_toArray, List.getElem?_cons_zero, List.getElem?_cons_succ] at i0 i1 i4
  clear hh
  have cP : W1.cell? ⟨k.br, 4, none⟩ = some (.int .i64 m.pc) := M1.out.c 4 (by decide)
  have lb := M1.out.brLt.2
  go_wp2_with (first | (go_at_call 43; (with_reducible refine (CW1.out _).mono ?_); rintro e w1 ⟨rfl, rfl⟩) | (go_at_call 43; (with_reducible refine (CW2.out _).mono ?_); rintro e w1 ⟨rfl, rfl⟩))
  have i0 : W1.drew.cell? ⟨w.heap.size, 0, none⟩ = _ := i0
  have i1 : W1.drew.cell? ⟨w.heap.size, 1, none⟩ = _ := i1
  have i4 : W1.drew.cell? ⟨w.heap.size, 4, none⟩ = _ := i4
  have cP : W1.drew.cell? ⟨k.br, 4, none⟩ = _ := cP
  have lr : w.heap.size < W1.drew.heap.size := lr
  have lb : k.br < W1.drew.heap.size := lb
  refine wp_region_game (fun x => x = w.heap.size ∨ x = k.br) (by kernel_rfl) ?_
  show wpE _ _ _ _ _ _ _ W1.drew
  have M1 := Lib.hid (M1.out.grow (Below.drew (Below.refl W1.heap.size W1)))
  have C1 := Lib.hid (C1.out.trans (Chw.of_below (k := k) (vr := vr) (vl := vl) (Below.drew (Below.refl W1.heap.size W1))))
  generalize W1.drew = W1 at *
  refine E_mob2s [0, 1, 2, 3, 4] _ _ _ _ (by kernel_rfl) ?_
  simp only [List.map_cons, List.map_nil, List.getElem?_toArray, List.getElem?_cons_succ, List.getElem?_cons_zero, Option.getD_some, List.size_toArray, List.length_cons, List.length_nil, Nat.reduceAdd, Nat.reduceSub]
  repeat (go_big_quiet_step (fail))
  refine wpQuiet_nil ?_
  refine E_loud1 5 _ rfl (by kernel_rfl) ?_
  simp only [List.getElem_toArray, List.getElem_cons_succ, List.getElem_cons_zero]
  go_wp2_with fail
  refine (CC.out _).mono ?_
  rintro e w4 ⟨rfl, rfl⟩
  go_wp2_with fail
  refine ⟨Keep.refl _ _, ?_⟩
  refine E_last 6 _ rfl (by kernel_rfl) ?_
  simp only [List.getElem_toArray, List.getElem_cons_succ, List.getElem_cons_zero]
  go_wp2_with fail
  refine (HSET.out _ vl m (V) M1.out).mono ?_
  rintro e w5 ⟨rfl, M5, C5⟩
  have M5 := Lib.hid M5
  have C5 := Lib.hid (C1.out.trans C5)
  go_wp2_with fail
  refine E_done (by kernel_rfl) ?_ _
  have cP : w5.cell? ⟨k.br, 4, none⟩ = some (.int .i64 _) := M5.out.c 4 (by decide)
  have fP := M5.out.fz 4
  have lb := M5.out.brLt.2
  go_wp2_with fail
  go_ret
  obtain ⟨u1, u2⟩ := M5.out.setPc (NX)
  exact ⟨vl, rfl, u1, C5.out.trans u2⟩
theorem wdo_2 (h : Wm k w vr vl m) (hm : Dok m) (rd imm : Int) (n1 n2 : Nat) (h1 : 0 ≤ rd ∧ rd < 32) (h2 : n1 < 32) (h3 : n2 < 32) (hi : -4294967296 ≤ imm ∧ imm < 4294967296) :
    Calls Tryz.prog 31 #[.pointer (some ⟨k.br, 0, none⟩), .agg #[.int .i64 2, .int .i64 rd, .int .i64 (n1 : Int), .int .i64 (n2 : Int), .int .i64 imm]] w fun e w' => ∃ vl', e = .returned (.bool true) ∧ Wm k w' vr vl' { setD m rd (wd (m.pc + imm)) with pc := wd (m.pc + 4) } ∧ Chw k vr vl vr vl' w w' := by
  have H := Lib.hid h
  obtain ⟨g, gc, er, -, lg, -, hcap⟩ := h.rF
  obtain ⟨ca, -, -⟩ := h.cR er n1 h2
  obtain ⟨cb, -, -⟩ := h.cR er n2 h3
  have hab := hm.rb n1
  have hbb := hm.rb n2
  have cV : w.cell? ⟨k.br, 3, none⟩ = some vr := h.c 3 (by decide)
  rw [er] at cV
  have lb := h.brLt.2
  have hpb := hm.pb
  have HSET : Hid (∀ W vl' m' v, Wm k W vr vl' m' → Calls Tryz.prog 44 #[.pointer (some ⟨k.br, 0, none⟩), .int .i64 rd, .int .u32 v] W fun e w' => e = .returned (.tuple #[]) ∧ Wm k w' vr vl' (setD m' rd v) ∧ Chw k vr vl' vr vl' W w') := fun W vl' m' v hW => wset_c hW rd v h1
  clear h er
  generalize m.regs.getD n1 0 = a at *
  generalize m.regs.getD n2 0 = b at *
  have CW1 := Lib.hid (fun w => rwrap_c (a + imm) w (by omega) (by omega))
  have CW2 := Lib.hid (fun w => rwrap_c (m.pc + 4) w (by omega) (by omega))
  have hat := wd_bd (a + imm)
  have hnx := wd_bd (m.pc + 4)
  unfold U32 at hat hnx
  generalize hATg : wd (a + imm) = AT at *
  generalize hNXg : wd (m.pc + 4) = NX at *
  have HAT := Lib.hid hATg
  have HNX := Lib.hid hNXg
  clear hATg hNXg
  have CC : Hid (∀ w, Calls Tryz.prog 45 #[.int .i64 (m.pc + imm)] w fun e w' => e = .returned (.int .u32 (wd (m.pc + imm))) ∧ w = w') := fun w => rcut_c (m.pc + imm) w (by omega) (by omega)
  generalize wd (m.pc + imm) = V at *
  go_enter Tryz.func31, Tryz.ntmps31
  go_wp2_with fail
  go_quiet (fail)
  obtain ⟨W1, hW1⟩ : ∃ W1, W1 = (w.alloc (.cells #[.int .i64 2, .int .i64 rd, .int .i64 (n1 : Int), .int .i64 (n2 : Int), .int .i64 imm] 68)).drewN nq := ⟨_, rfl⟩
  rw [← hW1]
  have B1 : Hid (Below w.heap.size w W1) := by rw [hW1]; exact (vbelow1 w _).trans ((below_drewN3 _ nq).mono (by simp))
  have hh : W1.heap[w.heap.size]? = some (.cells #[.int .i64 2, .int .i64 rd, .int .i64 (n1 : Int), .int .i64 (n2 : Int), .int .i64 imm] 68 (0, 0)) := by rw [hW1]; exact heap_alloc_new w _
  clear hW1 ca cb cV
  have lr : w.heap.size < W1.heap.size := (Array.getElem?_eq_some_iff.1 hh).1
  have M1 := Lib.hid (H.out.grow B1.out)
  have C1 : Hid (Chw k vr vl vr vl w W1) := Chw.of_below B1.out
  have i0 := cell_of_heap hh 0
  have i1 := cell_of_heap hh 1
  have i4 := cell_of_heap hh 4
  simp only [List.getElem?_toArray, List.getElem?_cons_zero, List.getElem?_cons_succ] at i0 i1 i4
  clear hh
  have cP : W1.cell? ⟨k.br, 4, none⟩ = some (.int .i64 m.pc) := M1.out.c 4 (by decide)
  have lb := M1.out.brLt.2
  go_wp2_with (first | (go_at_call 43; (with_reducible refine (CW1.out _).mono ?_); rintro e w1 ⟨rfl, rfl⟩) | (go_at_call 43; (with_reducible refine (CW2.out _).mono ?_); rintro e w1 ⟨rfl, rfl⟩))
  have i0 : W1.drew.cell? ⟨w.heap.size, 0, none⟩ = _ := i0
  have i1 : W1.drew.cell? ⟨w.heap.size, 1, none⟩ = _ := i1
  have i4 : W1.drew.cell? ⟨w.heap.size, 4, none⟩ = _ := i4
  have cP : W1.drew.cell? ⟨k.br, 4, none⟩ = _ := cP
  have lr : w.heap.size < W1.drew.heap.size := lr
  have lb : k.br < W1.drew.heap.size := lb
  refine wp_region_game (fun x => x = w.heap.size ∨ x = k.br) (by kernel_rfl) ?_
  show wpE _ _ _ _ _ _ _ W1.drew
  have M1 := Lib.hid (M1.out.grow (Below.drew (Below.refl W1.heap.size W1)))
  have C1 := Lib.hid (C1.out.trans (Chw.of_below (k := k) (vr := vr) (vl := vl) (Below.drew (Below.refl W1.heap.size W1))))
  generalize W1.drew = W1 at *
  refine E_mob2s [0, 1, 2, 3, 4, 5, 6, 7, 8, 9] _ _ _ _ (by kernel_rfl) ?_
  simp only [List.map_cons, List.map_nil, List.getElem?_toArray, List.getElem?_cons_succ, List.getElem?_cons_zero, Option.getD_some, List.size_toArray, List.length_cons, List.length_nil, Nat.reduceAdd, Nat.reduceSub]
  repeat (go_big_quiet_step (fail))
  refine wpQuiet_nil ?_
  refine E_loud1 10 _ rfl (by kernel_rfl) ?_
  simp only [List.getElem_toArray, List.getElem_cons_succ, List.getElem_cons_zero]
  go_wp2_with fail
  refine (CC.out _).mono ?_
  rintro e w4 ⟨rfl, rfl⟩
  go_wp2_with fail
  refine ⟨Keep.refl _ _, ?_⟩
  refine E_last 11 _ rfl (by kernel_rfl) ?_
  simp only [List.getElem_toArray, List.getElem_cons_succ, List.getElem_cons_zero]
  go_wp2_with fail
  refine (HSET.out _ vl m (V) M1.out).mono ?_
  rintro e w5 ⟨rfl, M5, C5⟩
  have M5 := Lib.hid M5
  have C5 := Lib.hid (C1.out.trans C5)
  go_wp2_with fail
  refine E_done (by kernel_rfl) ?_ _
  have cP : w5.cell? ⟨k.br, 4, none⟩ = some (.int .i64 _) := M5.out.c 4 (by decide)
  have fP := M5.out.fz 4
  have lb := M5.out.brLt.2
  go_wp2_with fail
  go_ret
  obtain ⟨u1, u2⟩ := M5.out.setPc (NX)
  exact ⟨vl, rfl, u1, C5.out.trans u2⟩
theorem Wm.inst {w0 w1 : World} {j : Nat} {x : Value} {vl1 : Value} (h0 : Wm k w0 vr vl m) (hc : Chw k vr vl vr vl1 w0 w1) {b : Nat} (h1 : b ≠ k.br) (h2 : some b ≠ k.vd.ownBlock) (h3 : some b ≠ vr.ownBlock) (h4 : some b ≠ vl.ownBlock) (hx : w0.cell? ⟨b, j, none⟩ = some x) : w1.cell? ⟨b, j, none⟩ = some x := hc.cell h1 h2 h3 h4 hx
theorem Wm.apart (h : Wm k w vr vl m) : w.heap.size ≠ k.br ∧ some w.heap.size ≠ k.vd.ownBlock ∧ some w.heap.size ≠ vr.ownBlock ∧ some w.heap.size ≠ vl.ownBlock :=
  ⟨fun e => by have := h.brLt.2; omega, fun e => by have := (own_lt h.dd e.symm).2; omega, fun e => by have := (own_lt h.rr e.symm).2; omega, fun e => by have := (own_lt h.ll e.symm).2; omega⟩
theorem setD_pc (m : Dv) (r v : Int) : (setD m r v).pc = m.pc := by unfold setD; split <;> rfl
theorem wdo_3 (h : Wm k w vr vl m) (hm : Dok m) (rd imm : Int) (n1 n2 : Nat) (h1 : 0 ≤ rd ∧ rd < 32) (h2 : n1 < 32) (h3 : n2 < 32) (hi : -4294967296 ≤ imm ∧ imm < 4294967296) :
    Calls Tryz.prog 31 #[.pointer (some ⟨k.br, 0, none⟩), .agg #[.int .i64 3, .int .i64 rd, .int .i64 (n1 : Int), .int .i64 (n2 : Int), .int .i64 imm]] w fun e w' => ∃ vl', e = .returned (.bool true) ∧ Wm k w' vr vl' { setD m rd (wd (m.pc + 4)) with pc := wd (m.pc + imm) } ∧ Chw k vr vl vr vl' w w' := by
  have H := Lib.hid h
  obtain ⟨g, gc, er, -, lg, -, hcap⟩ := h.rF
  obtain ⟨ca, -, -⟩ := h.cR er n1 h2
  obtain ⟨cb, -, -⟩ := h.cR er n2 h3
  have hab := hm.rb n1
  have hbb := hm.rb n2
  have cV : w.cell? ⟨k.br, 3, none⟩ = some vr := h.c 3 (by decide)
  rw [er] at cV
  have lb := h.brLt.2
  have hpb := hm.pb
  have HSET : Hid (∀ W vl' m' v, Wm k W vr vl' m' → Calls Tryz.prog 44 #[.pointer (some ⟨k.br, 0, none⟩), .int .i64 rd, .int .u32 v] W fun e w' => e = .returned (.tuple #[]) ∧ Wm k w' vr vl' (setD m' rd v) ∧ Chw k vr vl' vr vl' W w') := fun W vl' m' v hW => wset_c hW rd v h1
  clear h er
  generalize m.regs.getD n1 0 = a at *
  generalize m.regs.getD n2 0 = b at *
  have CW1 := Lib.hid (fun w => rwrap_c (a + imm) w (by omega) (by omega))
  have CW2 := Lib.hid (fun w => rwrap_c (m.pc + 4) w (by omega) (by omega))
  have hat := wd_bd (a + imm)
  have hnx := wd_bd (m.pc + 4)
  unfold U32 at hat hnx
  generalize hATg : wd (a + imm) = AT at *
  generalize hNXg : wd (m.pc + 4) = NX at *
  have HAT := Lib.hid hATg
  have HNX := Lib.hid hNXg
  clear hATg hNXg
  have CW3 := Lib.hid (fun w => rwrap_c (m.pc + imm) w (by omega) (by omega))
  generalize wd (m.pc + imm) = V at *
  go_enter Tryz.func31, Tryz.ntmps31
  go_wp2_with fail
  go_quiet (fail)
  obtain ⟨W1, hW1⟩ : ∃ W1, W1 = (w.alloc (.cells #[.int .i64 3, .int .i64 rd, .int .i64 (n1 : Int), .int .i64 (n2 : Int), .int .i64 imm] 68)).drewN nq := ⟨_, rfl⟩
  rw [← hW1]
  have B1 : Hid (Below w.heap.size w W1) := by rw [hW1]; exact (vbelow1 w _).trans ((below_drewN3 _ nq).mono (by simp))
  have hh : W1.heap[w.heap.size]? = some (.cells #[.int .i64 3, .int .i64 rd, .int .i64 (n1 : Int), .int .i64 (n2 : Int), .int .i64 imm] 68 (0, 0)) := by rw [hW1]; exact heap_alloc_new w _
  clear hW1 ca cb cV
  have lr : w.heap.size < W1.heap.size := (Array.getElem?_eq_some_iff.1 hh).1
  have M1 := Lib.hid (H.out.grow B1.out)
  have C1 : Hid (Chw k vr vl vr vl w W1) := Chw.of_below B1.out
  have i0 := cell_of_heap hh 0
  have i1 := cell_of_heap hh 1
  have i4 := cell_of_heap hh 4
  simp only [List.getElem?_toArray, List.getElem?_cons_zero, List.getElem?_cons_succ] at i0 i1 i4
  clear hh
  have cP : W1.cell? ⟨k.br, 4, none⟩ = some (.int .i64 m.pc) := M1.out.c 4 (by decide)
  have lb := M1.out.brLt.2
  go_wp2_with (first | (go_at_call 43; (with_reducible refine (CW1.out _).mono ?_); rintro e w1 ⟨rfl, rfl⟩) | (go_at_call 43; (with_reducible refine (CW2.out _).mono ?_); rintro e w1 ⟨rfl, rfl⟩))
  refine (HSET.out _ vl m NX M1.out).mono ?_
  rintro e w5 ⟨rfl, M5, C5⟩
  have M5 := Lib.hid M5
  have C5x := C5
  have C5 := Lib.hid (C1.out.trans C5)
  have hap := H.out.apart
  have i0 := C5x.cell hap.1 hap.2.1 hap.2.2.1 hap.2.2.2 i0
  have i4 := C5x.cell hap.1 hap.2.1 hap.2.2.1 hap.2.2.2 i4
  have cP : w5.cell? ⟨k.br, 4, none⟩ = some (.int .i64 m.pc) := by have := M5.out.c 4 (by decide); simp only [WK.cells, List.getElem?_cons_succ, List.getElem?_cons_zero, setD_pc] at this; exact this
  have lr : w.heap.size < w5.heap.size := Nat.lt_of_lt_of_le lr C5x.size
  have lb := M5.out.brLt.2
  clear i1 C5x C1 M1
  go_wp2_with fail
  have i0 : w5.drew.cell? ⟨w.heap.size, 0, none⟩ = _ := i0
  have i4 : w5.drew.cell? ⟨w.heap.size, 4, none⟩ = _ := i4
  have cP : w5.drew.cell? ⟨k.br, 4, none⟩ = _ := cP
  have lr : w.heap.size < w5.drew.heap.size := lr
  have lb : k.br < w5.drew.heap.size := lb
  refine wp_region_game (fun x => x = w.heap.size ∨ x = k.br) (by kernel_rfl) ?_
  show wpE _ _ _ _ _ _ _ w5.drew
  have M5 := Lib.hid (M5.out.grow (Below.drew (Below.refl w5.heap.size w5)))
  have C5 := Lib.hid (C5.out.trans (Chw.of_below (k := k) (vr := vr) (vl := vl) (Below.drew (Below.refl w5.heap.size w5))))
  generalize w5.drew = w5 at *
  refine E_mob2s [0, 1, 2, 3, 4, 5, 6] _ _ _ _ (by kernel_rfl) ?_
  simp only [List.map_cons, List.map_nil, List.getElem?_toArray, List.getElem?_cons_succ, List.getElem?_cons_zero, Option.getD_some, List.size_toArray, List.length_cons, List.length_nil, Nat.reduceAdd, Nat.reduceSub]
  repeat (go_big_quiet_step (fail))
  refine wpQuiet_nil ?_
  refine E_loud1 7 _ rfl (by kernel_rfl) ?_
  simp only [List.getElem_toArray, List.getElem_cons_succ, List.getElem_cons_zero]
  go_wp2_with fail
  refine (CW3.out _).mono ?_
  rintro e w6 ⟨rfl, rfl⟩
  go_wp2_with fail
  refine ⟨Keep.refl _ _, ?_⟩
  refine E_mob2s [8] _ _ _ _ (by kernel_rfl) ?_
  simp only [List.map_cons, List.map_nil, List.getElem?_toArray, List.getElem?_cons_succ, List.getElem?_cons_zero, Option.getD_some, List.size_toArray, List.length_cons, List.length_nil, Nat.reduceAdd, Nat.reduceSub]
  repeat (go_big_quiet_step (fail))
  refine wpQuiet_nil ?_
  refine E_done (by kernel_rfl) ?_ _
  have fP := M5.out.fz 4
  go_wp2_with fail
  go_ret
  obtain ⟨u1, u2⟩ := M5.out.setPc (V)
  exact ⟨vl, rfl, u1, C5.out.trans u2⟩
theorem wdo_4 (h : Wm k w vr vl m) (hm : Dok m) (rd imm : Int) (n1 n2 : Nat) (h1 : 0 ≤ rd ∧ rd < 32) (h2 : n1 < 32) (h3 : n2 < 32) (hi : -4294967296 ≤ imm ∧ imm < 4294967296) :
    Calls Tryz.prog 31 #[.pointer (some ⟨k.br, 0, none⟩), .agg #[.int .i64 4, .int .i64 rd, .int .i64 (n1 : Int), .int .i64 (n2 : Int), .int .i64 imm]] w fun e w' => ∃ vl', e = .returned (.bool true) ∧ Wm k w' vr vl' { setD m rd (wd (m.pc + 4)) with pc := wd (m.regs.getD n1 0 + imm) - wd (m.regs.getD n1 0 + imm) % 2 } ∧ Chw k vr vl vr vl' w w' := by
  have H := Lib.hid h
  obtain ⟨g, gc, er, -, lg, -, hcap⟩ := h.rF
  obtain ⟨ca, -, -⟩ := h.cR er n1 h2
  obtain ⟨cb, -, -⟩ := h.cR er n2 h3
  have hab := hm.rb n1
  have hbb := hm.rb n2
  have cV : w.cell? ⟨k.br, 3, none⟩ = some vr := h.c 3 (by decide)
  rw [er] at cV
  have lb := h.brLt.2
  have hpb := hm.pb
  have HSET : Hid (∀ W vl' m' v, Wm k W vr vl' m' → Calls Tryz.prog 44 #[.pointer (some ⟨k.br, 0, none⟩), .int .i64 rd, .int .u32 v] W fun e w' => e = .returned (.tuple #[]) ∧ Wm k w' vr vl' (setD m' rd v) ∧ Chw k vr vl' vr vl' W w') := fun W vl' m' v hW => wset_c hW rd v h1
  clear h er
  generalize m.regs.getD n1 0 = a at *
  generalize m.regs.getD n2 0 = b at *
  have CW1 := Lib.hid (fun w => rwrap_c (a + imm) w (by omega) (by omega))
  have CW2 := Lib.hid (fun w => rwrap_c (m.pc + 4) w (by omega) (by omega))
  have hat := wd_bd (a + imm)
  have hnx := wd_bd (m.pc + 4)
  unfold U32 at hat hnx
  generalize hATg : wd (a + imm) = AT at *
  generalize hNXg : wd (m.pc + 4) = NX at *
  have HAT := Lib.hid hATg
  have HNX := Lib.hid hNXg
  clear hATg hNXg
  go_enter Tryz.func31, Tryz.ntmps31
  go_wp2_with fail
  go_quiet (fail)
  obtain ⟨W1, hW1⟩ : ∃ W1, W1 = (w.alloc (.cells #[.int .i64 4, .int .i64 rd, .int .i64 (n1 : Int), .int .i64 (n2 : Int), .int .i64 imm] 68)).drewN nq := ⟨_, rfl⟩
  rw [← hW1]
  have B1 : Hid (Below w.heap.size w W1) := by rw [hW1]; exact (vbelow1 w _).trans ((below_drewN3 _ nq).mono (by simp))
  have hh : W1.heap[w.heap.size]? = some (.cells #[.int .i64 4, .int .i64 rd, .int .i64 (n1 : Int), .int .i64 (n2 : Int), .int .i64 imm] 68 (0, 0)) := by rw [hW1]; exact heap_alloc_new w _
  clear hW1 ca cb cV
  have lr : w.heap.size < W1.heap.size := (Array.getElem?_eq_some_iff.1 hh).1
  have M1 := Lib.hid (H.out.grow B1.out)
  have C1 : Hid (Chw k vr vl vr vl w W1) := Chw.of_below B1.out
  have i0 := cell_of_heap hh 0
  have i1 := cell_of_heap hh 1
  have i4 := cell_of_heap hh 4
  simp only [List.getElem?_toArray, List.getElem?_cons_zero, List.getElem?_cons_succ] at i0 i1 i4
  clear hh
  have cP : W1.cell? ⟨k.br, 4, none⟩ = some (.int .i64 m.pc) := M1.out.c 4 (by decide)
  have lb := M1.out.brLt.2
  go_wp2_with (first | (go_at_call 43; (with_reducible refine (CW1.out _).mono ?_); rintro e w1 ⟨rfl, rfl⟩) | (go_at_call 43; (with_reducible refine (CW2.out _).mono ?_); rintro e w1 ⟨rfl, rfl⟩))
  refine (HSET.out _ vl m NX M1.out).mono ?_
  rintro e w5 ⟨rfl, M5, C5⟩
  have M5 := Lib.hid M5
  have C5x := C5
  have C5 := Lib.hid (C1.out.trans C5)
  have hap := H.out.apart
  have i0 := C5x.cell hap.1 hap.2.1 hap.2.2.1 hap.2.2.2 i0
  have cP : w5.cell? ⟨k.br, 4, none⟩ = some (.int .i64 m.pc) := by have := M5.out.c 4 (by decide); simp only [WK.cells, List.getElem?_cons_succ, List.getElem?_cons_zero, setD_pc] at this; exact this
  have lr : w.heap.size < w5.heap.size := Nat.lt_of_lt_of_le lr C5x.size
  have lb := M5.out.brLt.2
  clear i1 i4 C5x C1 M1
  have fP := M5.out.fz 4
  go_wp2_with fail
  go_ret
  obtain ⟨u1, u2⟩ := M5.out.setPc (AT - AT % 2)
  exact ⟨vl, rfl, u1, C5.out.trans u2⟩
theorem wdo_branch (h : Wm k w vr vl m) (hm : Dok m) (op rd imm : Int) (n1 n2 : Nat) (h1 : 0 ≤ rd ∧ rd < 32) (h2 : n1 < 32) (h3 : n2 < 32) (hi : -4294967296 ≤ imm ∧ imm < 4294967296) (ho : 5 ≤ op) (ho' : op ≤ 10) :
    Calls Tryz.prog 31 #[.pointer (some ⟨k.br, 0, none⟩), .agg #[.int .i64 op, .int .i64 rd, .int .i64 (n1 : Int), .int .i64 (n2 : Int), .int .i64 imm]] w fun e w' => ∃ vl', e = .returned (.bool true) ∧ Wm k w' vr vl' { m with pc := if takenP op (m.regs.getD n1 0) (m.regs.getD n2 0) = true then wd (m.pc + imm) else wd (m.pc + 4) } ∧ Chw k vr vl vr vl' w w' := by
  have CB := Lib.hid (fun w => rtaken_c op (m.regs.getD n1 0) (m.regs.getD n2 0) w ho ho' (hm.rb n1).1 (hm.rb n1).2 (hm.rb n2).1 (hm.rb n2).2)
  have ge1 : (op == 1) = false := beq_eq_false_iff_ne.2 (by omega)
  have ge2 : (op == 2) = false := beq_eq_false_iff_ne.2 (by omega)
  have ge3 : (op == 3) = false := beq_eq_false_iff_ne.2 (by omega)
  have ge4 : (op == 4) = false := beq_eq_false_iff_ne.2 (by omega)
  have go : decide (op ≤ 10) = true := decide_eq_true ho'
  have H := Lib.hid h
  obtain ⟨g, gc, er, -, lg, -, hcap⟩ := h.rF
  obtain ⟨ca, -, -⟩ := h.cR er n1 h2
  obtain ⟨cb, -, -⟩ := h.cR er n2 h3
  have hab := hm.rb n1
  have hbb := hm.rb n2
  have cV : w.cell? ⟨k.br, 3, none⟩ = some vr := h.c 3 (by decide)
  rw [er] at cV
  have lb := h.brLt.2
  have hpb := hm.pb
  have HSET : Hid (∀ W vl' m' v, Wm k W vr vl' m' → Calls Tryz.prog 44 #[.pointer (some ⟨k.br, 0, none⟩), .int .i64 rd, .int .u32 v] W fun e w' => e = .returned (.tuple #[]) ∧ Wm k w' vr vl' (setD m' rd v) ∧ Chw k vr vl' vr vl' W w') := fun W vl' m' v hW => wset_c hW rd v h1
  clear h er
  generalize m.regs.getD n1 0 = a at *
  generalize m.regs.getD n2 0 = b at *
  have CW1 := Lib.hid (fun w => rwrap_c (a + imm) w (by omega) (by omega))
  have CW2 := Lib.hid (fun w => rwrap_c (m.pc + 4) w (by omega) (by omega))
  have hat := wd_bd (a + imm)
  have hnx := wd_bd (m.pc + 4)
  unfold U32 at hat hnx
  generalize hATg : wd (a + imm) = AT at *
  generalize hNXg : wd (m.pc + 4) = NX at *
  have HAT := Lib.hid hATg
  have HNX := Lib.hid hNXg
  clear hATg hNXg
  have CW3 := Lib.hid (fun w => rwrap_c (m.pc + imm) w (by omega) (by omega))
  generalize wd (m.pc + imm) = V at *
  generalize takenP op a b = tk at *
  cases tk
  · go_enter Tryz.func31, Tryz.ntmps31
    go_wp2_with fail
    go_quiet (fail)
    obtain ⟨W1, hW1⟩ : ∃ W1, W1 = (w.alloc (.cells #[.int .i64 op, .int .i64 rd, .int .i64 (n1 : Int), .int .i64 (n2 : Int), .int .i64 imm] 68)).drewN nq := ⟨_, rfl⟩
    rw [← hW1]
    have B1 : Hid (Below w.heap.size w W1) := by rw [hW1]; exact (vbelow1 w _).trans ((below_drewN3 _ nq).mono (by simp))
    have hh : W1.heap[w.heap.size]? = some (.cells #[.int .i64 op, .int .i64 rd, .int .i64 (n1 : Int), .int .i64 (n2 : Int), .int .i64 imm] 68 (0, 0)) := by rw [hW1]; exact heap_alloc_new w _
    clear hW1 ca cb cV
    have lr : w.heap.size < W1.heap.size := (Array.getElem?_eq_some_iff.1 hh).1
    have M1 := Lib.hid (H.out.grow B1.out)
    have C1 : Hid (Chw k vr vl vr vl w W1) := Chw.of_below B1.out
    have i0 := cell_of_heap hh 0
    have i1 := cell_of_heap hh 1
    have i4 := cell_of_heap hh 4
    simp only [List.getElem?_toArray, List.getElem?_cons_zero, List.getElem?_cons_succ] at i0 i1 i4
    clear hh
    have cP : W1.cell? ⟨k.br, 4, none⟩ = some (.int .i64 m.pc) := M1.out.c 4 (by decide)
    have lb := M1.out.brLt.2
    have fP := M1.out.fz 4
    go_wp2_with (first | (go_at_call 46; (with_reducible refine (CB.out _).mono ?_); rintro e w1 ⟨rfl, rfl⟩) | (first | (go_at_call 43; (with_reducible refine (CW1.out _).mono ?_); rintro e w1 ⟨rfl, rfl⟩) | (go_at_call 43; (with_reducible refine (CW2.out _).mono ?_); rintro e w1 ⟨rfl, rfl⟩)))
    go_ret
    obtain ⟨u1, u2⟩ := M1.out.setPc NX
    first | exact ⟨vl, rfl, u1, C1.out.trans u2⟩ | exact ⟨rfl, vl, u1, C1.out.trans u2⟩
  · go_enter Tryz.func31, Tryz.ntmps31
    go_wp2_with fail
    go_quiet (fail)
    obtain ⟨W1, hW1⟩ : ∃ W1, W1 = (w.alloc (.cells #[.int .i64 op, .int .i64 rd, .int .i64 (n1 : Int), .int .i64 (n2 : Int), .int .i64 imm] 68)).drewN nq := ⟨_, rfl⟩
    rw [← hW1]
    have B1 : Hid (Below w.heap.size w W1) := by rw [hW1]; exact (vbelow1 w _).trans ((below_drewN3 _ nq).mono (by simp))
    have hh : W1.heap[w.heap.size]? = some (.cells #[.int .i64 op, .int .i64 rd, .int .i64 (n1 : Int), .int .i64 (n2 : Int), .int .i64 imm] 68 (0, 0)) := by rw [hW1]; exact heap_alloc_new w _
    clear hW1 ca cb cV
    have lr : w.heap.size < W1.heap.size := (Array.getElem?_eq_some_iff.1 hh).1
    have M1 := Lib.hid (H.out.grow B1.out)
    have C1 : Hid (Chw k vr vl vr vl w W1) := Chw.of_below B1.out
    have i0 := cell_of_heap hh 0
    have i1 := cell_of_heap hh 1
    have i4 := cell_of_heap hh 4
    simp only [List.getElem?_toArray, List.getElem?_cons_zero, List.getElem?_cons_succ] at i0 i1 i4
    clear hh
    have cP : W1.cell? ⟨k.br, 4, none⟩ = some (.int .i64 m.pc) := M1.out.c 4 (by decide)
    have lb := M1.out.brLt.2
    go_wp2_with (first | (go_at_call 46; (with_reducible refine (CB.out _).mono ?_); rintro e w1 ⟨rfl, rfl⟩) | (first | (go_at_call 43; (with_reducible refine (CW1.out _).mono ?_); rintro e w1 ⟨rfl, rfl⟩) | (go_at_call 43; (with_reducible refine (CW2.out _).mono ?_); rintro e w1 ⟨rfl, rfl⟩)))
    have M5 := M1
    have C5 := C1
    clear M1 C1 i1
    have i0 : W1.drew.cell? ⟨w.heap.size, 0, none⟩ = _ := i0
    have i4 : W1.drew.cell? ⟨w.heap.size, 4, none⟩ = _ := i4
    have cP : W1.drew.cell? ⟨k.br, 4, none⟩ = _ := cP
    have lr : w.heap.size < W1.drew.heap.size := lr
    have lb : k.br < W1.drew.heap.size := lb
    refine wp_region_game (fun x => x = w.heap.size ∨ x = k.br) (by kernel_rfl) ?_
    show wpE _ _ _ _ _ _ _ W1.drew
    have M5 := Lib.hid (M5.out.grow (Below.drew (Below.refl W1.heap.size W1)))
    have C5 := Lib.hid (C5.out.trans (Chw.of_below (k := k) (vr := vr) (vl := vl) (Below.drew (Below.refl W1.heap.size W1))))
    generalize W1.drew = W1 at *
    refine E_mob2s [0, 1, 2, 3, 4, 5, 6] _ _ _ _ (by kernel_rfl) ?_
    simp only [List.map_cons, List.map_nil, List.getElem?_toArray, List.getElem?_cons_succ, List.getElem?_cons_zero, Option.getD_some, List.size_toArray, List.length_cons, List.length_nil, Nat.reduceAdd, Nat.reduceSub]
    repeat (go_big_quiet_step (fail))
    refine wpQuiet_nil ?_
    refine E_loud1 7 _ rfl (by kernel_rfl) ?_
    simp only [List.getElem_toArray, List.getElem_cons_succ, List.getElem_cons_zero]
    go_wp2_with fail
    refine (CW3.out _).mono ?_
    rintro e w6 ⟨rfl, rfl⟩
    go_wp2_with fail
    refine ⟨Keep.refl _ _, ?_⟩
    refine E_mob2s [8] _ _ _ _ (by kernel_rfl) ?_
    simp only [List.map_cons, List.map_nil, List.getElem?_toArray, List.getElem?_cons_succ, List.getElem?_cons_zero, Option.getD_some, List.size_toArray, List.length_cons, List.length_nil, Nat.reduceAdd, Nat.reduceSub]
    repeat (go_big_quiet_step (fail))
    refine wpQuiet_nil ?_
    refine E_done (by kernel_rfl) ?_ _
    have fP := M5.out.fz 4
    go_wp2_with fail
    go_ret
    obtain ⟨u1, u2⟩ := M5.out.setPc V
    first | exact ⟨vl, rfl, u1, C5.out.trans u2⟩ | exact ⟨rfl, vl, u1, C5.out.trans u2⟩
theorem wdo_load (h : Wm k w vr vl m) (hin : k.inp.length ≤ 1000000) (hm : Dok m) (op rd imm : Int) (n1 n2 : Nat) (h1 : 0 ≤ rd ∧ rd < 32) (h2 : n1 < 32) (h3 : n2 < 32) (hi : -4294967296 ≤ imm ∧ imm < 4294967296) (ho : 11 ≤ op) (ho' : op ≤ 15) :
    Calls Tryz.prog 31 #[.pointer (some ⟨k.br, 0, none⟩), .agg #[.int .i64 op, .int .i64 rd, .int .i64 (n1 : Int), .int .i64 (n2 : Int), .int .i64 imm]] w fun e w' => ∃ vl', e = .returned (.bool (loadD k.inp m op (wd (m.regs.getD n1 0 + imm))).isSome) ∧ Wm k w' vr vl' (match loadD k.inp m op (wd (m.regs.getD n1 0 + imm)) with | none => m | some v => { setD m rd v with pc := wd (m.pc + 4) }) ∧ Chw k vr vl vr vl' w w' := by
  have CL : Hid (∀ W, Wm k W vr vl m → Calls Tryz.prog 47 #[.pointer (some ⟨k.br, 0, none⟩), .int .i64 op, .int .i64 (wd (m.regs.getD n1 0 + imm))] W fun e w' => e = .returned (ldv (loadD k.inp m op (wd (m.regs.getD n1 0 + imm)))) ∧ Below W.heap.size W w') := fun W hW => rload_c op _ hW hin hm (wd_bd _).1 (wd_bd _).2 ho ho'
  have ge1 : (op == 1) = false := beq_eq_false_iff_ne.2 (by omega)
  have ge2 : (op == 2) = false := beq_eq_false_iff_ne.2 (by omega)
  have ge3 : (op == 3) = false := beq_eq_false_iff_ne.2 (by omega)
  have ge4 : (op == 4) = false := beq_eq_false_iff_ne.2 (by omega)
  have go : decide (op ≤ 10) = false := decide_eq_false (by omega)
  have go2 : decide (op ≤ 15) = true := decide_eq_true ho'
  have H := Lib.hid h
  obtain ⟨g, gc, er, -, lg, -, hcap⟩ := h.rF
  obtain ⟨ca, -, -⟩ := h.cR er n1 h2
  obtain ⟨cb, -, -⟩ := h.cR er n2 h3
  have hab := hm.rb n1
  have hbb := hm.rb n2
  have cV : w.cell? ⟨k.br, 3, none⟩ = some vr := h.c 3 (by decide)
  rw [er] at cV
  have lb := h.brLt.2
  have hpb := hm.pb
  have HSET : Hid (∀ W vl' m' v, Wm k W vr vl' m' → Calls Tryz.prog 44 #[.pointer (some ⟨k.br, 0, none⟩), .int .i64 rd, .int .u32 v] W fun e w' => e = .returned (.tuple #[]) ∧ Wm k w' vr vl' (setD m' rd v) ∧ Chw k vr vl' vr vl' W w') := fun W vl' m' v hW => wset_c hW rd v h1
  clear h er
  generalize m.regs.getD n1 0 = a at *
  generalize m.regs.getD n2 0 = b at *
  have CW1 := Lib.hid (fun w => rwrap_c (a + imm) w (by omega) (by omega))
  have CW2 := Lib.hid (fun w => rwrap_c (m.pc + 4) w (by omega) (by omega))
  have hat := wd_bd (a + imm)
  have hnx := wd_bd (m.pc + 4)
  unfold U32 at hat hnx
  generalize hATg : wd (a + imm) = AT at *
  generalize hNXg : wd (m.pc + 4) = NX at *
  have HAT := Lib.hid hATg
  have HNX := Lib.hid hNXg
  clear hATg hNXg
  generalize loadD k.inp m op AT = ld at *
  cases ld with
  | none =>
    have CL : Hid (∀ W, Wm k W vr vl m → Calls Tryz.prog 47 #[.pointer (some ⟨k.br, 0, none⟩), .int .i64 op, .int .i64 AT] W fun e w' => e = .returned (.tuple #[.int .u32 0, .bool false]) ∧ Below W.heap.size W w') := CL
    go_enter Tryz.func31, Tryz.ntmps31
    go_wp2_with fail
    go_quiet (fail)
    obtain ⟨W1, hW1⟩ : ∃ W1, W1 = (w.alloc (.cells #[.int .i64 op, .int .i64 rd, .int .i64 (n1 : Int), .int .i64 (n2 : Int), .int .i64 imm] 68)).drewN nq := ⟨_, rfl⟩
    rw [← hW1]
    have B1 : Hid (Below w.heap.size w W1) := by rw [hW1]; exact (vbelow1 w _).trans ((below_drewN3 _ nq).mono (by simp))
    have hh : W1.heap[w.heap.size]? = some (.cells #[.int .i64 op, .int .i64 rd, .int .i64 (n1 : Int), .int .i64 (n2 : Int), .int .i64 imm] 68 (0, 0)) := by rw [hW1]; exact heap_alloc_new w _
    clear hW1 ca cb cV
    have lr : w.heap.size < W1.heap.size := (Array.getElem?_eq_some_iff.1 hh).1
    have M1 := Lib.hid (H.out.grow B1.out)
    have C1 : Hid (Chw k vr vl vr vl w W1) := Chw.of_below B1.out
    have i0 := cell_of_heap hh 0
    have i1 := cell_of_heap hh 1
    have i4 := cell_of_heap hh 4
    simp only [List.getElem?_toArray, List.getElem?_cons_zero, List.getElem?_cons_succ] at i0 i1 i4
    clear hh
    have cP : W1.cell? ⟨k.br, 4, none⟩ = some (.int .i64 m.pc) := M1.out.c 4 (by decide)
    have lb := M1.out.brLt.2
    go_wp2_with (first | (go_at_call 47; (with_reducible refine (CL.out _ M1.out).mono ?_); rintro e w1 ⟨rfl, hb⟩) | (first | (go_at_call 43; (with_reducible refine (CW1.out _).mono ?_); rintro e w1 ⟨rfl, rfl⟩) | (go_at_call 43; (with_reducible refine (CW2.out _).mono ?_); rintro e w1 ⟨rfl, rfl⟩)))
    go_ret
    exact ⟨vl, rfl, M1.out.grow hb, C1.out.trans (Chw.of_below hb)⟩
  | some v =>
    have CL : Hid (∀ W, Wm k W vr vl m → Calls Tryz.prog 47 #[.pointer (some ⟨k.br, 0, none⟩), .int .i64 op, .int .i64 AT] W fun e w' => e = .returned (.tuple #[.int .u32 v, .bool true]) ∧ Below W.heap.size W w') := CL
    go_enter Tryz.func31, Tryz.ntmps31
    go_wp2_with fail
    go_quiet (fail)
    obtain ⟨W1, hW1⟩ : ∃ W1, W1 = (w.alloc (.cells #[.int .i64 op, .int .i64 rd, .int .i64 (n1 : Int), .int .i64 (n2 : Int), .int .i64 imm] 68)).drewN nq := ⟨_, rfl⟩
    rw [← hW1]
    have B1 : Hid (Below w.heap.size w W1) := by rw [hW1]; exact (vbelow1 w _).trans ((below_drewN3 _ nq).mono (by simp))
    have hh : W1.heap[w.heap.size]? = some (.cells #[.int .i64 op, .int .i64 rd, .int .i64 (n1 : Int), .int .i64 (n2 : Int), .int .i64 imm] 68 (0, 0)) := by rw [hW1]; exact heap_alloc_new w _
    clear hW1 ca cb cV
    have lr : w.heap.size < W1.heap.size := (Array.getElem?_eq_some_iff.1 hh).1
    have M1 := Lib.hid (H.out.grow B1.out)
    have C1 : Hid (Chw k vr vl vr vl w W1) := Chw.of_below B1.out
    have i0 := cell_of_heap hh 0
    have i1 := cell_of_heap hh 1
    have i4 := cell_of_heap hh 4
    simp only [List.getElem?_toArray, List.getElem?_cons_zero, List.getElem?_cons_succ] at i0 i1 i4
    clear hh
    have cP : W1.cell? ⟨k.br, 4, none⟩ = some (.int .i64 m.pc) := M1.out.c 4 (by decide)
    have lb := M1.out.brLt.2
    go_wp2_with (first | (go_at_call 47; (with_reducible refine (CL.out _ M1.out).mono ?_); rintro e w1 ⟨rfl, hb⟩; have i1 := (hb.cell (p := ⟨w.heap.size, 1, none⟩) lr).trans i1; have lr1 : w.heap.size < w1.heap.size := Nat.lt_of_lt_of_le lr hb.size) | (first | (go_at_call 43; (with_reducible refine (CW1.out _).mono ?_); rintro e w1 ⟨rfl, rfl⟩) | (go_at_call 43; (with_reducible refine (CW2.out _).mono ?_); rintro e w1 ⟨rfl, rfl⟩)))
    refine (HSET.out _ vl m v (M1.out.grow hb)).mono ?_
    rintro e w5 ⟨rfl, M5, C5⟩
    have M5 := Lib.hid M5
    have C5 := Lib.hid ((C1.out.trans (Chw.of_below (k := k) (vr := vr) (vl := vl) hb)).trans C5)
    have cP : w5.cell? ⟨k.br, 4, none⟩ = some (.int .i64 _) := M5.out.c 4 (by decide)
    have fP := M5.out.fz 4
    have lb := M5.out.brLt.2
    go_wp2_with fail
    go_ret
    obtain ⟨u1, u2⟩ := M5.out.setPc (NX)
    exact ⟨vl, rfl, u1, C5.out.trans u2⟩
theorem wdo_store (h : Wm k w vr vl m) (hs : m.steps ≤ 1000000) (hm : Dok m) (op rd imm : Int) (n1 n2 : Nat) (h1 : 0 ≤ rd ∧ rd < 32) (h2 : n1 < 32) (h3 : n2 < 32) (hi : -4294967296 ≤ imm ∧ imm < 4294967296) (ho : 16 ≤ op) (ho' : op ≤ 18) :
    Calls Tryz.prog 31 #[.pointer (some ⟨k.br, 0, none⟩), .agg #[.int .i64 op, .int .i64 rd, .int .i64 (n1 : Int), .int .i64 (n2 : Int), .int .i64 imm]] w fun e w' => ∃ vl', e = .returned (.bool (storeD m op (wd (m.regs.getD n1 0 + imm)) (m.regs.getD n2 0)).isSome) ∧ Wm k w' vr vl' (match storeD m op (wd (m.regs.getD n1 0 + imm)) (m.regs.getD n2 0) with | none => m | some m' => { m' with pc := wd (m.pc + 4) }) ∧ Chw k vr vl vr vl' w w' := by
  have CL : Hid (∀ W, Wm k W vr vl m → Calls Tryz.prog 48 #[.pointer (some ⟨k.br, 0, none⟩), .int .i64 op, .int .i64 (wd (m.regs.getD n1 0 + imm)), .int .u32 (m.regs.getD n2 0)] W fun e w' => ∃ vl', e = .returned (.bool (storeD m op (wd (m.regs.getD n1 0 + imm)) (m.regs.getD n2 0)).isSome) ∧ Wm k w' vr vl' ((storeD m op (wd (m.regs.getD n1 0 + imm)) (m.regs.getD n2 0)).getD m) ∧ Chw k vr vl vr vl' W w') := fun W hW => wstore_c op _ _ hW hm hs (wd_bd _).1 (wd_bd _).2 (hm.rb n2).1 (hm.rb n2).2 ho ho'
  have ge1 : (op == 1) = false := beq_eq_false_iff_ne.2 (by omega)
  have ge2 : (op == 2) = false := beq_eq_false_iff_ne.2 (by omega)
  have ge3 : (op == 3) = false := beq_eq_false_iff_ne.2 (by omega)
  have ge4 : (op == 4) = false := beq_eq_false_iff_ne.2 (by omega)
  have go : decide (op ≤ 10) = false := decide_eq_false (by omega)
  have go2 : decide (op ≤ 15) = false := decide_eq_false (by omega)
  have go3 : decide (op ≤ 18) = true := decide_eq_true ho'
  have H := Lib.hid h
  obtain ⟨g, gc, er, -, lg, -, hcap⟩ := h.rF
  obtain ⟨ca, -, -⟩ := h.cR er n1 h2
  obtain ⟨cb, -, -⟩ := h.cR er n2 h3
  have hab := hm.rb n1
  have hbb := hm.rb n2
  have cV : w.cell? ⟨k.br, 3, none⟩ = some vr := h.c 3 (by decide)
  rw [er] at cV
  have lb := h.brLt.2
  have hpb := hm.pb
  have HSET : Hid (∀ W vl' m' v, Wm k W vr vl' m' → Calls Tryz.prog 44 #[.pointer (some ⟨k.br, 0, none⟩), .int .i64 rd, .int .u32 v] W fun e w' => e = .returned (.tuple #[]) ∧ Wm k w' vr vl' (setD m' rd v) ∧ Chw k vr vl' vr vl' W w') := fun W vl' m' v hW => wset_c hW rd v h1
  clear h er
  generalize m.regs.getD n1 0 = a at *
  generalize m.regs.getD n2 0 = b at *
  have CW1 := Lib.hid (fun w => rwrap_c (a + imm) w (by omega) (by omega))
  have CW2 := Lib.hid (fun w => rwrap_c (m.pc + 4) w (by omega) (by omega))
  have hat := wd_bd (a + imm)
  have hnx := wd_bd (m.pc + 4)
  unfold U32 at hat hnx
  generalize hATg : wd (a + imm) = AT at *
  generalize hNXg : wd (m.pc + 4) = NX at *
  have HAT := Lib.hid hATg
  have HNX := Lib.hid hNXg
  clear hATg hNXg
  generalize storeD m op AT b = st at *
  cases st with
  | none =>
    have CL : Hid (∀ W, Wm k W vr vl m → Calls Tryz.prog 48 #[.pointer (some ⟨k.br, 0, none⟩), .int .i64 op, .int .i64 AT, .int .u32 b] W fun e w' => ∃ vl', e = .returned (.bool false) ∧ Wm k w' vr vl' m ∧ Chw k vr vl vr vl' W w') := CL
    go_enter Tryz.func31, Tryz.ntmps31
    go_wp2_with fail
    go_quiet (fail)
    obtain ⟨W1, hW1⟩ : ∃ W1, W1 = (w.alloc (.cells #[.int .i64 op, .int .i64 rd, .int .i64 (n1 : Int), .int .i64 (n2 : Int), .int .i64 imm] 68)).drewN nq := ⟨_, rfl⟩
    rw [← hW1]
    have B1 : Hid (Below w.heap.size w W1) := by rw [hW1]; exact (vbelow1 w _).trans ((below_drewN3 _ nq).mono (by simp))
    have hh : W1.heap[w.heap.size]? = some (.cells #[.int .i64 op, .int .i64 rd, .int .i64 (n1 : Int), .int .i64 (n2 : Int), .int .i64 imm] 68 (0, 0)) := by rw [hW1]; exact heap_alloc_new w _
    clear hW1 ca cb cV
    have lr : w.heap.size < W1.heap.size := (Array.getElem?_eq_some_iff.1 hh).1
    have M1 := Lib.hid (H.out.grow B1.out)
    have C1 : Hid (Chw k vr vl vr vl w W1) := Chw.of_below B1.out
    have i0 := cell_of_heap hh 0
    have i1 := cell_of_heap hh 1
    have i4 := cell_of_heap hh 4
    simp only [List.getElem?_toArray, List.getElem?_cons_zero, List.getElem?_cons_succ] at i0 i1 i4
    clear hh
    have cP : W1.cell? ⟨k.br, 4, none⟩ = some (.int .i64 m.pc) := M1.out.c 4 (by decide)
    have lb := M1.out.brLt.2
    go_wp2_with (first | (go_at_call 48; (with_reducible refine (CL.out _ M1.out).mono ?_); rintro e w1 ⟨vl', rfl, hv, hc⟩) | (first | (go_at_call 43; (with_reducible refine (CW1.out _).mono ?_); rintro e w1 ⟨rfl, rfl⟩) | (go_at_call 43; (with_reducible refine (CW2.out _).mono ?_); rintro e w1 ⟨rfl, rfl⟩)))
    go_ret
    exact ⟨vl', rfl, hv, C1.out.trans hc⟩
  | some m' =>
    have CL : Hid (∀ W, Wm k W vr vl m → Calls Tryz.prog 48 #[.pointer (some ⟨k.br, 0, none⟩), .int .i64 op, .int .i64 AT, .int .u32 b] W fun e w' => ∃ vl', e = .returned (.bool true) ∧ Wm k w' vr vl' m' ∧ Chw k vr vl vr vl' W w') := CL
    go_enter Tryz.func31, Tryz.ntmps31
    go_wp2_with fail
    go_quiet (fail)
    obtain ⟨W1, hW1⟩ : ∃ W1, W1 = (w.alloc (.cells #[.int .i64 op, .int .i64 rd, .int .i64 (n1 : Int), .int .i64 (n2 : Int), .int .i64 imm] 68)).drewN nq := ⟨_, rfl⟩
    rw [← hW1]
    have B1 : Hid (Below w.heap.size w W1) := by rw [hW1]; exact (vbelow1 w _).trans ((below_drewN3 _ nq).mono (by simp))
    have hh : W1.heap[w.heap.size]? = some (.cells #[.int .i64 op, .int .i64 rd, .int .i64 (n1 : Int), .int .i64 (n2 : Int), .int .i64 imm] 68 (0, 0)) := by rw [hW1]; exact heap_alloc_new w _
    clear hW1 ca cb cV
    have lr : w.heap.size < W1.heap.size := (Array.getElem?_eq_some_iff.1 hh).1
    have M1 := Lib.hid (H.out.grow B1.out)
    have C1 : Hid (Chw k vr vl vr vl w W1) := Chw.of_below B1.out
    have i0 := cell_of_heap hh 0
    have i1 := cell_of_heap hh 1
    have i4 := cell_of_heap hh 4
    simp only [List.getElem?_toArray, List.getElem?_cons_zero, List.getElem?_cons_succ] at i0 i1 i4
    clear hh
    have cP : W1.cell? ⟨k.br, 4, none⟩ = some (.int .i64 m.pc) := M1.out.c 4 (by decide)
    have lb := M1.out.brLt.2
    go_wp2_with (first | (go_at_call 48; (with_reducible refine (CL.out _ M1.out).mono ?_); rintro e w1 ⟨vl', rfl, hv, hc⟩; have cQ : w1.cell? ⟨k.br, 4, none⟩ = some (.int .i64 m'.pc) := hv.c 4 (by decide); have fQ : w1.frozen? ⟨k.br, 4, none⟩ = false := hv.fz 4; have lq := hv.brLt.2) | (first | (go_at_call 43; (with_reducible refine (CW1.out _).mono ?_); rintro e w1 ⟨rfl, rfl⟩) | (go_at_call 43; (with_reducible refine (CW2.out _).mono ?_); rintro e w1 ⟨rfl, rfl⟩)))
    go_ret
    obtain ⟨u1, u2⟩ := hv.setPc NX
    exact ⟨vl', rfl, u1, C1.out.trans (hc.trans u2)⟩
theorem wdo_imm (h : Wm k w vr vl m) (hm : Dok m) (op rd imm : Int) (n1 n2 : Nat) (h1 : 0 ≤ rd ∧ rd < 32) (h2 : n1 < 32) (h3 : n2 < 32) (hi : -4294967296 ≤ imm ∧ imm < 4294967296) (ho : 19 ≤ op) (ho' : op ≤ 27) :
    Calls Tryz.prog 31 #[.pointer (some ⟨k.br, 0, none⟩), .agg #[.int .i64 op, .int .i64 rd, .int .i64 (n1 : Int), .int .i64 (n2 : Int), .int .i64 imm]] w fun e w' => ∃ vl', e = .returned (.bool true) ∧ Wm k w' vr vl' { setD m rd (reckP (longP op) (m.regs.getD n1 0) (wd imm)) with pc := wd (m.pc + 4) } ∧ Chw k vr vl vr vl' w w' := by
  have CR := Lib.hid (fun w => rreckon_c op (m.regs.getD n1 0) (wd imm) w ho (by omega) (hm.rb n1).1 (hm.rb n1).2 (wd_bd _).1 (wd_bd _).2)
  have CC : Hid (∀ w, Calls Tryz.prog 45 #[.int .i64 imm] w fun e w' => e = .returned (.int .u32 (wd imm)) ∧ w = w') := fun w => rcut_c imm w (by omega) (by omega)
  have ge1 : (op == 1) = false := beq_eq_false_iff_ne.2 (by omega)
  have ge2 : (op == 2) = false := beq_eq_false_iff_ne.2 (by omega)
  have ge3 : (op == 3) = false := beq_eq_false_iff_ne.2 (by omega)
  have ge4 : (op == 4) = false := beq_eq_false_iff_ne.2 (by omega)
  have go : decide (op ≤ 10) = false := decide_eq_false (by omega)
  have go2 : decide (op ≤ 15) = false := decide_eq_false (by omega)
  have go3 : decide (op ≤ 18) = false := decide_eq_false (by omega)
  have go4 : decide (op ≤ 27) = true := decide_eq_true ho'
  have H := Lib.hid h
  obtain ⟨g, gc, er, -, lg, -, hcap⟩ := h.rF
  obtain ⟨ca, -, -⟩ := h.cR er n1 h2
  obtain ⟨cb, -, -⟩ := h.cR er n2 h3
  have hab := hm.rb n1
  have hbb := hm.rb n2
  have cV : w.cell? ⟨k.br, 3, none⟩ = some vr := h.c 3 (by decide)
  rw [er] at cV
  have lb := h.brLt.2
  have hpb := hm.pb
  have HSET : Hid (∀ W vl' m' v, Wm k W vr vl' m' → Calls Tryz.prog 44 #[.pointer (some ⟨k.br, 0, none⟩), .int .i64 rd, .int .u32 v] W fun e w' => e = .returned (.tuple #[]) ∧ Wm k w' vr vl' (setD m' rd v) ∧ Chw k vr vl' vr vl' W w') := fun W vl' m' v hW => wset_c hW rd v h1
  clear h er
  generalize m.regs.getD n1 0 = a at *
  generalize m.regs.getD n2 0 = b at *
  have CW1 := Lib.hid (fun w => rwrap_c (a + imm) w (by omega) (by omega))
  have CW2 := Lib.hid (fun w => rwrap_c (m.pc + 4) w (by omega) (by omega))
  have hat := wd_bd (a + imm)
  have hnx := wd_bd (m.pc + 4)
  unfold U32 at hat hnx
  generalize hATg : wd (a + imm) = AT at *
  generalize hNXg : wd (m.pc + 4) = NX at *
  have HAT := Lib.hid hATg
  have HNX := Lib.hid hNXg
  clear hATg hNXg
  generalize reckP (longP op) a (wd imm) = v at *
  generalize wd imm = VI at *
  go_enter Tryz.func31, Tryz.ntmps31
  go_wp2_with fail
  go_quiet (fail)
  obtain ⟨W1, hW1⟩ : ∃ W1, W1 = (w.alloc (.cells #[.int .i64 op, .int .i64 rd, .int .i64 (n1 : Int), .int .i64 (n2 : Int), .int .i64 imm] 68)).drewN nq := ⟨_, rfl⟩
  rw [← hW1]
  have B1 : Hid (Below w.heap.size w W1) := by rw [hW1]; exact (vbelow1 w _).trans ((below_drewN3 _ nq).mono (by simp))
  have hh : W1.heap[w.heap.size]? = some (.cells #[.int .i64 op, .int .i64 rd, .int .i64 (n1 : Int), .int .i64 (n2 : Int), .int .i64 imm] 68 (0, 0)) := by rw [hW1]; exact heap_alloc_new w _
  clear hW1 ca cb cV
  have lr : w.heap.size < W1.heap.size := (Array.getElem?_eq_some_iff.1 hh).1
  have M1 := Lib.hid (H.out.grow B1.out)
  have C1 : Hid (Chw k vr vl vr vl w W1) := Chw.of_below B1.out
  have i0 := cell_of_heap hh 0
  have i1 := cell_of_heap hh 1
  have i4 := cell_of_heap hh 4
  simp only [List.getElem?_toArray, List.getElem?_cons_zero, List.getElem?_cons_succ] at i0 i1 i4
  clear hh
  have cP : W1.cell? ⟨k.br, 4, none⟩ = some (.int .i64 m.pc) := M1.out.c 4 (by decide)
  have lb := M1.out.brLt.2
  go_wp2_with (first | (go_at_call 43; (with_reducible refine (CW1.out _).mono ?_); rintro e w1 ⟨rfl, rfl⟩) | (go_at_call 43; (with_reducible refine (CW2.out _).mono ?_); rintro e w1 ⟨rfl, rfl⟩))
  have i0 : W1.drew.cell? ⟨w.heap.size, 0, none⟩ = _ := i0
  have i1 : W1.drew.cell? ⟨w.heap.size, 1, none⟩ = _ := i1
  have i4 : W1.drew.cell? ⟨w.heap.size, 4, none⟩ = _ := i4
  have cP : W1.drew.cell? ⟨k.br, 4, none⟩ = _ := cP
  have lr : w.heap.size < W1.drew.heap.size := lr
  have lb : k.br < W1.drew.heap.size := lb
  refine wp_region_game (fun x => x = w.heap.size ∨ x = k.br) (by kernel_rfl) ?_
  show wpE _ _ _ _ _ _ _ W1.drew
  have M1 := Lib.hid (M1.out.grow (Below.drew (Below.refl W1.heap.size W1)))
  have C1 := Lib.hid (C1.out.trans (Chw.of_below (k := k) (vr := vr) (vl := vl) (Below.drew (Below.refl W1.heap.size W1))))
  generalize W1.drew = W1 at *
  refine E_mob2s [0, 1, 2, 3, 4, 5, 6, 7] _ _ _ _ (by kernel_rfl) ?_
  simp only [List.map_cons, List.map_nil, List.getElem?_toArray, List.getElem?_cons_succ, List.getElem?_cons_zero, Option.getD_some, List.size_toArray, List.length_cons, List.length_nil, Nat.reduceAdd, Nat.reduceSub]
  repeat (go_big_quiet_step (fail))
  refine wpQuiet_nil ?_
  refine E_loud1 8 _ rfl (by kernel_rfl) ?_
  simp only [List.getElem_toArray, List.getElem_cons_succ, List.getElem_cons_zero]
  go_wp2_with fail
  refine (CC.out _).mono ?_
  rintro e w4 ⟨rfl, rfl⟩
  go_wp2_with fail
  refine ⟨Keep.refl _ _, ?_⟩
  refine E_loud1 9 _ rfl (by kernel_rfl) ?_
  simp only [List.getElem_toArray, List.getElem_cons_succ, List.getElem_cons_zero]
  go_wp2_with fail
  refine (CR.out _).mono ?_
  rintro e w4 ⟨rfl, hb⟩
  go_wp2_with fail
  refine ⟨vkeep hb (fun x hx => by rcases hx with rfl | rfl <;> assumption), ?_⟩
  have M1 := Lib.hid (M1.out.grow hb)
  have C1 := Lib.hid (C1.out.trans (Chw.of_below (k := k) (vr := vr) (vl := vl) hb))
  clear hb
  refine E_last 10 _ rfl (by kernel_rfl) ?_
  simp only [List.getElem_toArray, List.getElem_cons_succ, List.getElem_cons_zero]
  go_wp2_with fail
  refine (HSET.out _ vl m (v) M1.out).mono ?_
  rintro e w5 ⟨rfl, M5, C5⟩
  have M5 := Lib.hid M5
  have C5 := Lib.hid (C1.out.trans C5)
  go_wp2_with fail
  refine E_done (by kernel_rfl) ?_ _
  have cP : w5.cell? ⟨k.br, 4, none⟩ = some (.int .i64 _) := M5.out.c 4 (by decide)
  have fP := M5.out.fz 4
  have lb := M5.out.brLt.2
  go_wp2_with fail
  go_ret
  obtain ⟨u1, u2⟩ := M5.out.setPc (NX)
  exact ⟨vl, rfl, u1, C5.out.trans u2⟩
theorem wdo_reg (h : Wm k w vr vl m) (hm : Dok m) (op rd imm : Int) (n1 n2 : Nat) (h1 : 0 ≤ rd ∧ rd < 32) (h2 : n1 < 32) (h3 : n2 < 32) (hi : -4294967296 ≤ imm ∧ imm < 4294967296) (ho : 28 ≤ op) (ho' : op ≤ 45) :
    Calls Tryz.prog 31 #[.pointer (some ⟨k.br, 0, none⟩), .agg #[.int .i64 op, .int .i64 rd, .int .i64 (n1 : Int), .int .i64 (n2 : Int), .int .i64 imm]] w fun e w' => ∃ vl', e = .returned (.bool true) ∧ Wm k w' vr vl' { setD m rd (reckP op (m.regs.getD n1 0) (m.regs.getD n2 0)) with pc := wd (m.pc + 4) } ∧ Chw k vr vl vr vl' w w' := by
  have CR := Lib.hid (fun w => rreckon_c op (m.regs.getD n1 0) (m.regs.getD n2 0) w (by omega) (by omega) (hm.rb n1).1 (hm.rb n1).2 (hm.rb n2).1 (hm.rb n2).2)
  have eL : longP op = op := by
    unfold longP
    repeat rw [if_neg (by omega)]
  rw [eL] at CR
  have ge1 : (op == 1) = false := beq_eq_false_iff_ne.2 (by omega)
  have ge2 : (op == 2) = false := beq_eq_false_iff_ne.2 (by omega)
  have ge3 : (op == 3) = false := beq_eq_false_iff_ne.2 (by omega)
  have ge4 : (op == 4) = false := beq_eq_false_iff_ne.2 (by omega)
  have go : decide (op ≤ 10) = false := decide_eq_false (by omega)
  have go2 : decide (op ≤ 15) = false := decide_eq_false (by omega)
  have go3 : decide (op ≤ 18) = false := decide_eq_false (by omega)
  have go4 : decide (op ≤ 27) = false := decide_eq_false (by omega)
  clear eL
  have H := Lib.hid h
  obtain ⟨g, gc, er, -, lg, -, hcap⟩ := h.rF
  obtain ⟨ca, -, -⟩ := h.cR er n1 h2
  obtain ⟨cb, -, -⟩ := h.cR er n2 h3
  have hab := hm.rb n1
  have hbb := hm.rb n2
  have cV : w.cell? ⟨k.br, 3, none⟩ = some vr := h.c 3 (by decide)
  rw [er] at cV
  have lb := h.brLt.2
  have hpb := hm.pb
  have HSET : Hid (∀ W vl' m' v, Wm k W vr vl' m' → Calls Tryz.prog 44 #[.pointer (some ⟨k.br, 0, none⟩), .int .i64 rd, .int .u32 v] W fun e w' => e = .returned (.tuple #[]) ∧ Wm k w' vr vl' (setD m' rd v) ∧ Chw k vr vl' vr vl' W w') := fun W vl' m' v hW => wset_c hW rd v h1
  clear h er
  generalize m.regs.getD n1 0 = a at *
  generalize m.regs.getD n2 0 = b at *
  have CW1 := Lib.hid (fun w => rwrap_c (a + imm) w (by omega) (by omega))
  have CW2 := Lib.hid (fun w => rwrap_c (m.pc + 4) w (by omega) (by omega))
  have hat := wd_bd (a + imm)
  have hnx := wd_bd (m.pc + 4)
  unfold U32 at hat hnx
  generalize hATg : wd (a + imm) = AT at *
  generalize hNXg : wd (m.pc + 4) = NX at *
  have HAT := Lib.hid hATg
  have HNX := Lib.hid hNXg
  clear hATg hNXg
  generalize reckP op a b = v at *
  go_enter Tryz.func31, Tryz.ntmps31
  go_wp2_with fail
  go_quiet (fail)
  obtain ⟨W1, hW1⟩ : ∃ W1, W1 = (w.alloc (.cells #[.int .i64 op, .int .i64 rd, .int .i64 (n1 : Int), .int .i64 (n2 : Int), .int .i64 imm] 68)).drewN nq := ⟨_, rfl⟩
  rw [← hW1]
  have B1 : Hid (Below w.heap.size w W1) := by rw [hW1]; exact (vbelow1 w _).trans ((below_drewN3 _ nq).mono (by simp))
  have hh : W1.heap[w.heap.size]? = some (.cells #[.int .i64 op, .int .i64 rd, .int .i64 (n1 : Int), .int .i64 (n2 : Int), .int .i64 imm] 68 (0, 0)) := by rw [hW1]; exact heap_alloc_new w _
  clear hW1 ca cb cV
  have lr : w.heap.size < W1.heap.size := (Array.getElem?_eq_some_iff.1 hh).1
  have M1 := Lib.hid (H.out.grow B1.out)
  have C1 : Hid (Chw k vr vl vr vl w W1) := Chw.of_below B1.out
  have i0 := cell_of_heap hh 0
  have i1 := cell_of_heap hh 1
  have i4 := cell_of_heap hh 4
  simp only [List.getElem?_toArray, List.getElem?_cons_zero, List.getElem?_cons_succ] at i0 i1 i4
  clear hh
  have cP : W1.cell? ⟨k.br, 4, none⟩ = some (.int .i64 m.pc) := M1.out.c 4 (by decide)
  have lb := M1.out.brLt.2
  go_wp2_with (first | (go_at_call 43; (with_reducible refine (CW1.out _).mono ?_); rintro e w1 ⟨rfl, rfl⟩) | (go_at_call 43; (with_reducible refine (CW2.out _).mono ?_); rintro e w1 ⟨rfl, rfl⟩))
  have i0 : W1.drew.cell? ⟨w.heap.size, 0, none⟩ = _ := i0
  have i1 : W1.drew.cell? ⟨w.heap.size, 1, none⟩ = _ := i1
  have i4 : W1.drew.cell? ⟨w.heap.size, 4, none⟩ = _ := i4
  have cP : W1.drew.cell? ⟨k.br, 4, none⟩ = _ := cP
  have lr : w.heap.size < W1.drew.heap.size := lr
  have lb : k.br < W1.drew.heap.size := lb
  refine wp_region_game (fun x => x = w.heap.size ∨ x = k.br) (by kernel_rfl) ?_
  show wpE _ _ _ _ _ _ _ W1.drew
  have M1 := Lib.hid (M1.out.grow (Below.drew (Below.refl W1.heap.size W1)))
  have C1 := Lib.hid (C1.out.trans (Chw.of_below (k := k) (vr := vr) (vl := vl) (Below.drew (Below.refl W1.heap.size W1))))
  generalize W1.drew = W1 at *
  refine E_mob2s [0, 1, 2, 3, 4, 5, 6] _ _ _ _ (by kernel_rfl) ?_
  simp only [List.map_cons, List.map_nil, List.getElem?_toArray, List.getElem?_cons_succ, List.getElem?_cons_zero, Option.getD_some, List.size_toArray, List.length_cons, List.length_nil, Nat.reduceAdd, Nat.reduceSub]
  repeat (go_big_quiet_step (fail))
  refine wpQuiet_nil ?_
  refine E_loud1 7 _ rfl (by kernel_rfl) ?_
  simp only [List.getElem_toArray, List.getElem_cons_succ, List.getElem_cons_zero]
  go_wp2_with fail
  refine (CR.out _).mono ?_
  rintro e w4 ⟨rfl, hb⟩
  go_wp2_with fail
  refine ⟨vkeep hb (fun x hx => by rcases hx with rfl | rfl <;> assumption), ?_⟩
  have M1 := Lib.hid (M1.out.grow hb)
  have C1 := Lib.hid (C1.out.trans (Chw.of_below (k := k) (vr := vr) (vl := vl) hb))
  clear hb
  refine E_last 8 _ rfl (by kernel_rfl) ?_
  simp only [List.getElem_toArray, List.getElem_cons_succ, List.getElem_cons_zero]
  go_wp2_with fail
  refine (HSET.out _ vl m (v) M1.out).mono ?_
  rintro e w5 ⟨rfl, M5, C5⟩
  have M5 := Lib.hid M5
  have C5 := Lib.hid (C1.out.trans C5)
  go_wp2_with fail
  refine E_done (by kernel_rfl) ?_ _
  have cP : w5.cell? ⟨k.br, 4, none⟩ = some (.int .i64 _) := M5.out.c 4 (by decide)
  have fP := M5.out.fz 4
  have lb := M5.out.brLt.2
  go_wp2_with fail
  go_ret
  obtain ⟨u1, u2⟩ := M5.out.setPc (NX)
  exact ⟨vl, rfl, u1, C5.out.trans u2⟩
end
end Go.Proofs.YtabmbhhodecmfaaGreat
