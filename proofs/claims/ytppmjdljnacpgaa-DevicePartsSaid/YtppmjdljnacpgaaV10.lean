/-
  The device's step: an instruction done.
-/
import Derived.Test.YtppmjdljnacpgaaV9
import Derived.Test.YtppmjdljnacpgaaV5
import Derived.StillTailTactics
import Derived.RegionTactic
import Derived.ChangeAlike
import Derived.Laws.BitsAllLaws
import Derived.Test.YtppmjdljnacpgaaN2
set_option linter.all false
namespace Go.Proofs.Ytppmjdljnacpgaa
open Go.ChangeShapes Go.WideShapes Go.ChangeAt Go.RowKit
set_option maxHeartbeats 2000000
set_option linter.unusedVariables false
set_option maxRecDepth 20000

theorem and_even (x : Nat) (h : x < 4294967296) : x &&& 4294967294 = x - x % 2 := by
  have h1 : (x &&& 4294967294) / 2 = x / 2 := by
    rw [Nat.and_div_two]
    have := Nat.and_two_pow_sub_one_eq_mod (x / 2) 31
    simp only [Nat.reducePow, Nat.reduceSub] at this
    rw [show 4294967294 / 2 = 2147483647 from rfl, this]
    omega
  have h2 : (x &&& 4294967294) % 2 = 0 := by
    have := Nat.and_mod_two_pow (a := x) (b := 4294967294) (n := 1)
    simp only [Nat.reducePow, Nat.reduceMod, Nat.and_zero] at this
    exact this
  omega
theorem andNot1 (a : Int) (h1 : 0 ≤ a) (h2 : a < 4294967296) : bits .andNot .u32 a 1 = a - a % 2 := by
  rw [Go.u32_andNot a 1 h1 h2 (by decide) (by decide)]
  have := and_even a.toNat (by omega)
  rw [show 4294967295 - (1 : Int).toNat = 4294967294 from rfl, this]
  omega
structure IvOk (i : Iv) : Prop where
  op : 1 ≤ i.op ∧ i.op ≤ 45
  rd : 0 ≤ i.rd ∧ i.rd < 32
  r1 : 0 ≤ i.rs1 ∧ i.rs1 < 32
  r2 : 0 ≤ i.rs2 ∧ i.rs2 < 32
  im : -4294967296 ≤ i.imm ∧ i.imm < 4294967296
def wrD (m : Dv) (r v : Int) : Dv := { m with regs := m.regs.set r.toNat v }
/-- does an instruction as the device does, register 0 written too; none: it faults -/
def doW (inp : List Int) (m : Dv) (i : Iv) : Option Dv :=
  let a := regD m i.rs1
  let b := regD m i.rs2
  let at' := wd (a + i.imm)
  let next := wd (m.pc + 4)
  if i.op = 1 then some { wrD m i.rd (wd i.imm) with pc := next }
  else if i.op = 2 then some { wrD m i.rd (wd (m.pc + i.imm)) with pc := next }
  else if i.op = 3 then some { wrD m i.rd next with pc := wd (m.pc + i.imm) }
  else if i.op = 4 then some { wrD m i.rd next with pc := at' - at' % 2 }
  else if i.op ≤ 10 then some { m with pc := if takenP i.op a b = true then wd (m.pc + i.imm) else next }
  else if i.op ≤ 15 then (match loadD inp m i.op at' with | none => none | some v => some { wrD m i.rd v with pc := next })
  else if i.op ≤ 18 then (match storeD m i.op at' b with | none => none | some m' => some { m' with pc := next })
  else if i.op ≤ 27 then some { wrD m i.rd (reckP (longP i.op) a (wd i.imm)) with pc := next }
  else some { wrD m i.rd (reckP i.op a b) with pc := next }
section
variable {k : VK} {w : World} {vl : Value} {m : Dv} {ts : List Mt}
theorem vdo_1 (h : Vm k w vl m ts) (hm : Dok m) (imm : Int) (rd n1 n2 : Nat) (h1 : rd < 32) (h2 : n1 < 32) (h3 : n2 < 32) (hi : -4294967296 ≤ imm ∧ imm < 4294967296) :
    Calls Try.prog 55 #[.pointer (some ⟨k.bm, 0, none⟩), .agg #[.int .i64 1, .int .i64 (rd : Int), .int .i64 (n1 : Int), .int .i64 (n2 : Int), .int .i64 imm]] w fun e w' => ∃ vl', e = .returned (.bool true) ∧ Vm k w' vl' { wrD m rd (wd imm) with pc := wd (m.pc + 4) } ts ∧ Chv k vl vl' w w' := by
  have H := Lib.hid h
  have ca := h.cR n1 h2
  have cb := h.cR n2 h3
  have lb := h.bmLt.2
  clear h
  generalize m.regs.getD n1 0 = a at *
  generalize m.regs.getD n2 0 = b at *
  go_enter Try.func55, Try.ntmps55
  go_wp2_with fail
  go_quiet (fail)
  obtain ⟨W1, hW1⟩ : ∃ W1, W1 = (w.alloc (.cells #[.int .i64 1, .int .i64 (rd : Int), .int .i64 (n1 : Int), .int .i64 (n2 : Int), .int .i64 imm] 23)).drewN nq := ⟨_, rfl⟩
  rw [← hW1]
  have B1 : Hid (Below w.heap.size w W1) := by rw [hW1]; exact (vbelow1 w _).trans ((below_drewN3 _ nq).mono (by simp))
  have hh : W1.heap[w.heap.size]? = some (.cells #[.int .i64 1, .int .i64 (rd : Int), .int .i64 (n1 : Int), .int .i64 (n2 : Int), .int .i64 imm] 23 (0, 0)) := by rw [hW1]; exact heap_alloc_new w _
  clear hW1 ca cb
  have lr : w.heap.size < W1.heap.size := (Array.getElem?_eq_some_iff.1 hh).1
  have M1 := Lib.hid (H.out.grow B1.out)
  have C1 : Hid (Chv k vl vl w W1) := Chv.of_below B1.out
  have i0 := cell_of_heap hh 0
  have i1 := cell_of_heap hh 1
  have i2 := cell_of_heap hh 2
  have i3 := cell_of_heap hh 3
  have i4 := cell_of_heap hh 4
  simp only [List.getElem?_toArray, List.getElem?_cons_zero, List.getElem?_cons_succ] at i0 i1 i2 i3 i4
  clear hh
  have cP := M1.out.c 0 (by decide)
  simp only [List.getElem?_cons_zero] at cP
  have lb := M1.out.bmLt.2
  go_wp2_with fail
  have cP : W1.drew.cell? ⟨k.bm, 32, none⟩ = some (.int .u32 m.pc) := cP
  have i0 : W1.drew.cell? ⟨w.heap.size, 0, none⟩ = _ := i0
  have i1 : W1.drew.cell? ⟨w.heap.size, 1, none⟩ = _ := i1
  have lr : w.heap.size < W1.drew.heap.size := lr
  have lb : k.bm < W1.drew.heap.size := lb
  have cR : W1.drew.cell? ⟨k.bm, rd, none⟩ = _ := M1.out.cR rd h1
  have fR : W1.drew.frozen? ⟨k.bm, rd, none⟩ = false := M1.out.fz rd
  have fP : W1.drew.frozen? ⟨k.bm, 32, none⟩ = false := M1.out.fz 32
  have h1i : ((rd : Nat) : Int) < 32 := by omega
  have h1j : (0 : Int) ≤ ((rd : Nat) : Int) := by omega
  have h1n : rd ≠ 32 := by omega
  have h1m : 32 ≠ rd := by omega
  refine wp_region_still_tail 8 (by kernel_rfl) (by kernel_rfl) ?_
  simp only [List.take_succ_cons, List.take_zero, List.drop_succ_cons, List.drop_zero]
  change wpStill _ _ W1.drew (fun a' => wpList _ _ _ _ a' W1.drew) _ _
  have MD := Lib.hid (M1.out.grow (Below.drew (Below.refl W1.heap.size W1)))
  have CD := Lib.hid (C1.out.trans (Chv.of_below (k := k) (vl := vl) (Below.drew (Below.refl W1.heap.size W1))))
  clear M1 C1 i2 i3 i4
  generalize W1.drew = W2 at *
  repeat still_step
  refine wpStill_nil ?_
  go_wp2_with fail
  go_ret
  obtain ⟨s1, s2⟩ := MD.out.setR rd h1 (imm % 4294967296)
  obtain ⟨u1, u2⟩ := s1.setPc ((m.pc + 4) % 4294967296)
  have u := And.intro u1 (CD.out.trans (s2.trans u2))
  exact ⟨vl, rfl, u⟩
theorem vdo_2 (h : Vm k w vl m ts) (hm : Dok m) (imm : Int) (rd n1 n2 : Nat) (h1 : rd < 32) (h2 : n1 < 32) (h3 : n2 < 32) (hi : -4294967296 ≤ imm ∧ imm < 4294967296) :
    Calls Try.prog 55 #[.pointer (some ⟨k.bm, 0, none⟩), .agg #[.int .i64 2, .int .i64 (rd : Int), .int .i64 (n1 : Int), .int .i64 (n2 : Int), .int .i64 imm]] w fun e w' => ∃ vl', e = .returned (.bool true) ∧ Vm k w' vl' { wrD m rd (wd (m.pc + imm)) with pc := wd (m.pc + 4) } ts ∧ Chv k vl vl' w w' := by
  have H := Lib.hid h
  have ca := h.cR n1 h2
  have cb := h.cR n2 h3
  have lb := h.bmLt.2
  clear h
  generalize m.regs.getD n1 0 = a at *
  generalize m.regs.getD n2 0 = b at *
  go_enter Try.func55, Try.ntmps55
  go_wp2_with fail
  go_quiet (fail)
  obtain ⟨W1, hW1⟩ : ∃ W1, W1 = (w.alloc (.cells #[.int .i64 2, .int .i64 (rd : Int), .int .i64 (n1 : Int), .int .i64 (n2 : Int), .int .i64 imm] 23)).drewN nq := ⟨_, rfl⟩
  rw [← hW1]
  have B1 : Hid (Below w.heap.size w W1) := by rw [hW1]; exact (vbelow1 w _).trans ((below_drewN3 _ nq).mono (by simp))
  have hh : W1.heap[w.heap.size]? = some (.cells #[.int .i64 2, .int .i64 (rd : Int), .int .i64 (n1 : Int), .int .i64 (n2 : Int), .int .i64 imm] 23 (0, 0)) := by rw [hW1]; exact heap_alloc_new w _
  clear hW1 ca cb
  have lr : w.heap.size < W1.heap.size := (Array.getElem?_eq_some_iff.1 hh).1
  have M1 := Lib.hid (H.out.grow B1.out)
  have C1 : Hid (Chv k vl vl w W1) := Chv.of_below B1.out
  have i0 := cell_of_heap hh 0
  have i1 := cell_of_heap hh 1
  have i2 := cell_of_heap hh 2
  have i3 := cell_of_heap hh 3
  have i4 := cell_of_heap hh 4
  simp only [List.getElem?_toArray, List.getElem?_cons_zero, List.getElem?_cons_succ] at i0 i1 i2 i3 i4
  clear hh
  have cP := M1.out.c 0 (by decide)
  simp only [List.getElem?_cons_zero] at cP
  have lb := M1.out.bmLt.2
  go_wp2_with fail
  have cP : W1.drew.cell? ⟨k.bm, 32, none⟩ = some (.int .u32 m.pc) := cP
  have i0 : W1.drew.cell? ⟨w.heap.size, 0, none⟩ = _ := i0
  have i1 : W1.drew.cell? ⟨w.heap.size, 1, none⟩ = _ := i1
  have lr : w.heap.size < W1.drew.heap.size := lr
  have lb : k.bm < W1.drew.heap.size := lb
  have cR : W1.drew.cell? ⟨k.bm, rd, none⟩ = _ := M1.out.cR rd h1
  have fR : W1.drew.frozen? ⟨k.bm, rd, none⟩ = false := M1.out.fz rd
  have fP : W1.drew.frozen? ⟨k.bm, 32, none⟩ = false := M1.out.fz 32
  have h1i : ((rd : Nat) : Int) < 32 := by omega
  have h1j : (0 : Int) ≤ ((rd : Nat) : Int) := by omega
  have h1n : rd ≠ 32 := by omega
  have h1m : 32 ≠ rd := by omega
  refine wp_region_still_tail 14 (by kernel_rfl) (by kernel_rfl) ?_
  simp only [List.take_succ_cons, List.take_zero, List.drop_succ_cons, List.drop_zero]
  change wpStill _ _ W1.drew (fun a' => wpList _ _ _ _ a' W1.drew) _ _
  have MD := Lib.hid (M1.out.grow (Below.drew (Below.refl W1.heap.size W1)))
  have CD := Lib.hid (C1.out.trans (Chv.of_below (k := k) (vl := vl) (Below.drew (Below.refl W1.heap.size W1))))
  clear M1 C1 i2 i3 i4
  generalize W1.drew = W2 at *
  repeat still_step
  refine wpStill_nil ?_
  go_wp2_with fail
  go_ret
  obtain ⟨s1, s2⟩ := MD.out.setR rd h1 ((m.pc + imm) % 4294967296)
  obtain ⟨u1, u2⟩ := s1.setPc ((m.pc + 4) % 4294967296)
  have u := And.intro u1 (CD.out.trans (s2.trans u2))
  exact ⟨vl, rfl, u⟩
theorem vdo_3 (h : Vm k w vl m ts) (hm : Dok m) (imm : Int) (rd n1 n2 : Nat) (h1 : rd < 32) (h2 : n1 < 32) (h3 : n2 < 32) (hi : -4294967296 ≤ imm ∧ imm < 4294967296) :
    Calls Try.prog 55 #[.pointer (some ⟨k.bm, 0, none⟩), .agg #[.int .i64 3, .int .i64 (rd : Int), .int .i64 (n1 : Int), .int .i64 (n2 : Int), .int .i64 imm]] w fun e w' => ∃ vl', e = .returned (.bool true) ∧ Vm k w' vl' { wrD m rd (wd (m.pc + 4)) with pc := wd (m.pc + imm) } ts ∧ Chv k vl vl' w w' := by
  have H := Lib.hid h
  have ca := h.cR n1 h2
  have cb := h.cR n2 h3
  have lb := h.bmLt.2
  clear h
  generalize m.regs.getD n1 0 = a at *
  generalize m.regs.getD n2 0 = b at *
  go_enter Try.func55, Try.ntmps55
  go_wp2_with fail
  go_quiet (fail)
  obtain ⟨W1, hW1⟩ : ∃ W1, W1 = (w.alloc (.cells #[.int .i64 3, .int .i64 (rd : Int), .int .i64 (n1 : Int), .int .i64 (n2 : Int), .int .i64 imm] 23)).drewN nq := ⟨_, rfl⟩
  rw [← hW1]
  have B1 : Hid (Below w.heap.size w W1) := by rw [hW1]; exact (vbelow1 w _).trans ((below_drewN3 _ nq).mono (by simp))
  have hh : W1.heap[w.heap.size]? = some (.cells #[.int .i64 3, .int .i64 (rd : Int), .int .i64 (n1 : Int), .int .i64 (n2 : Int), .int .i64 imm] 23 (0, 0)) := by rw [hW1]; exact heap_alloc_new w _
  clear hW1 ca cb
  have lr : w.heap.size < W1.heap.size := (Array.getElem?_eq_some_iff.1 hh).1
  have M1 := Lib.hid (H.out.grow B1.out)
  have C1 : Hid (Chv k vl vl w W1) := Chv.of_below B1.out
  have i0 := cell_of_heap hh 0
  have i1 := cell_of_heap hh 1
  have i2 := cell_of_heap hh 2
  have i3 := cell_of_heap hh 3
  have i4 := cell_of_heap hh 4
  simp only [List.getElem?_toArray, List.getElem?_cons_zero, List.getElem?_cons_succ] at i0 i1 i2 i3 i4
  clear hh
  have cP := M1.out.c 0 (by decide)
  simp only [List.getElem?_cons_zero] at cP
  have lb := M1.out.bmLt.2
  go_wp2_with fail
  have cR := M1.out.cR rd h1
  have fR := M1.out.fz rd
  have fP := M1.out.fz 32
  have h1i : ((rd : Nat) : Int) < 32 := by omega
  have h1j : (0 : Int) ≤ ((rd : Nat) : Int) := by omega
  have h1n : rd ≠ 32 := by omega
  have h1m : 32 ≠ rd := by omega
  have MD := M1
  have CD := C1
  clear i2 i3 i4
  go_region
  all_goals (go_wp2_with fail)
  go_ret
  obtain ⟨s1, s2⟩ := MD.out.setR rd h1 ((m.pc + 4) % 4294967296)
  obtain ⟨u1, u2⟩ := s1.setPc ((m.pc + imm) % 4294967296)
  have u := And.intro u1 (CD.out.trans (s2.trans u2))
  exact ⟨vl, rfl, u.1.grow (Below.drew (Below.refl _ _)), u.2.trans (Chv.of_below (Below.drew (Below.refl _ _)))⟩
theorem vdo_4 (h : Vm k w vl m ts) (hm : Dok m) (imm : Int) (rd n1 n2 : Nat) (h1 : rd < 32) (h2 : n1 < 32) (h3 : n2 < 32) (hi : -4294967296 ≤ imm ∧ imm < 4294967296) :
    Calls Try.prog 55 #[.pointer (some ⟨k.bm, 0, none⟩), .agg #[.int .i64 4, .int .i64 (rd : Int), .int .i64 (n1 : Int), .int .i64 (n2 : Int), .int .i64 imm]] w fun e w' => ∃ vl', e = .returned (.bool true) ∧ Vm k w' vl' { wrD m rd (wd (m.pc + 4)) with pc := wd (m.regs.getD n1 0 + imm) - wd (m.regs.getD n1 0 + imm) % 2 } ts ∧ Chv k vl vl' w w' := by
  rw [← andNot1 _ (by unfold wd; omega) (by unfold wd; omega)]
  have H := Lib.hid h
  have ca := h.cR n1 h2
  have cb := h.cR n2 h3
  have lb := h.bmLt.2
  clear h
  generalize m.regs.getD n1 0 = a at *
  generalize m.regs.getD n2 0 = b at *
  go_enter Try.func55, Try.ntmps55
  go_wp2_with fail
  go_quiet (fail)
  obtain ⟨W1, hW1⟩ : ∃ W1, W1 = (w.alloc (.cells #[.int .i64 4, .int .i64 (rd : Int), .int .i64 (n1 : Int), .int .i64 (n2 : Int), .int .i64 imm] 23)).drewN nq := ⟨_, rfl⟩
  rw [← hW1]
  have B1 : Hid (Below w.heap.size w W1) := by rw [hW1]; exact (vbelow1 w _).trans ((below_drewN3 _ nq).mono (by simp))
  have hh : W1.heap[w.heap.size]? = some (.cells #[.int .i64 4, .int .i64 (rd : Int), .int .i64 (n1 : Int), .int .i64 (n2 : Int), .int .i64 imm] 23 (0, 0)) := by rw [hW1]; exact heap_alloc_new w _
  clear hW1 ca cb
  have lr : w.heap.size < W1.heap.size := (Array.getElem?_eq_some_iff.1 hh).1
  have M1 := Lib.hid (H.out.grow B1.out)
  have C1 : Hid (Chv k vl vl w W1) := Chv.of_below B1.out
  have i0 := cell_of_heap hh 0
  have i1 := cell_of_heap hh 1
  have i2 := cell_of_heap hh 2
  have i3 := cell_of_heap hh 3
  have i4 := cell_of_heap hh 4
  simp only [List.getElem?_toArray, List.getElem?_cons_zero, List.getElem?_cons_succ] at i0 i1 i2 i3 i4
  clear hh
  have cP := M1.out.c 0 (by decide)
  simp only [List.getElem?_cons_zero] at cP
  have lb := M1.out.bmLt.2
  go_wp2_with fail
  have cR := M1.out.cR rd h1
  have fR := M1.out.fz rd
  have fP := M1.out.fz 32
  have h1i : ((rd : Nat) : Int) < 32 := by omega
  have h1j : (0 : Int) ≤ ((rd : Nat) : Int) := by omega
  have h1n : rd ≠ 32 := by omega
  have h1m : 32 ≠ rd := by omega
  have MD := M1
  have CD := C1
  clear i2 i3 i4
  go_region
  all_goals (go_wp2_with fail)
  go_ret
  obtain ⟨s1, s2⟩ := MD.out.setR rd h1 ((m.pc + 4) % 4294967296)
  obtain ⟨u1, u2⟩ := s1.setPc (bits .andNot .u32 ((a + imm) % 4294967296) 1)
  have u := And.intro u1 (CD.out.trans (s2.trans u2))
  exact ⟨vl, rfl, u.1.grow (Below.drew (Below.refl _ _)), u.2.trans (Chv.of_below (Below.drew (Below.refl _ _)))⟩
theorem vdo_branch (h : Vm k w vl m ts) (hm : Dok m) (op imm : Int) (rd n1 n2 : Nat) (h1 : rd < 32) (h2 : n1 < 32) (h3 : n2 < 32) (hi : -4294967296 ≤ imm ∧ imm < 4294967296) (ho : 5 ≤ op) (ho' : op ≤ 10) :
    Calls Try.prog 55 #[.pointer (some ⟨k.bm, 0, none⟩), .agg #[.int .i64 op, .int .i64 (rd : Int), .int .i64 (n1 : Int), .int .i64 (n2 : Int), .int .i64 imm]] w fun e w' => ∃ vl', e = .returned (.bool true) ∧ Vm k w' vl' { m with pc := if takenP op (m.regs.getD n1 0) (m.regs.getD n2 0) = true then wd (m.pc + imm) else wd (m.pc + 4) } ts ∧ Chv k vl vl' w w' := by
  have CB := Lib.hid (fun w => branches_c op (m.regs.getD n1 0) (m.regs.getD n2 0) w ho ho' (hm.rb n1).1 (hm.rb n1).2 (hm.rb n2).1 (hm.rb n2).2)
  have ge1 : (op == 1) = false := beq_eq_false_iff_ne.2 (by omega)
  have ge2 : (op == 2) = false := beq_eq_false_iff_ne.2 (by omega)
  have ge3 : (op == 3) = false := beq_eq_false_iff_ne.2 (by omega)
  have ge4 : (op == 4) = false := beq_eq_false_iff_ne.2 (by omega)
  have go : decide (op ≤ 10) = true := decide_eq_true ho'
  have H := Lib.hid h
  have ca := h.cR n1 h2
  have cb := h.cR n2 h3
  have lb := h.bmLt.2
  clear h
  generalize m.regs.getD n1 0 = a at *
  generalize m.regs.getD n2 0 = b at *
  generalize takenP op a b = tk at *
  cases tk
  · go_enter Try.func55, Try.ntmps55
    go_wp2_with fail
    go_quiet (fail)
    obtain ⟨W1, hW1⟩ : ∃ W1, W1 = (w.alloc (.cells #[.int .i64 op, .int .i64 (rd : Int), .int .i64 (n1 : Int), .int .i64 (n2 : Int), .int .i64 imm] 23)).drewN nq := ⟨_, rfl⟩
    rw [← hW1]
    have B1 : Hid (Below w.heap.size w W1) := by rw [hW1]; exact (vbelow1 w _).trans ((below_drewN3 _ nq).mono (by simp))
    have hh : W1.heap[w.heap.size]? = some (.cells #[.int .i64 op, .int .i64 (rd : Int), .int .i64 (n1 : Int), .int .i64 (n2 : Int), .int .i64 imm] 23 (0, 0)) := by rw [hW1]; exact heap_alloc_new w _
    clear hW1 ca cb
    have lr : w.heap.size < W1.heap.size := (Array.getElem?_eq_some_iff.1 hh).1
    have M1 := Lib.hid (H.out.grow B1.out)
    have C1 : Hid (Chv k vl vl w W1) := Chv.of_below B1.out
    have i0 := cell_of_heap hh 0
    have i1 := cell_of_heap hh 1
    have i2 := cell_of_heap hh 2
    have i3 := cell_of_heap hh 3
    have i4 := cell_of_heap hh 4
    simp only [List.getElem?_toArray, List.getElem?_cons_zero, List.getElem?_cons_succ] at i0 i1 i2 i3 i4
    clear hh
    have cP := M1.out.c 0 (by decide)
    simp only [List.getElem?_cons_zero] at cP
    have lb := M1.out.bmLt.2
    have lb := M1.out.bmLt.2
    have fP : W1.frozen? ⟨k.bm, 32, none⟩ = false := M1.out.fz 32
    go_wp2_with (go_at_call 56; (with_reducible refine (CB.out _).mono ?_); rintro e w1 ⟨rfl, rfl⟩)
    go_ret
    obtain ⟨u1, u2⟩ := M1.out.setPc ((m.pc + 4) % 4294967296)
    first | exact ⟨vl, rfl, u1, C1.out.trans u2⟩ | exact ⟨rfl, vl, u1, C1.out.trans u2⟩
  · go_enter Try.func55, Try.ntmps55
    go_wp2_with fail
    go_quiet (fail)
    obtain ⟨W1, hW1⟩ : ∃ W1, W1 = (w.alloc (.cells #[.int .i64 op, .int .i64 (rd : Int), .int .i64 (n1 : Int), .int .i64 (n2 : Int), .int .i64 imm] 23)).drewN nq := ⟨_, rfl⟩
    rw [← hW1]
    have B1 : Hid (Below w.heap.size w W1) := by rw [hW1]; exact (vbelow1 w _).trans ((below_drewN3 _ nq).mono (by simp))
    have hh : W1.heap[w.heap.size]? = some (.cells #[.int .i64 op, .int .i64 (rd : Int), .int .i64 (n1 : Int), .int .i64 (n2 : Int), .int .i64 imm] 23 (0, 0)) := by rw [hW1]; exact heap_alloc_new w _
    clear hW1 ca cb
    have lr : w.heap.size < W1.heap.size := (Array.getElem?_eq_some_iff.1 hh).1
    have M1 := Lib.hid (H.out.grow B1.out)
    have C1 : Hid (Chv k vl vl w W1) := Chv.of_below B1.out
    have i0 := cell_of_heap hh 0
    have i1 := cell_of_heap hh 1
    have i2 := cell_of_heap hh 2
    have i3 := cell_of_heap hh 3
    have i4 := cell_of_heap hh 4
    simp only [List.getElem?_toArray, List.getElem?_cons_zero, List.getElem?_cons_succ] at i0 i1 i2 i3 i4
    clear hh
    have cP := M1.out.c 0 (by decide)
    simp only [List.getElem?_cons_zero] at cP
    have lb := M1.out.bmLt.2
    have lb := M1.out.bmLt.2
    have fP : W1.frozen? ⟨k.bm, 32, none⟩ = false := M1.out.fz 32
    go_wp2_with (go_at_call 56; (with_reducible refine (CB.out _).mono ?_); rintro e w1 ⟨rfl, rfl⟩)
    go_ret
    obtain ⟨u1, u2⟩ := M1.out.setPc ((m.pc + imm) % 4294967296)
    first | exact ⟨vl, rfl, u1, C1.out.trans u2⟩ | exact ⟨rfl, vl, u1, C1.out.trans u2⟩
theorem vdo_load (h : Vm k w vl m ts) (hk : k.ok) (hm : Dok m) (op imm : Int) (rd n1 n2 : Nat) (h1 : rd < 32) (h2 : n1 < 32) (h3 : n2 < 32) (hi : -4294967296 ≤ imm ∧ imm < 4294967296) (ho : 11 ≤ op) (ho' : op ≤ 15) :
    Calls Try.prog 55 #[.pointer (some ⟨k.bm, 0, none⟩), .agg #[.int .i64 op, .int .i64 (rd : Int), .int .i64 (n1 : Int), .int .i64 (n2 : Int), .int .i64 imm]] w fun e w' => ∃ vl', e = .returned (.bool (loadD k.inp m op (wd (m.regs.getD n1 0 + imm))).isSome) ∧ Vm k w' vl' (match loadD k.inp m op (wd (m.regs.getD n1 0 + imm)) with | none => m | some v => { wrD m rd v with pc := wd (m.pc + 4) }) ts ∧ Chv k vl vl' w w' := by
  have CL : Hid (∀ W, Vm k W vl m ts → Calls Try.prog 57 #[.pointer (some ⟨k.bm, 0, none⟩), .int .i64 op, .int .u32 ((m.regs.getD n1 0 + imm) % 4294967296)] W fun e w' => e = .returned (ldv (loadD k.inp m op (wd (m.regs.getD n1 0 + imm)))) ∧ Below W.heap.size W w') := fun W hW => vload_c op _ hW hk hm (by omega) (by omega) ho ho'
  have ge1 : (op == 1) = false := beq_eq_false_iff_ne.2 (by omega)
  have ge2 : (op == 2) = false := beq_eq_false_iff_ne.2 (by omega)
  have ge3 : (op == 3) = false := beq_eq_false_iff_ne.2 (by omega)
  have ge4 : (op == 4) = false := beq_eq_false_iff_ne.2 (by omega)
  have go : decide (op ≤ 10) = false := decide_eq_false (by omega)
  have go2 : decide (op ≤ 15) = true := decide_eq_true ho'
  have H := Lib.hid h
  have ca := h.cR n1 h2
  have cb := h.cR n2 h3
  have lb := h.bmLt.2
  clear h
  generalize m.regs.getD n1 0 = a at *
  generalize m.regs.getD n2 0 = b at *
  generalize loadD k.inp m op (wd (a + imm)) = ld at *
  cases ld with
  | none =>
    have CL : Hid (∀ W, Vm k W vl m ts → Calls Try.prog 57 #[.pointer (some ⟨k.bm, 0, none⟩), .int .i64 op, .int .u32 ((a + imm) % 4294967296)] W fun e w' => e = .returned (.tuple #[.int .u32 0, .bool false]) ∧ Below W.heap.size W w') := CL
    go_enter Try.func55, Try.ntmps55
    go_wp2_with fail
    go_quiet (fail)
    obtain ⟨W1, hW1⟩ : ∃ W1, W1 = (w.alloc (.cells #[.int .i64 op, .int .i64 (rd : Int), .int .i64 (n1 : Int), .int .i64 (n2 : Int), .int .i64 imm] 23)).drewN nq := ⟨_, rfl⟩
    rw [← hW1]
    have B1 : Hid (Below w.heap.size w W1) := by rw [hW1]; exact (vbelow1 w _).trans ((below_drewN3 _ nq).mono (by simp))
    have hh : W1.heap[w.heap.size]? = some (.cells #[.int .i64 op, .int .i64 (rd : Int), .int .i64 (n1 : Int), .int .i64 (n2 : Int), .int .i64 imm] 23 (0, 0)) := by rw [hW1]; exact heap_alloc_new w _
    clear hW1 ca cb
    have lr : w.heap.size < W1.heap.size := (Array.getElem?_eq_some_iff.1 hh).1
    have M1 := Lib.hid (H.out.grow B1.out)
    have C1 : Hid (Chv k vl vl w W1) := Chv.of_below B1.out
    have i0 := cell_of_heap hh 0
    have i1 := cell_of_heap hh 1
    have i2 := cell_of_heap hh 2
    have i3 := cell_of_heap hh 3
    have i4 := cell_of_heap hh 4
    simp only [List.getElem?_toArray, List.getElem?_cons_zero, List.getElem?_cons_succ] at i0 i1 i2 i3 i4
    clear hh
    have cP := M1.out.c 0 (by decide)
    simp only [List.getElem?_cons_zero] at cP
    have lb := M1.out.bmLt.2
    go_wp2_with (go_at_call 57; (with_reducible refine (CL.out _ M1.out).mono ?_); rintro e w1 ⟨rfl, hb⟩)
    go_ret
    exact ⟨vl, rfl, M1.out.grow hb, C1.out.trans (Chv.of_below hb)⟩
  | some v =>
    have CL : Hid (∀ W, Vm k W vl m ts → Calls Try.prog 57 #[.pointer (some ⟨k.bm, 0, none⟩), .int .i64 op, .int .u32 ((a + imm) % 4294967296)] W fun e w' => e = .returned (.tuple #[.int .u32 v, .bool true]) ∧ Below W.heap.size W w') := CL
    go_enter Try.func55, Try.ntmps55
    go_wp2_with fail
    go_quiet (fail)
    obtain ⟨W1, hW1⟩ : ∃ W1, W1 = (w.alloc (.cells #[.int .i64 op, .int .i64 (rd : Int), .int .i64 (n1 : Int), .int .i64 (n2 : Int), .int .i64 imm] 23)).drewN nq := ⟨_, rfl⟩
    rw [← hW1]
    have B1 : Hid (Below w.heap.size w W1) := by rw [hW1]; exact (vbelow1 w _).trans ((below_drewN3 _ nq).mono (by simp))
    have hh : W1.heap[w.heap.size]? = some (.cells #[.int .i64 op, .int .i64 (rd : Int), .int .i64 (n1 : Int), .int .i64 (n2 : Int), .int .i64 imm] 23 (0, 0)) := by rw [hW1]; exact heap_alloc_new w _
    clear hW1 ca cb
    have lr : w.heap.size < W1.heap.size := (Array.getElem?_eq_some_iff.1 hh).1
    have M1 := Lib.hid (H.out.grow B1.out)
    have C1 : Hid (Chv k vl vl w W1) := Chv.of_below B1.out
    have i0 := cell_of_heap hh 0
    have i1 := cell_of_heap hh 1
    have i2 := cell_of_heap hh 2
    have i3 := cell_of_heap hh 3
    have i4 := cell_of_heap hh 4
    simp only [List.getElem?_toArray, List.getElem?_cons_zero, List.getElem?_cons_succ] at i0 i1 i2 i3 i4
    clear hh
    have cP := M1.out.c 0 (by decide)
    simp only [List.getElem?_cons_zero] at cP
    have lb := M1.out.bmLt.2
    go_wp2_with (go_at_call 57; (with_reducible refine (CL.out _ M1.out).mono ?_); rintro e w1 ⟨rfl, hb⟩)
    have M1 := Lib.hid (M1.out.grow hb)
    have C1 := Lib.hid (C1.out.trans (Chv.of_below (k := k) (vl := vl) hb))
    have i0 := (hb.cell (p := ⟨w.heap.size, 0, none⟩) lr).trans i0
    have i1 := (hb.cell (p := ⟨w.heap.size, 1, none⟩) lr).trans i1
    have cP := (hb.cell (p := ⟨k.bm, 32, none⟩) lb).trans cP
    have lr : w.heap.size < w1.heap.size := Nat.lt_of_lt_of_le lr hb.size
    have lb := M1.out.bmLt.2
    clear hb
    go_wp2_with fail
    have cP : w1.drew.cell? ⟨k.bm, 32, none⟩ = some (.int .u32 m.pc) := cP
    have i0 : w1.drew.cell? ⟨w.heap.size, 0, none⟩ = _ := i0
    have i1 : w1.drew.cell? ⟨w.heap.size, 1, none⟩ = _ := i1
    have lr : w.heap.size < w1.drew.heap.size := lr
    have lb : k.bm < w1.drew.heap.size := lb
    have cR : w1.drew.cell? ⟨k.bm, rd, none⟩ = _ := M1.out.cR rd h1
    have fR : w1.drew.frozen? ⟨k.bm, rd, none⟩ = false := M1.out.fz rd
    have fP : w1.drew.frozen? ⟨k.bm, 32, none⟩ = false := M1.out.fz 32
    have h1i : ((rd : Nat) : Int) < 32 := by omega
    have h1j : (0 : Int) ≤ ((rd : Nat) : Int) := by omega
    have h1n : rd ≠ 32 := by omega
    have h1m : 32 ≠ rd := by omega
    refine wp_region_still_tail 8 (by kernel_rfl) (by kernel_rfl) ?_
    simp only [List.take_succ_cons, List.take_zero, List.drop_succ_cons, List.drop_zero]
    change wpStill _ _ w1.drew (fun a' => wpList _ _ _ _ a' w1.drew) _ _
    have MD := Lib.hid (M1.out.grow (Below.drew (Below.refl w1.heap.size w1)))
    have CD := Lib.hid (C1.out.trans (Chv.of_below (k := k) (vl := vl) (Below.drew (Below.refl w1.heap.size w1))))
    clear M1 C1 i2 i3 i4
    generalize w1.drew = W2 at *
    repeat still_step
    refine wpStill_nil ?_
    go_wp2_with fail
    go_ret
    obtain ⟨s1, s2⟩ := MD.out.setR rd h1 (v)
    obtain ⟨u1, u2⟩ := s1.setPc ((m.pc + 4) % 4294967296)
    have u := And.intro u1 (CD.out.trans (s2.trans u2))
    exact ⟨vl, rfl, u⟩
theorem vdo_store (h : Vm k w vl m ts) (hm : Dok m) (hs : m.steps ≤ 1000000) (op imm : Int) (rd n1 n2 : Nat) (h1 : rd < 32) (h2 : n1 < 32) (h3 : n2 < 32) (hi : -4294967296 ≤ imm ∧ imm < 4294967296) (ho : 16 ≤ op) (ho' : op ≤ 18) :
    Calls Try.prog 55 #[.pointer (some ⟨k.bm, 0, none⟩), .agg #[.int .i64 op, .int .i64 (rd : Int), .int .i64 (n1 : Int), .int .i64 (n2 : Int), .int .i64 imm]] w fun e w' => ∃ vl', e = .returned (.bool (storeD m op (wd (m.regs.getD n1 0 + imm)) (m.regs.getD n2 0)).isSome) ∧ Vm k w' vl' (match storeD m op (wd (m.regs.getD n1 0 + imm)) (m.regs.getD n2 0) with | none => m | some m' => { m' with pc := wd (m.pc + 4) }) ts ∧ Chv k vl vl' w w' := by
  have CL : Hid (∀ W, Vm k W vl m ts → Calls Try.prog 58 #[.pointer (some ⟨k.bm, 0, none⟩), .int .i64 op, .int .u32 ((m.regs.getD n1 0 + imm) % 4294967296), .int .u32 (m.regs.getD n2 0)] W fun e w' => ∃ vl', e = .returned (.bool (storeD m op (wd (m.regs.getD n1 0 + imm)) (m.regs.getD n2 0)).isSome) ∧ Vm k w' vl' ((storeD m op (wd (m.regs.getD n1 0 + imm)) (m.regs.getD n2 0)).getD m) ts ∧ Chv k vl vl' W w') := fun W hW => vstore_c op _ _ hW hm hs (by omega) (by omega) (hm.rb n2).1 (hm.rb n2).2 ho ho'
  have ge1 : (op == 1) = false := beq_eq_false_iff_ne.2 (by omega)
  have ge2 : (op == 2) = false := beq_eq_false_iff_ne.2 (by omega)
  have ge3 : (op == 3) = false := beq_eq_false_iff_ne.2 (by omega)
  have ge4 : (op == 4) = false := beq_eq_false_iff_ne.2 (by omega)
  have go : decide (op ≤ 10) = false := decide_eq_false (by omega)
  have go2 : decide (op ≤ 15) = false := decide_eq_false (by omega)
  have go3 : decide (op ≤ 18) = true := decide_eq_true ho'
  have H := Lib.hid h
  have ca := h.cR n1 h2
  have cb := h.cR n2 h3
  have lb := h.bmLt.2
  clear h
  generalize m.regs.getD n1 0 = a at *
  generalize m.regs.getD n2 0 = b at *
  generalize storeD m op (wd (a + imm)) b = st at *
  cases st with
  | none =>
    have CL : Hid (∀ W, Vm k W vl m ts → Calls Try.prog 58 #[.pointer (some ⟨k.bm, 0, none⟩), .int .i64 op, .int .u32 ((a + imm) % 4294967296), .int .u32 b] W fun e w' => ∃ vl', e = .returned (.bool false) ∧ Vm k w' vl' m ts ∧ Chv k vl vl' W w') := CL
    go_enter Try.func55, Try.ntmps55
    go_wp2_with fail
    go_quiet (fail)
    obtain ⟨W1, hW1⟩ : ∃ W1, W1 = (w.alloc (.cells #[.int .i64 op, .int .i64 (rd : Int), .int .i64 (n1 : Int), .int .i64 (n2 : Int), .int .i64 imm] 23)).drewN nq := ⟨_, rfl⟩
    rw [← hW1]
    have B1 : Hid (Below w.heap.size w W1) := by rw [hW1]; exact (vbelow1 w _).trans ((below_drewN3 _ nq).mono (by simp))
    have hh : W1.heap[w.heap.size]? = some (.cells #[.int .i64 op, .int .i64 (rd : Int), .int .i64 (n1 : Int), .int .i64 (n2 : Int), .int .i64 imm] 23 (0, 0)) := by rw [hW1]; exact heap_alloc_new w _
    clear hW1 ca cb
    have lr : w.heap.size < W1.heap.size := (Array.getElem?_eq_some_iff.1 hh).1
    have M1 := Lib.hid (H.out.grow B1.out)
    have C1 : Hid (Chv k vl vl w W1) := Chv.of_below B1.out
    have i0 := cell_of_heap hh 0
    have i1 := cell_of_heap hh 1
    have i2 := cell_of_heap hh 2
    have i3 := cell_of_heap hh 3
    have i4 := cell_of_heap hh 4
    simp only [List.getElem?_toArray, List.getElem?_cons_zero, List.getElem?_cons_succ] at i0 i1 i2 i3 i4
    clear hh
    have cP := M1.out.c 0 (by decide)
    simp only [List.getElem?_cons_zero] at cP
    have lb := M1.out.bmLt.2
    go_wp2_with (go_at_call 58; (with_reducible refine (CL.out _ M1.out).mono ?_); rintro e w1 ⟨vl', rfl, hv, hc⟩)
    go_ret
    exact ⟨vl', rfl, hv, C1.out.trans hc⟩
  | some m' =>
    have CL : Hid (∀ W, Vm k W vl m ts → Calls Try.prog 58 #[.pointer (some ⟨k.bm, 0, none⟩), .int .i64 op, .int .u32 ((a + imm) % 4294967296), .int .u32 b] W fun e w' => ∃ vl', e = .returned (.bool true) ∧ Vm k w' vl' m' ts ∧ Chv k vl vl' W w') := CL
    go_enter Try.func55, Try.ntmps55
    go_wp2_with fail
    go_quiet (fail)
    obtain ⟨W1, hW1⟩ : ∃ W1, W1 = (w.alloc (.cells #[.int .i64 op, .int .i64 (rd : Int), .int .i64 (n1 : Int), .int .i64 (n2 : Int), .int .i64 imm] 23)).drewN nq := ⟨_, rfl⟩
    rw [← hW1]
    have B1 : Hid (Below w.heap.size w W1) := by rw [hW1]; exact (vbelow1 w _).trans ((below_drewN3 _ nq).mono (by simp))
    have hh : W1.heap[w.heap.size]? = some (.cells #[.int .i64 op, .int .i64 (rd : Int), .int .i64 (n1 : Int), .int .i64 (n2 : Int), .int .i64 imm] 23 (0, 0)) := by rw [hW1]; exact heap_alloc_new w _
    clear hW1 ca cb
    have lr : w.heap.size < W1.heap.size := (Array.getElem?_eq_some_iff.1 hh).1
    have M1 := Lib.hid (H.out.grow B1.out)
    have C1 : Hid (Chv k vl vl w W1) := Chv.of_below B1.out
    have i0 := cell_of_heap hh 0
    have i1 := cell_of_heap hh 1
    have i2 := cell_of_heap hh 2
    have i3 := cell_of_heap hh 3
    have i4 := cell_of_heap hh 4
    simp only [List.getElem?_toArray, List.getElem?_cons_zero, List.getElem?_cons_succ] at i0 i1 i2 i3 i4
    clear hh
    have cP := M1.out.c 0 (by decide)
    simp only [List.getElem?_cons_zero] at cP
    have lb := M1.out.bmLt.2
    go_wp2_with (go_at_call 58; (with_reducible refine (CL.out _ M1.out).mono ?_); rintro e w1 ⟨vl', rfl, hv, hc⟩; have cQ : w1.cell? ⟨k.bm, 32, none⟩ = some (.int .u32 m'.pc) := hv.c 0 (by decide); have fQ : w1.frozen? ⟨k.bm, 32, none⟩ = false := hv.fz 32; have lq := hv.bmLt.2)
    go_ret
    obtain ⟨u1, u2⟩ := hv.setPc ((m.pc + 4) % 4294967296)
    exact ⟨vl', rfl, u1, C1.out.trans (hc.trans u2)⟩
theorem vdo_imm (h : Vm k w vl m ts) (hm : Dok m) (op imm : Int) (rd n1 n2 : Nat) (h1 : rd < 32) (h2 : n1 < 32) (h3 : n2 < 32) (hi : -4294967296 ≤ imm ∧ imm < 4294967296) (ho : 19 ≤ op) (ho' : op ≤ 27) :
    Calls Try.prog 55 #[.pointer (some ⟨k.bm, 0, none⟩), .agg #[.int .i64 op, .int .i64 (rd : Int), .int .i64 (n1 : Int), .int .i64 (n2 : Int), .int .i64 imm]] w fun e w' => ∃ vl', e = .returned (.bool true) ∧ Vm k w' vl' { wrD m rd (reckP (longP op) (m.regs.getD n1 0) (wd imm)) with pc := wd (m.pc + 4) } ts ∧ Chv k vl vl' w w' := by
  have CR := Lib.hid (fun w => reckoned_c op (m.regs.getD n1 0) (imm % 4294967296) w ho (by omega) (hm.rb n1).1 (hm.rb n1).2 (by omega) (by omega))
  have CR : Hid (∀ w, Calls Try.prog 59 #[.int .i64 op, .int .u32 (m.regs.getD n1 0), .int .u32 (imm % 4294967296)] w fun e w' => e = .returned (.int .u32 (reckP (longP op) (m.regs.getD n1 0) (wd imm))) ∧ w = w') := CR
  have ge1 : (op == 1) = false := beq_eq_false_iff_ne.2 (by omega)
  have ge2 : (op == 2) = false := beq_eq_false_iff_ne.2 (by omega)
  have ge3 : (op == 3) = false := beq_eq_false_iff_ne.2 (by omega)
  have ge4 : (op == 4) = false := beq_eq_false_iff_ne.2 (by omega)
  have go : decide (op ≤ 10) = false := decide_eq_false (by omega)
  have go2 : decide (op ≤ 15) = false := decide_eq_false (by omega)
  have go3 : decide (op ≤ 18) = false := decide_eq_false (by omega)
  have go4 : decide (op ≤ 27) = true := decide_eq_true ho'
  have H := Lib.hid h
  have ca := h.cR n1 h2
  have cb := h.cR n2 h3
  have lb := h.bmLt.2
  clear h
  generalize m.regs.getD n1 0 = a at *
  generalize m.regs.getD n2 0 = b at *
  generalize reckP (longP op) a (wd imm) = v at *
  go_enter Try.func55, Try.ntmps55
  go_wp2_with fail
  go_quiet (fail)
  obtain ⟨W1, hW1⟩ : ∃ W1, W1 = (w.alloc (.cells #[.int .i64 op, .int .i64 (rd : Int), .int .i64 (n1 : Int), .int .i64 (n2 : Int), .int .i64 imm] 23)).drewN nq := ⟨_, rfl⟩
  rw [← hW1]
  have B1 : Hid (Below w.heap.size w W1) := by rw [hW1]; exact (vbelow1 w _).trans ((below_drewN3 _ nq).mono (by simp))
  have hh : W1.heap[w.heap.size]? = some (.cells #[.int .i64 op, .int .i64 (rd : Int), .int .i64 (n1 : Int), .int .i64 (n2 : Int), .int .i64 imm] 23 (0, 0)) := by rw [hW1]; exact heap_alloc_new w _
  clear hW1 ca cb
  have lr : w.heap.size < W1.heap.size := (Array.getElem?_eq_some_iff.1 hh).1
  have M1 := Lib.hid (H.out.grow B1.out)
  have C1 : Hid (Chv k vl vl w W1) := Chv.of_below B1.out
  have i0 := cell_of_heap hh 0
  have i1 := cell_of_heap hh 1
  have i2 := cell_of_heap hh 2
  have i3 := cell_of_heap hh 3
  have i4 := cell_of_heap hh 4
  simp only [List.getElem?_toArray, List.getElem?_cons_zero, List.getElem?_cons_succ] at i0 i1 i2 i3 i4
  clear hh
  have cP := M1.out.c 0 (by decide)
  simp only [List.getElem?_cons_zero] at cP
  have lb := M1.out.bmLt.2
  go_wp2_with fail
  have cP : W1.drew.cell? ⟨k.bm, 32, none⟩ = some (.int .u32 m.pc) := cP
  have i0 : W1.drew.cell? ⟨w.heap.size, 0, none⟩ = _ := i0
  have i1 : W1.drew.cell? ⟨w.heap.size, 1, none⟩ = _ := i1
  have lr : w.heap.size < W1.drew.heap.size := lr
  have lb : k.bm < W1.drew.heap.size := lb
  have cR : W1.drew.cell? ⟨k.bm, rd, none⟩ = _ := M1.out.cR rd h1
  have fR : W1.drew.frozen? ⟨k.bm, rd, none⟩ = false := M1.out.fz rd
  have fP : W1.drew.frozen? ⟨k.bm, 32, none⟩ = false := M1.out.fz 32
  have h1i : ((rd : Nat) : Int) < 32 := by omega
  have h1n : rd ≠ 32 := by omega
  have h1m : 32 ≠ rd := by omega
  refine wp_region_game (fun x => x = w.heap.size ∨ x = k.bm) (by kernel_rfl) ?_
  show wpE _ _ _ _ _ _ _ W1.drew
  have MD := Lib.hid (M1.out.grow (Below.drew (Below.refl W1.heap.size W1)))
  have CD := Lib.hid (C1.out.trans (Chv.of_below (k := k) (vl := vl) (Below.drew (Below.refl W1.heap.size W1))))
  clear M1 C1 i2 i3 i4
  generalize W1.drew = W2 at *
  refine E_mob2s [0, 1, 2, 3, 4, 5, 6, 8, 9, 10] _ _ _ _ (by kernel_rfl) ?_
  simp only [List.map_cons, List.map_nil, List.getElem?_toArray, List.getElem?_cons_succ, List.getElem?_cons_zero, Option.getD_some, List.size_toArray, List.length_cons, List.length_nil, Nat.reduceAdd, Nat.reduceSub]
  repeat (go_big_quiet_step (fail))
  refine wpQuiet_nil ?_
  refine E_loud1 7 _ rfl (by kernel_rfl) ?_
  simp only [List.getElem_toArray, List.getElem_cons_succ, List.getElem_cons_zero]
  go_wp2_with fail
  refine (CR.out _).mono ?_
  rintro e w5 ⟨rfl, rfl⟩
  go_wp2_with fail
  refine ⟨Keep.refl _ _, ?_⟩
  refine E_mob2s [11] _ _ _ _ (by kernel_rfl) ?_
  simp only [List.map_cons, List.map_nil, List.getElem?_toArray, List.getElem?_cons_succ, List.getElem?_cons_zero, Option.getD_some, List.size_toArray, List.length_cons, List.length_nil, Nat.reduceAdd, Nat.reduceSub]
  repeat (go_big_quiet_step (fail))
  refine wpQuiet_nil ?_
  refine E_last 12 _ rfl (by kernel_rfl) ?_
  simp only [List.getElem_toArray, List.getElem_cons_succ, List.getElem_cons_zero]
  go_wp2_with fail
  refine E_done (by kernel_rfl) ?_ _
  go_wp2_with fail
  go_ret
  obtain ⟨s1, s2⟩ := MD.out.setR rd h1 (v)
  obtain ⟨u1, u2⟩ := s1.setPc ((m.pc + 4) % 4294967296)
  have u := And.intro u1 (CD.out.trans (s2.trans u2))
  exact ⟨vl, rfl, u⟩
theorem vdo_reg (h : Vm k w vl m ts) (hm : Dok m) (op imm : Int) (rd n1 n2 : Nat) (h1 : rd < 32) (h2 : n1 < 32) (h3 : n2 < 32) (hi : -4294967296 ≤ imm ∧ imm < 4294967296) (ho : 28 ≤ op) (ho' : op ≤ 45) :
    Calls Try.prog 55 #[.pointer (some ⟨k.bm, 0, none⟩), .agg #[.int .i64 op, .int .i64 (rd : Int), .int .i64 (n1 : Int), .int .i64 (n2 : Int), .int .i64 imm]] w fun e w' => ∃ vl', e = .returned (.bool true) ∧ Vm k w' vl' { wrD m rd (reckP op (m.regs.getD n1 0) (m.regs.getD n2 0)) with pc := wd (m.pc + 4) } ts ∧ Chv k vl vl' w w' := by
  have CR := Lib.hid (fun w => reckoned_c op (m.regs.getD n1 0) (m.regs.getD n2 0) w (by omega) (by omega) (hm.rb n1).1 (hm.rb n1).2 (hm.rb n2).1 (hm.rb n2).2)
  have eL : longP op = op := by
    unfold longP
    repeat rw [if_neg (by omega)]
  rw [eL] at CR
  have ge1 : (op == 1) = false := beq_eq_false_iff_ne.2 (by omega)
  have ge2 : (op == 2) = false := beq_eq_false_iff_ne.2 (by omega)
  have ge3 : (op == 3) = false := beq_eq_false_iff_ne.2 (by omega)
  have ge4 : (op == 4) = false := beq_eq_false_iff_ne.2 (by omega)
  have go : decide (op ≤ 10) = false := decide_eq_false (by omega)
  have go2 : decide (op ≤ 15) = false := decide_eq_false (by omega)
  have go3 : decide (op ≤ 18) = false := decide_eq_false (by omega)
  have go4 : decide (op ≤ 27) = false := decide_eq_false (by omega)
  clear eL
  have H := Lib.hid h
  have ca := h.cR n1 h2
  have cb := h.cR n2 h3
  have lb := h.bmLt.2
  clear h
  generalize m.regs.getD n1 0 = a at *
  generalize m.regs.getD n2 0 = b at *
  generalize reckP op a b = v at *
  go_enter Try.func55, Try.ntmps55
  go_wp2_with fail
  go_quiet (fail)
  obtain ⟨W1, hW1⟩ : ∃ W1, W1 = (w.alloc (.cells #[.int .i64 op, .int .i64 (rd : Int), .int .i64 (n1 : Int), .int .i64 (n2 : Int), .int .i64 imm] 23)).drewN nq := ⟨_, rfl⟩
  rw [← hW1]
  have B1 : Hid (Below w.heap.size w W1) := by rw [hW1]; exact (vbelow1 w _).trans ((below_drewN3 _ nq).mono (by simp))
  have hh : W1.heap[w.heap.size]? = some (.cells #[.int .i64 op, .int .i64 (rd : Int), .int .i64 (n1 : Int), .int .i64 (n2 : Int), .int .i64 imm] 23 (0, 0)) := by rw [hW1]; exact heap_alloc_new w _
  clear hW1 ca cb
  have lr : w.heap.size < W1.heap.size := (Array.getElem?_eq_some_iff.1 hh).1
  have M1 := Lib.hid (H.out.grow B1.out)
  have C1 : Hid (Chv k vl vl w W1) := Chv.of_below B1.out
  have i0 := cell_of_heap hh 0
  have i1 := cell_of_heap hh 1
  have i2 := cell_of_heap hh 2
  have i3 := cell_of_heap hh 3
  have i4 := cell_of_heap hh 4
  simp only [List.getElem?_toArray, List.getElem?_cons_zero, List.getElem?_cons_succ] at i0 i1 i2 i3 i4
  clear hh
  have cP := M1.out.c 0 (by decide)
  simp only [List.getElem?_cons_zero] at cP
  have lb := M1.out.bmLt.2
  go_wp2_with fail
  have cP : W1.drew.cell? ⟨k.bm, 32, none⟩ = some (.int .u32 m.pc) := cP
  have i0 : W1.drew.cell? ⟨w.heap.size, 0, none⟩ = _ := i0
  have i1 : W1.drew.cell? ⟨w.heap.size, 1, none⟩ = _ := i1
  have lr : w.heap.size < W1.drew.heap.size := lr
  have lb : k.bm < W1.drew.heap.size := lb
  have cR : W1.drew.cell? ⟨k.bm, rd, none⟩ = _ := M1.out.cR rd h1
  have fR : W1.drew.frozen? ⟨k.bm, rd, none⟩ = false := M1.out.fz rd
  have fP : W1.drew.frozen? ⟨k.bm, 32, none⟩ = false := M1.out.fz 32
  have h1i : ((rd : Nat) : Int) < 32 := by omega
  have h1n : rd ≠ 32 := by omega
  have h1m : 32 ≠ rd := by omega
  refine wp_region_game (fun x => x = w.heap.size ∨ x = k.bm) (by kernel_rfl) ?_
  show wpE _ _ _ _ _ _ _ W1.drew
  have MD := Lib.hid (M1.out.grow (Below.drew (Below.refl W1.heap.size W1)))
  have CD := Lib.hid (C1.out.trans (Chv.of_below (k := k) (vl := vl) (Below.drew (Below.refl W1.heap.size W1))))
  clear M1 C1 i2 i3 i4
  generalize W1.drew = W2 at *
  refine E_mob2s [0, 1, 2, 3, 4, 5, 6, 8, 9, 10] _ _ _ _ (by kernel_rfl) ?_
  simp only [List.map_cons, List.map_nil, List.getElem?_toArray, List.getElem?_cons_succ, List.getElem?_cons_zero, Option.getD_some, List.size_toArray, List.length_cons, List.length_nil, Nat.reduceAdd, Nat.reduceSub]
  repeat (go_big_quiet_step (fail))
  refine wpQuiet_nil ?_
  refine E_loud1 7 _ rfl (by kernel_rfl) ?_
  simp only [List.getElem_toArray, List.getElem_cons_succ, List.getElem_cons_zero]
  go_wp2_with fail
  refine (CR.out _).mono ?_
  rintro e w5 ⟨rfl, rfl⟩
  go_wp2_with fail
  refine ⟨Keep.refl _ _, ?_⟩
  refine E_mob2s [11] _ _ _ _ (by kernel_rfl) ?_
  simp only [List.map_cons, List.map_nil, List.getElem?_toArray, List.getElem?_cons_succ, List.getElem?_cons_zero, Option.getD_some, List.size_toArray, List.length_cons, List.length_nil, Nat.reduceAdd, Nat.reduceSub]
  repeat (go_big_quiet_step (fail))
  refine wpQuiet_nil ?_
  refine E_last 12 _ rfl (by kernel_rfl) ?_
  simp only [List.getElem_toArray, List.getElem_cons_succ, List.getElem_cons_zero]
  go_wp2_with fail
  refine E_done (by kernel_rfl) ?_ _
  go_wp2_with fail
  go_ret
  obtain ⟨s1, s2⟩ := MD.out.setR rd h1 (v)
  obtain ⟨u1, u2⟩ := s1.setPc ((m.pc + 4) % 4294967296)
  have u := And.intro u1 (CD.out.trans (s2.trans u2))
  exact ⟨vl, rfl, u⟩
end
end Go.Proofs.Ytppmjdljnacpgaa
