/-
 Contracts of (*irrun.runner).ins: loads, stores, places, what is put out and taken.
-/
import Derived.Test.YtchoiankeohonaaGreatDoorZInlineAll11
import Derived.Test.YtchoiankeohonaaGreatDoorZInlineAll07
set_option linter.all false
namespace Go.Proofs.YtchoiankeohonaaGreatDoor
open Go.ChangeShapes Go.WideShapes Go.ChangeAt Go.RowKit
set_option maxHeartbeats 4000000
set_option linter.unusedVariables false
set_option maxRecDepth 20000

section
variable {k : RK} {p : Pr} {bf bg c : Nat} {nm : ByteArray} {vob vbl vat : Value} {low : Int} {w w' : World} {vo vo' : Value} {regs : List Int} {s s' : RS}
theorem Kp.keepX {S : Nat → Prop} (h : Kp k vo vo' w w') (hS : ∀ b, S b → b ≠ k.br ∧ b ≠ k.bm ∧ some b ≠ vo.ownBlock) : KeepX S w w' := fun b o v hb hv =>
 h.cell (hS b hb).1 (hS b hb).2.1 (hS b hb).2.2 hv
/-- the frame's own blocks and a box made since -/
def SB (bf bg bx : Nat) (b : Nat) : Prop := b = bf ∨ b = bg ∨ b = bx
theorem SB1 (bf bg bx : Nat) : SB bf bg bx bf := .inl rfl
theorem SB2 (bf bg bx : Nat) : SB bf bg bx bg := .inr (.inl rfl)
theorem SB3 (bf bg bx : Nat) : SB bf bg bx bx := .inr (.inr rfl)
theorem Fw.sb (f : Fw k p bf bg c nm vob vbl vat low w vo regs) (h : Rn k w vo s) : ∀ b, SB bf bg w.heap.size b → b ≠ k.br ∧ b ≠ k.bm ∧ some b ≠ vo.ownBlock := by
 have hn := f.neR h
 intro b hb
 rcases hb with rfl | rfl | rfl
 ·exact ⟨hn.1, hn.2.1, hn.2.2.1⟩
 ·exact ⟨hn.2.2.2.1, hn.2.2.2.2.1, f.ne⟩
 ·refine ⟨?_, ?_, ?_⟩
  ·have := h.brLt; omega
  ·have := h.bmLt; omega
  ·intro e; have := (own_lt h.oo e.symm).2; omega
/-- the end of a way on which one of the runner's own methods has turned the run -/
theorem fin_run (h : Rn k w vo s) (f : Fw k p bf bg c nm vob vbl vat low w vo regs) {wj w1 wk : World} (hj : Below w.heap.size w wj) (hr : Rn k w1 vo' s') (hk : Kp k vo vo' wj w1) (hb : Below w1.heap.size w1 wk) :
  Rn k wk vo' s' ∧ Fw k p bf bg c nm vob vbl vat low wk vo' regs ∧ Kq k bg vo vo' w wk :=
 ⟨hr.grow hb, ((f.grow hj).keep (h.grow hj) hk).grow hb, (Kq.of_below hj).trans ((hk.q bg).trans ⟨hb.size, .inl rfl, fun b hl _ _ _ _ => hb.block b hl⟩)⟩

theorem ins_5y (h : Rn k w vo s) (f : Fw k p bf bg c nm vob vbl vat low w vo regs) (i : In) (va : Value) (hM : MemOk s.mem) (hop : i.op = 5) (ha : 0 ≤ i.a) (ha2 : i.a < (regs.length : Int)) (hs : i.size = 1 ∨ i.size = 4) (hd : 0 ≤ i.d) (hd2 : i.d < (regs.length : Int)) (hp : placeF (addrM regs i) i.size = true) :
  Calls Tryz.prog 48 #[.pointer (some ⟨k.br, 0, none⟩), .pointer (some ⟨bf, 0, none⟩), iV i va] w (InsPost k p bf bg c nm vob vbl vat low w vo s (insM k.m k.inp p low i regs s.oc)) := by
 unfold iV
 obtain ⟨op, d_, a_, b_, fn, obj, off, size, num, args, log⟩ := i
 dsimp only at *
 subst hop
 obtain ⟨W0, hW0⟩ : ∃ W0, W0 = w.alloc (.cells #[.int .i64 5, .int .i64 d_, .int .i64 a_, .int .i64 b_, .int .i64 fn, .int .i64 obj, .int .i64 off, .int .i64 size, .int .u32 num, va, .bool log] 48) := ⟨_, rfl⟩
 have B0 : Hid (Below w.heap.size w W0) := by rw [hW0]; exact below_alloc w _
 have HW := Lib.hid (heap_of_alloc w (#[.int .i64 5, .int .i64 d_, .int .i64 a_, .int .i64 b_, .int .i64 fn, .int .i64 obj, .int .i64 off, .int .i64 size, .int .u32 num, va, .bool log]) _ hW0)
 have y := fun j => cell_of_heap HW.out j
 have HFN := Lib.hid (fin_set h f)
 have HR := Lib.hid h
 have HF := Lib.hid f
 have lbx : w.heap.size < W0.heap.size := by rw [hW0]; simp
 have lbf : bf < W0.heap.size := by have := f.bfLt; omega
 have lbr : k.br < W0.heap.size := by have := h.brLt; omega
 have x0 := (f.grow B0.out).cR
 have HSX := Lib.hid (fun n hn x => (f.grow B0.out).setC (w := W0) n hn x)
 have HGX := Lib.hid (fun n hn S hS => (f.grow B0.out).getK (w := W0) n hn S hS)
 obtain ⟨n, rfl⟩ := Int.eq_ofNat_of_zero_le hd
 obtain ⟨na, rfl⟩ := Int.eq_ofNat_of_zero_le ha
 obtain ⟨hA0, hA1⟩ := f.word na
 have HGet := Lib.hid (HGX.out na (by omega) (SB bf bg w.heap.size) (SB2 _ _ _))
 have hb1 := SB1 bf bg w.heap.size
 have hb2 := SB2 bf bg w.heap.size
 have hb3 := SB3 bf bg w.heap.size
 have hAD : 0 ≤ (regs.getD na 0 + off) % 4294967296 ∧ (regs.getD na 0 + off) % 4294967296 < 4294967296 := ⟨Int.emod_nonneg _ (by decide), Int.emod_lt_of_pos _ (by decide)⟩
 unfold addrM rg at hp
 dsimp only at hp
 rw [Int.toNat_natCast] at hp
 have HL := Lib.hid (fun wj (hj : Below w.heap.size w wj) => load_yes _ size (h.grow hj) hM hAD.1 hAD.2 hs hp)
 obtain ⟨hX0, hX1⟩ := loadP_bd s.mem hM ((regs.getD na 0 + off) % 4294967296 - 268435456).toNat size.toNat
 have hX2 : loadP s.mem ((regs.getD na 0 + off) % 4294967296 - 268435456).toNat size.toNat < 4294967296 := by
  have : (256 : Int) ^ size.toNat ≤ 4294967296 := by rcases hs with rfl | rfl <;> decide
  omega
 rw [show insM k.m k.inp p low ⟨5, n, na, b_, fn, obj, off, size, num, args, log⟩ regs s.oc = some (regs.set n (loadP s.mem ((regs.getD na 0 + off) % 4294967296 - 268435456).toNat size.toNat), s.oc) by
  rw [insM_5 rfl]
  unfold addrM rg
  dsimp only
  simp only [Int.toNat_natCast]
  rw [if_pos hp]
  rfl]
 generalize hV : loadP s.mem ((regs.getD na 0 + off) % 4294967296 - 268435456).toNat size.toNat = V at *
 have HSet := Lib.hid (HSX.out n (by omega) V)
 clear hV HSX HGX h f hd ha hp hM hs hX1
 generalize regs.getD na 0 = XA at *
 have y1 := y 1
 have y2 := y 2
 have y3 := y 3
 have y4 := y 4
 have y5 := y 5
 have y6 := y 6
 have y7 := y 7
 have y8 := y 8
 simp only [List.getElem?_toArray, List.getElem?_cons_zero, List.getElem?_cons_succ] at y1 y2 y3 y4 y5 y6 y7 y8
 clear y
 go_enter Tryz.func48, Tryz.ntmps48
 go_wp2_with fail
 rw [← hW0]
 clear hW0
 refine wp_region_junk (SB bf bg w.heap.size) (by kernel_rfl) ?_
 refine J_mobs [0, 1, 2, 3, 4, 5, 6, 8, 9, 10, 12, 13] _ _ _ _ (by kernel_rfl) ?_
 simp only [List.map_cons, List.map_nil, List.getElem?_toArray, List.getElem?_cons_succ, List.getElem?_cons_zero, Option.getD_some, List.size_toArray, List.length_cons, List.length_nil, Nat.reduceAdd, Nat.reduceSub]
 repeat (go_big_quiet_step (fail))
 refine wpQuiet_nil ?_
 refine J_call 7 _ (.int .u32 XA) rfl (by kernel_rfl) rfl ?_ ?_
 all_goals simp only [List.getElem_toArray, List.getElem_cons_succ, List.getElem_cons_zero]
 ·intro wk hk
  go_wp2_with fail
  refine (HGet.out wk hk).mono ?_
  rintro e wz ⟨rfl, hb⟩
  go_wp2_with fail
  exact ⟨rfl, hb⟩
 simp only [Act.put, List.setIfInBounds_toArray, List.set_cons_succ, List.set_cons_zero]
 refine J_mobs [11] _ _ _ _ (by kernel_rfl) ?_
 simp only [List.map_cons, List.map_nil, List.getElem?_toArray, List.getElem?_cons_succ, List.getElem?_cons_zero, Option.getD_some, List.size_toArray, List.length_cons, List.length_nil, Nat.reduceAdd, Nat.reduceSub]
 repeat (go_big_quiet_step (fail))
 refine wpQuiet_nil ?_
 refine J_loud1 14 _ rfl (by kernel_rfl) ?_
 simp only [List.getElem_toArray, List.getElem_cons_succ, List.getElem_cons_zero]
 intro wj hj
 go_wp2_with fail
 refine (HL.out wj (B0.out.trans (hj.mono B0.out.size))).mono ?_
 rintro e w1 ⟨rfl, rfl⟩
 go_wp2_with fail
 refine ⟨KeepX.refl _ _, ?_⟩
 refine J_mobs [15, 16, 17, 18, 19] _ _ _ _ (by kernel_rfl) ?_
 simp only [List.map_cons, List.map_nil, List.getElem?_toArray, List.getElem?_cons_succ, List.getElem?_cons_zero, Option.getD_some, List.size_toArray, List.length_cons, List.length_nil, Nat.reduceAdd, Nat.reduceSub]
 repeat (go_big_quiet_step (fail))
 refine wpQuiet_nil ?_
 refine J_done (by kernel_rfl) (fun wk hk => ?_) _
 have B2 : Hid (Below W0.heap.size W0 wk) := hj.trans (hk.mono hj.size)
 clear y1 y2 y3 y4 y5 y6 y7 y8
 clear hj hk x0
 have y := fun j => cell_of_heap ((B2.out.block w.heap.size lbx).trans HW.out) j
 have y1 := y 1
 have y2 := y 2
 have y3 := y 3
 have y4 := y 4
 have y5 := y 5
 have y6 := y 6
 have y7 := y 7
 have y8 := y 8
 simp only [List.getElem?_toArray, List.getElem?_cons_zero, List.getElem?_cons_succ] at y1 y2 y3 y4 y5 y6 y7 y8
 clear y
 have x0 := (HF.out.grow (B0.out.trans (B2.out.mono B0.out.size))).cR
 have lbx2 : w.heap.size < wk.heap.size := Nat.lt_of_lt_of_le lbx B2.out.size
 have lbf2 : bf < wk.heap.size := Nat.lt_of_lt_of_le lbf B2.out.size
 go_wp2_with fail
 refine wp_region_junk (fun _ => True) (by kernel_rfl) ?_
 refine J_mobs [0, 1, 2, 3, 4, 5, 6] _ _ _ _ (by kernel_rfl) ?_
 simp only [List.map_cons, List.map_nil, List.getElem?_toArray, List.getElem?_cons_succ, List.getElem?_cons_zero, Option.getD_some, List.size_toArray, List.length_cons, List.length_nil, Nat.reduceAdd, Nat.reduceSub]
 repeat (go_big_quiet_step (fail))
 refine wpQuiet_nil ?_
 refine J_last 7 _ rfl (by kernel_rfl) ?_
 simp only [List.getElem_toArray, List.getElem_cons_succ, List.getElem_cons_zero]
 intro wj hj
 go_wp2_with fail
 have hj2 : Below W0.heap.size W0 wj := B2.out.trans (hj.mono B2.out.size)
 refine (HSet.out wj hj2).mono ?_
 rintro e wz ⟨⟨u, rfl⟩, hz⟩
 obtain ⟨hr2, hf2, hk2⟩ := HFN.out _ _ (B0.out.trans (hj2.mono B0.out.size)) n _ hX0 hX2 hz
 clear hz
 go_wp2_with fail
 refine J_done (by kernel_rfl) (fun wk hk => ?_) _
 have hr3 := Lib.hid (hr2.grow hk)
 have hf3 := Lib.hid (hf2.grow hk)
 have hk3 := Lib.hid (hk2.trans (Kq.of_below hk))
 clear hr2 hf2 hk2 hk
 go_wp2_with fail
 go_ret
 exact ⟨vo, s, _, hr3.out, hf3.out, hk3.out, rfl, rfl, rfl, rfl, rfl⟩
theorem ins_5n (h : Rn k w vo s) (f : Fw k p bf bg c nm vob vbl vat low w vo regs) (i : In) (va : Value) (hop : i.op = 5) (ha : 0 ≤ i.a) (ha2 : i.a < (regs.length : Int)) (hs : i.size = 1 ∨ i.size = 4) (hp : placeF (addrM regs i) i.size = false) :
  Calls Tryz.prog 48 #[.pointer (some ⟨k.br, 0, none⟩), .pointer (some ⟨bf, 0, none⟩), iV i va] w (InsPost k p bf bg c nm vob vbl vat low w vo s (insM k.m k.inp p low i regs s.oc)) := by
 unfold iV
 obtain ⟨op, d_, a_, b_, fn, obj, off, size, num, args, log⟩ := i
 dsimp only at *
 subst hop
 obtain ⟨W0, hW0⟩ : ∃ W0, W0 = w.alloc (.cells #[.int .i64 5, .int .i64 d_, .int .i64 a_, .int .i64 b_, .int .i64 fn, .int .i64 obj, .int .i64 off, .int .i64 size, .int .u32 num, va, .bool log] 48) := ⟨_, rfl⟩
 have B0 : Hid (Below w.heap.size w W0) := by rw [hW0]; exact below_alloc w _
 have HW := Lib.hid (heap_of_alloc w (#[.int .i64 5, .int .i64 d_, .int .i64 a_, .int .i64 b_, .int .i64 fn, .int .i64 obj, .int .i64 off, .int .i64 size, .int .u32 num, va, .bool log]) _ hW0)
 have y := fun j => cell_of_heap HW.out j
 have HFN := Lib.hid (fin_set h f)
 have HR := Lib.hid h
 have HF := Lib.hid f
 have lbx : w.heap.size < W0.heap.size := by rw [hW0]; simp
 have lbf : bf < W0.heap.size := by have := f.bfLt; omega
 have lbr : k.br < W0.heap.size := by have := h.brLt; omega
 have x0 := (f.grow B0.out).cR
 have HSX := Lib.hid (fun n hn x => (f.grow B0.out).setC (w := W0) n hn x)
 have HGX := Lib.hid (fun n hn S hS => (f.grow B0.out).getK (w := W0) n hn S hS)
 obtain ⟨na, rfl⟩ := Int.eq_ofNat_of_zero_le ha
 have HGet := Lib.hid (HGX.out na (by omega) (SB bf bg w.heap.size) (SB2 _ _ _))
 have hb1 := SB1 bf bg w.heap.size
 have hb2 := SB2 bf bg w.heap.size
 have hb3 := SB3 bf bg w.heap.size
 have hAD : 0 ≤ (regs.getD na 0 + off) % 4294967296 ∧ (regs.getD na 0 + off) % 4294967296 < 4294967296 := ⟨Int.emod_nonneg _ (by decide), Int.emod_lt_of_pos _ (by decide)⟩
 unfold addrM rg at hp
 dsimp only at hp
 rw [Int.toNat_natCast] at hp
 have HL := Lib.hid (fun wj (hj : Below w.heap.size w wj) => load_no _ size (h.grow hj) hAD.1 hAD.2 hs hp)
 rw [show insM k.m k.inp p low ⟨5, d_, na, b_, fn, obj, off, size, num, args, log⟩ regs s.oc = none by
  rw [insM_5 rfl]
  unfold addrM rg
  dsimp only
  simp only [Int.toNat_natCast]
  rw [hp]
  rfl]
 have HSB := Lib.hid (f.sb h)
 clear HSX HGX h f ha hp hs
 generalize regs.getD na 0 = XA at *
 have y1 := y 1
 have y2 := y 2
 have y3 := y 3
 have y4 := y 4
 have y5 := y 5
 have y6 := y 6
 have y7 := y 7
 have y8 := y 8
 simp only [List.getElem?_toArray, List.getElem?_cons_zero, List.getElem?_cons_succ] at y1 y2 y3 y4 y5 y6 y7 y8
 clear y
 go_enter Tryz.func48, Tryz.ntmps48
 go_wp2_with fail
 rw [← hW0]
 clear hW0
 refine wp_region_junk (SB bf bg w.heap.size) (by kernel_rfl) ?_
 refine J_mobs [0, 1, 2, 3, 4, 5, 6, 8, 9, 10, 12, 13] _ _ _ _ (by kernel_rfl) ?_
 simp only [List.map_cons, List.map_nil, List.getElem?_toArray, List.getElem?_cons_succ, List.getElem?_cons_zero, Option.getD_some, List.size_toArray, List.length_cons, List.length_nil, Nat.reduceAdd, Nat.reduceSub]
 repeat (go_big_quiet_step (fail))
 refine wpQuiet_nil ?_
 refine J_call 7 _ (.int .u32 XA) rfl (by kernel_rfl) rfl ?_ ?_
 all_goals simp only [List.getElem_toArray, List.getElem_cons_succ, List.getElem_cons_zero]
 ·intro wk hk
  go_wp2_with fail
  refine (HGet.out wk hk).mono ?_
  rintro e wz ⟨rfl, hb⟩
  go_wp2_with fail
  exact ⟨rfl, hb⟩
 simp only [Act.put, List.setIfInBounds_toArray, List.set_cons_succ, List.set_cons_zero]
 refine J_mobs [11] _ _ _ _ (by kernel_rfl) ?_
 simp only [List.map_cons, List.map_nil, List.getElem?_toArray, List.getElem?_cons_succ, List.getElem?_cons_zero, Option.getD_some, List.size_toArray, List.length_cons, List.length_nil, Nat.reduceAdd, Nat.reduceSub]
 repeat (go_big_quiet_step (fail))
 refine wpQuiet_nil ?_
 refine J_loud1 14 _ rfl (by kernel_rfl) ?_
 simp only [List.getElem_toArray, List.getElem_cons_succ, List.getElem_cons_zero]
 intro wj hj
 go_wp2_with fail
 have hj0 : Below w.heap.size w wj := B0.out.trans (hj.mono B0.out.size)
 refine (HL.out wj hj0).mono ?_
 rintro e w1 ⟨rfl, hr1, hk1⟩
 have hr1 := Lib.hid hr1
 have hk1 := Lib.hid hk1
 go_wp2_with fail
 refine ⟨hk1.out.keepX HSB.out, ?_⟩
 refine J_mobs [15, 16, 17, 18, 19] _ _ _ _ (by kernel_rfl) ?_
 simp only [List.map_cons, List.map_nil, List.getElem?_toArray, List.getElem?_cons_succ, List.getElem?_cons_zero, Option.getD_some, List.size_toArray, List.length_cons, List.length_nil, Nat.reduceAdd, Nat.reduceSub]
 repeat (go_big_quiet_step (fail))
 refine wpQuiet_nil ?_
 refine J_done (by kernel_rfl) (fun wk hk => ?_) _
 obtain ⟨hr3, hf3, hk3⟩ := fin_run HR.out HF.out hj0 hr1.out hk1.out hk
 have hr3 := Lib.hid hr3
 have hf3 := Lib.hid hf3
 have hk3 := Lib.hid hk3
 go_wp2_with fail
 go_ret
 exact ⟨vo, _, regs, hr3.out, hf3.out, hk3.out, rfl, rfl, rfl, rfl⟩
theorem ins_6y (h : Rn k w vo s) (f : Fw k p bf bg c nm vob vbl vat low w vo regs) (i : In) (va : Value) (hop : i.op = 6) (ha : 0 ≤ i.a) (ha2 : i.a < (regs.length : Int)) (hs : i.size = 1 ∨ i.size = 4) (hb : 0 ≤ i.b) (hb2 : i.b < (regs.length : Int)) (hp : placeF (addrM regs i) i.size = true) :
  Calls Tryz.prog 48 #[.pointer (some ⟨k.br, 0, none⟩), .pointer (some ⟨bf, 0, none⟩), iV i va] w (InsPost k p bf bg c nm vob vbl vat low w vo s (insM k.m k.inp p low i regs s.oc)) := by
 unfold iV
 obtain ⟨op, d_, a_, b_, fn, obj, off, size, num, args, log⟩ := i
 dsimp only at *
 subst hop
 obtain ⟨W0, hW0⟩ : ∃ W0, W0 = w.alloc (.cells #[.int .i64 6, .int .i64 d_, .int .i64 a_, .int .i64 b_, .int .i64 fn, .int .i64 obj, .int .i64 off, .int .i64 size, .int .u32 num, va, .bool log] 48) := ⟨_, rfl⟩
 have B0 : Hid (Below w.heap.size w W0) := by rw [hW0]; exact below_alloc w _
 have HW := Lib.hid (heap_of_alloc w (#[.int .i64 6, .int .i64 d_, .int .i64 a_, .int .i64 b_, .int .i64 fn, .int .i64 obj, .int .i64 off, .int .i64 size, .int .u32 num, va, .bool log]) _ hW0)
 have y := fun j => cell_of_heap HW.out j
 have HFN := Lib.hid (fin_set h f)
 have HR := Lib.hid h
 have HF := Lib.hid f
 have lbx : w.heap.size < W0.heap.size := by rw [hW0]; simp
 have lbf : bf < W0.heap.size := by have := f.bfLt; omega
 have lbr : k.br < W0.heap.size := by have := h.brLt; omega
 have x0 := (f.grow B0.out).cR
 have HSX := Lib.hid (fun n hn x => (f.grow B0.out).setC (w := W0) n hn x)
 have HGX := Lib.hid (fun n hn S hS => (f.grow B0.out).getK (w := W0) n hn S hS)
 obtain ⟨na, rfl⟩ := Int.eq_ofNat_of_zero_le ha
 obtain ⟨nb, rfl⟩ := Int.eq_ofNat_of_zero_le hb
 obtain ⟨hB0, hB1⟩ := f.word nb
 have HGet := Lib.hid (HGX.out na (by omega) (SB bf bg w.heap.size) (SB2 _ _ _))
 have HGeu := Lib.hid (HGX.out nb (by omega) (SB bf bg w.heap.size) (SB2 _ _ _))
 have hb1 := SB1 bf bg w.heap.size
 have hb2 := SB2 bf bg w.heap.size
 have hb3 := SB3 bf bg w.heap.size
 have hAD : 0 ≤ (regs.getD na 0 + off) % 4294967296 ∧ (regs.getD na 0 + off) % 4294967296 < 4294967296 := ⟨Int.emod_nonneg _ (by decide), Int.emod_lt_of_pos _ (by decide)⟩
 unfold addrM rg at hp
 dsimp only at hp
 rw [Int.toNat_natCast] at hp
 have HL := Lib.hid (fun wj (hj : Below w.heap.size w wj) => store_yes _ size (regs.getD nb 0) (h.grow hj) hAD.1 hAD.2 hB0 hB1 hs hp)
 rw [show insM k.m k.inp p low ⟨6, d_, na, nb, fn, obj, off, size, num, args, log⟩ regs s.oc = some (regs, { s.oc with mem := storeP s.mem ((regs.getD na 0 + off) % 4294967296 - 268435456).toNat (regs.getD nb 0) size.toNat }) by
  rw [insM_6 rfl]
  unfold addrM rg
  dsimp only
  simp only [Int.toNat_natCast]
  rw [if_pos hp]
  rfl]
 have HSB := Lib.hid (f.sb h)
 clear HSX HGX h f ha hb hp hs
 generalize regs.getD na 0 = XA at *
 generalize regs.getD nb 0 = XB at *
 have y1 := y 1
 have y2 := y 2
 have y3 := y 3
 have y4 := y 4
 have y5 := y 5
 have y6 := y 6
 have y7 := y 7
 have y8 := y 8
 simp only [List.getElem?_toArray, List.getElem?_cons_zero, List.getElem?_cons_succ] at y1 y2 y3 y4 y5 y6 y7 y8
 clear y
 go_enter Tryz.func48, Tryz.ntmps48
 go_wp2_with fail
 rw [← hW0]
 clear hW0
 refine wp_region_junk (SB bf bg w.heap.size) (by kernel_rfl) ?_
 refine J_mobs [0, 1, 2, 3, 4, 5, 6, 8, 9, 10, 12, 13, 14, 15, 16, 17, 18, 19] _ _ _ _ (by kernel_rfl) ?_
 simp only [List.map_cons, List.map_nil, List.getElem?_toArray, List.getElem?_cons_succ, List.getElem?_cons_zero, Option.getD_some, List.size_toArray, List.length_cons, List.length_nil, Nat.reduceAdd, Nat.reduceSub]
 repeat (go_big_quiet_step (fail))
 refine wpQuiet_nil ?_
 refine J_call 7 _ (.int .u32 XA) rfl (by kernel_rfl) rfl ?_ ?_
 all_goals simp only [List.getElem_toArray, List.getElem_cons_succ, List.getElem_cons_zero]
 ·intro wk hk
  go_wp2_with fail
  refine (HGet.out wk hk).mono ?_
  rintro e wz ⟨rfl, hb⟩
  go_wp2_with fail
  exact ⟨rfl, hb⟩
 simp only [Act.put, List.setIfInBounds_toArray, List.set_cons_succ, List.set_cons_zero]
 refine J_call 20 _ (.int .u32 XB) rfl (by kernel_rfl) rfl ?_ ?_
 all_goals simp only [List.getElem_toArray, List.getElem_cons_succ, List.getElem_cons_zero]
 ·intro wk hk
  go_wp2_with fail
  refine (HGeu.out wk hk).mono ?_
  rintro e wz ⟨rfl, hb⟩
  go_wp2_with fail
  exact ⟨rfl, hb⟩
 simp only [Act.put, List.setIfInBounds_toArray, List.set_cons_succ, List.set_cons_zero]
 refine J_mobs [11] _ _ _ _ (by kernel_rfl) ?_
 simp only [List.map_cons, List.map_nil, List.getElem?_toArray, List.getElem?_cons_succ, List.getElem?_cons_zero, Option.getD_some, List.size_toArray, List.length_cons, List.length_nil, Nat.reduceAdd, Nat.reduceSub]
 repeat (go_big_quiet_step (fail))
 refine wpQuiet_nil ?_
 refine J_loud1 21 _ rfl (by kernel_rfl) ?_
 simp only [List.getElem_toArray, List.getElem_cons_succ, List.getElem_cons_zero]
 intro wj hj
 go_wp2_with fail
 have hj0 : Below w.heap.size w wj := B0.out.trans (hj.mono B0.out.size)
 refine (HL.out wj hj0).mono ?_
 rintro e w1 ⟨rfl, hr1, hk1⟩
 have hr1 := Lib.hid hr1
 have hk1 := Lib.hid hk1
 go_wp2_with fail
 refine ⟨hk1.out.keepX HSB.out, ?_⟩
 refine J_mobs [22] _ _ _ _ (by kernel_rfl) ?_
 simp only [List.map_cons, List.map_nil, List.getElem?_toArray, List.getElem?_cons_succ, List.getElem?_cons_zero, Option.getD_some, List.size_toArray, List.length_cons, List.length_nil, Nat.reduceAdd, Nat.reduceSub]
 repeat (go_big_quiet_step (fail))
 refine wpQuiet_nil ?_
 refine J_done (by kernel_rfl) (fun wk hk => ?_) _
 obtain ⟨hr3, hf3, hk3⟩ := fin_run HR.out HF.out hj0 hr1.out hk1.out hk
 have hr3 := Lib.hid hr3
 have hf3 := Lib.hid hf3
 have hk3 := Lib.hid hk3
 go_wp2_with fail
 go_ret
 exact ⟨vo, _, regs, hr3.out, hf3.out, hk3.out, rfl, rfl, rfl, rfl, rfl⟩
theorem ins_6n (h : Rn k w vo s) (f : Fw k p bf bg c nm vob vbl vat low w vo regs) (i : In) (va : Value) (hop : i.op = 6) (ha : 0 ≤ i.a) (ha2 : i.a < (regs.length : Int)) (hs : i.size = 1 ∨ i.size = 4) (hb : 0 ≤ i.b) (hb2 : i.b < (regs.length : Int)) (hp : placeF (addrM regs i) i.size = false) :
  Calls Tryz.prog 48 #[.pointer (some ⟨k.br, 0, none⟩), .pointer (some ⟨bf, 0, none⟩), iV i va] w (InsPost k p bf bg c nm vob vbl vat low w vo s (insM k.m k.inp p low i regs s.oc)) := by
 unfold iV
 obtain ⟨op, d_, a_, b_, fn, obj, off, size, num, args, log⟩ := i
 dsimp only at *
 subst hop
 obtain ⟨W0, hW0⟩ : ∃ W0, W0 = w.alloc (.cells #[.int .i64 6, .int .i64 d_, .int .i64 a_, .int .i64 b_, .int .i64 fn, .int .i64 obj, .int .i64 off, .int .i64 size, .int .u32 num, va, .bool log] 48) := ⟨_, rfl⟩
 have B0 : Hid (Below w.heap.size w W0) := by rw [hW0]; exact below_alloc w _
 have HW := Lib.hid (heap_of_alloc w (#[.int .i64 6, .int .i64 d_, .int .i64 a_, .int .i64 b_, .int .i64 fn, .int .i64 obj, .int .i64 off, .int .i64 size, .int .u32 num, va, .bool log]) _ hW0)
 have y := fun j => cell_of_heap HW.out j
 have HFN := Lib.hid (fin_set h f)
 have HR := Lib.hid h
 have HF := Lib.hid f
 have lbx : w.heap.size < W0.heap.size := by rw [hW0]; simp
 have lbf : bf < W0.heap.size := by have := f.bfLt; omega
 have lbr : k.br < W0.heap.size := by have := h.brLt; omega
 have x0 := (f.grow B0.out).cR
 have HSX := Lib.hid (fun n hn x => (f.grow B0.out).setC (w := W0) n hn x)
 have HGX := Lib.hid (fun n hn S hS => (f.grow B0.out).getK (w := W0) n hn S hS)
 obtain ⟨na, rfl⟩ := Int.eq_ofNat_of_zero_le ha
 obtain ⟨nb, rfl⟩ := Int.eq_ofNat_of_zero_le hb
 have HGet := Lib.hid (HGX.out na (by omega) (SB bf bg w.heap.size) (SB2 _ _ _))
 have HGeu := Lib.hid (HGX.out nb (by omega) (SB bf bg w.heap.size) (SB2 _ _ _))
 have hb1 := SB1 bf bg w.heap.size
 have hb2 := SB2 bf bg w.heap.size
 have hb3 := SB3 bf bg w.heap.size
 have hAD : 0 ≤ (regs.getD na 0 + off) % 4294967296 ∧ (regs.getD na 0 + off) % 4294967296 < 4294967296 := ⟨Int.emod_nonneg _ (by decide), Int.emod_lt_of_pos _ (by decide)⟩
 unfold addrM rg at hp
 dsimp only at hp
 rw [Int.toNat_natCast] at hp
 have HL := Lib.hid (fun wj (hj : Below w.heap.size w wj) => store_no _ size (regs.getD nb 0) (h.grow hj) hAD.1 hAD.2 hs hp)
 rw [show insM k.m k.inp p low ⟨6, d_, na, nb, fn, obj, off, size, num, args, log⟩ regs s.oc = none by
  rw [insM_6 rfl]
  unfold addrM rg
  dsimp only
  simp only [Int.toNat_natCast]
  rw [hp]
  rfl]
 have HSB := Lib.hid (f.sb h)
 clear HSX HGX h f ha hb hp hs
 generalize regs.getD na 0 = XA at *
 generalize regs.getD nb 0 = XB at *
 have y1 := y 1
 have y2 := y 2
 have y3 := y 3
 have y4 := y 4
 have y5 := y 5
 have y6 := y 6
 have y7 := y 7
 have y8 := y 8
 simp only [List.getElem?_toArray, List.getElem?_cons_zero, List.getElem?_cons_succ] at y1 y2 y3 y4 y5 y6 y7 y8
 clear y
 go_enter Tryz.func48, Tryz.ntmps48
 go_wp2_with fail
 rw [← hW0]
 clear hW0
 refine wp_region_junk (SB bf bg w.heap.size) (by kernel_rfl) ?_
 refine J_mobs [0, 1, 2, 3, 4, 5, 6, 8, 9, 10, 12, 13, 14, 15, 16, 17, 18, 19] _ _ _ _ (by kernel_rfl) ?_
 simp only [List.map_cons, List.map_nil, List.getElem?_toArray, List.getElem?_cons_succ, List.getElem?_cons_zero, Option.getD_some, List.size_toArray, List.length_cons, List.length_nil, Nat.reduceAdd, Nat.reduceSub]
 repeat (go_big_quiet_step (fail))
 refine wpQuiet_nil ?_
 refine J_call 7 _ (.int .u32 XA) rfl (by kernel_rfl) rfl ?_ ?_
 all_goals simp only [List.getElem_toArray, List.getElem_cons_succ, List.getElem_cons_zero]
 ·intro wk hk
  go_wp2_with fail
  refine (HGet.out wk hk).mono ?_
  rintro e wz ⟨rfl, hb⟩
  go_wp2_with fail
  exact ⟨rfl, hb⟩
 simp only [Act.put, List.setIfInBounds_toArray, List.set_cons_succ, List.set_cons_zero]
 refine J_call 20 _ (.int .u32 XB) rfl (by kernel_rfl) rfl ?_ ?_
 all_goals simp only [List.getElem_toArray, List.getElem_cons_succ, List.getElem_cons_zero]
 ·intro wk hk
  go_wp2_with fail
  refine (HGeu.out wk hk).mono ?_
  rintro e wz ⟨rfl, hb⟩
  go_wp2_with fail
  exact ⟨rfl, hb⟩
 simp only [Act.put, List.setIfInBounds_toArray, List.set_cons_succ, List.set_cons_zero]
 refine J_mobs [11] _ _ _ _ (by kernel_rfl) ?_
 simp only [List.map_cons, List.map_nil, List.getElem?_toArray, List.getElem?_cons_succ, List.getElem?_cons_zero, Option.getD_some, List.size_toArray, List.length_cons, List.length_nil, Nat.reduceAdd, Nat.reduceSub]
 repeat (go_big_quiet_step (fail))
 refine wpQuiet_nil ?_
 refine J_loud1 21 _ rfl (by kernel_rfl) ?_
 simp only [List.getElem_toArray, List.getElem_cons_succ, List.getElem_cons_zero]
 intro wj hj
 go_wp2_with fail
 have hj0 : Below w.heap.size w wj := B0.out.trans (hj.mono B0.out.size)
 refine (HL.out wj hj0).mono ?_
 rintro e w1 ⟨rfl, hr1, hk1⟩
 have hr1 := Lib.hid hr1
 have hk1 := Lib.hid hk1
 go_wp2_with fail
 refine ⟨hk1.out.keepX HSB.out, ?_⟩
 refine J_mobs [22] _ _ _ _ (by kernel_rfl) ?_
 simp only [List.map_cons, List.map_nil, List.getElem?_toArray, List.getElem?_cons_succ, List.getElem?_cons_zero, Option.getD_some, List.size_toArray, List.length_cons, List.length_nil, Nat.reduceAdd, Nat.reduceSub]
 repeat (go_big_quiet_step (fail))
 refine wpQuiet_nil ?_
 refine J_done (by kernel_rfl) (fun wk hk => ?_) _
 obtain ⟨hr3, hf3, hk3⟩ := fin_run HR.out HF.out hj0 hr1.out hk1.out hk
 have hr3 := Lib.hid hr3
 have hf3 := Lib.hid hf3
 have hk3 := Lib.hid hk3
 go_wp2_with fail
 go_ret
 exact ⟨vo, _, regs, hr3.out, hf3.out, hk3.out, rfl, rfl, rfl, rfl⟩
end
end Go.Proofs.YtchoiankeohonaaGreatDoor
