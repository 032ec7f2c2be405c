/-
 Contracts of (*irrun.runner).ins, operation by operation (but calls).
-/
import Derived.Test.YtchoiankeohonaaGreatDoorZInlineAll10
import Derived.Test.YtchoiankeohonaaGreatDoorZInlineAll01
import Derived.IntWalk
import Derived.Test.YtchoiankeohonaaGreatDoorZInlineAll07
set_option linter.all false
namespace Go.Proofs.YtchoiankeohonaaGreatDoor
open Go.ChangeShapes Go.WideShapes Go.ChangeAt Go.RowKit
set_option maxHeartbeats 2000000
set_option linter.unusedVariables false
set_option maxRecDepth 20000

/-- what an instruction makes of a run and of a call's registers -/
def InsPost (k : RK) (p : Pr) (bf bg c : Nat) (nm : ByteArray) (vob vbl vat : Value) (low : Int) (w : World) (vo : Value) (s : RS) (res : Option (List Int × Oc)) (e : Ending) (w' : World) : Prop :=
 ∃ vo' s' regs', Rn k w' vo' s' ∧ Fw k p bf bg c nm vob vbl vat low w' vo' regs' ∧ Kq k bg vo vo' w w' ∧ s'.fuel = s.fuel ∧ s'.deep = s.deep ∧
  match res with
  | none => e = .returned (.bool false) ∧ s'.oc = { s.oc with e := 12 }
  | some r => e = .returned (.bool true) ∧ regs' = r.1 ∧ s'.oc = r.2
section
variable {k : RK} {p : Pr} {bf bg c : Nat} {nm : ByteArray} {vob vbl vat : Value} {low : Int} {w w' : World} {vo vo' : Value} {regs : List Int} {s s' : RS}
theorem fin_set (h : Rn k w vo s) (f : Fw k p bf bg c nm vob vbl vat low w vo regs) (wj wz : World) (hj : Below w.heap.size w wj) (n : Nat) (x : Int) (h0 : 0 ≤ x) (h1 : x < 4294967296) (hz : Below wj.heap.size (wj.setCell ⟨bg, n, none⟩ (.int .u32 x)) wz) :
  Rn k wz vo s ∧ Fw k p bf bg c nm vob vbl vat low wz vo (regs.set n x) ∧ Kq k bg vo vo w wz := by
 obtain ⟨a, b, c⟩ := (f.grow hj).setR (h.grow hj) n x h0 h1
 have hz' : Below (wj.setCell ⟨bg, n, none⟩ (.int .u32 x)).heap.size (wj.setCell ⟨bg, n, none⟩ (.int .u32 x)) wz := hz.mono (by simp)
 exact ⟨a.grow hz', b.grow hz', (Kq.of_below hj).trans (c.trans (Kq.of_below hz'))⟩
theorem Fw.setC (f : Fw k p bf bg c nm vob vbl vat low w vo regs) (n : Nat) (hn : n < regs.length) (x : Int) : ∀ wj, Below w.heap.size w wj → Calls Tryz.prog 58 #[.agg #[.slice (some ⟨bg, 0, none⟩) regs.length c], .int .i64 (n : Int), .int .u32 x] wj fun e w' => (∃ u, e = .returned u) ∧ Below wj.heap.size (wj.setCell ⟨bg, n, none⟩ (.int .u32 x)) w' := fun wj hj =>
 set_c wj bg regs.length c n _ x ((f.grow hj).cX n hn) ((f.grow hj).fz n) hn f.cap.1 (by have := f.cap.2; omega)
theorem Fw.getC (f : Fw k p bf bg c nm vob vbl vat low w vo regs) (n : Nat) (hn : n < regs.length) : ∀ wj, Below w.heap.size w wj → Calls Tryz.prog 49 #[.agg #[.slice (some ⟨bg, 0, none⟩) regs.length c], .int .i64 (n : Int)] wj fun e w' => e = .returned (.int .u32 (regs.getD n 0)) ∧ Below wj.heap.size wj w' := fun wj hj =>
 get_c wj bg regs.length c n _ ((f.grow hj).cX n hn) hn f.cap.1 (by have := f.cap.2; omega)
theorem Fw.getK (f : Fw k p bf bg c nm vob vbl vat low w vo regs) (n : Nat) (hn : n < regs.length) (S : Nat → Prop) (hS : S bg) : ∀ wj, KeepX S w wj → Calls Tryz.prog 49 #[.agg #[.slice (some ⟨bg, 0, none⟩) regs.length c], .int .i64 (n : Int)] wj fun e w' => e = .returned (.int .u32 (regs.getD n 0)) ∧ Below wj.heap.size wj w' := fun wj hj =>
 get_c wj bg regs.length c n _ (hj bg n _ hS (f.cX n hn)) hn f.cap.1 (by have := f.cap.2; omega)
/-- an instruction by value -/
def iV (i : In) (va : Value) : Value := .agg #[.int .i64 i.op, .int .i64 i.d, .int .i64 i.a, .int .i64 i.b, .int .i64 i.fn, .int .i64 i.obj, .int .i64 i.off, .int .i64 i.size, .int .u32 i.num, va, .bool i.log]
theorem ins_1 (h : Rn k w vo s) (f : Fw k p bf bg c nm vob vbl vat low w vo regs) (i : In) (va : Value) (hop : i.op = 1) (hd : 0 ≤ i.d) (hd2 : i.d < (regs.length : Int)) (hn : 0 ≤ i.num) (hn2 : i.num < 4294967296) :
  Calls Tryz.prog 48 #[.pointer (some ⟨k.br, 0, none⟩), .pointer (some ⟨bf, 0, none⟩), iV i va] w (InsPost k p bf bg c nm vob vbl vat low w vo s (insM k.m k.inp p low i regs s.oc)) := by
 unfold iV
 obtain ⟨op, d_, a_, b_, fn, obj, off, size, num, args, log⟩ := i
 dsimp only at *
 subst hop
 obtain ⟨W0, hW0⟩ : ∃ W0, W0 = w.alloc (.cells #[.int .i64 1, .int .i64 d_, .int .i64 a_, .int .i64 b_, .int .i64 fn, .int .i64 obj, .int .i64 off, .int .i64 size, .int .u32 num, va, .bool log] 48) := ⟨_, rfl⟩
 have B0 : Hid (Below w.heap.size w W0) := by rw [hW0]; exact below_alloc w _
 have HW := Lib.hid (heap_of_alloc w (#[.int .i64 1, .int .i64 d_, .int .i64 a_, .int .i64 b_, .int .i64 fn, .int .i64 obj, .int .i64 off, .int .i64 size, .int .u32 num, va, .bool log]) _ hW0)
 have y := fun j => cell_of_heap HW.out j
 have HFN := Lib.hid (fin_set h f)
 have HR := Lib.hid h
 have HF := Lib.hid f
 have lbx : w.heap.size < W0.heap.size := by rw [hW0]; simp
 have lbf : bf < W0.heap.size := by have := f.bfLt; omega
 have lbr : k.br < W0.heap.size := by have := h.brLt; omega
 have x0 := (f.grow B0.out).cR
 have HSX := Lib.hid (fun n hn x => (f.grow B0.out).setC (w := W0) n hn x)
 have HGX := Lib.hid (fun n hn S hS => (f.grow B0.out).getK (w := W0) n hn S hS)
 obtain ⟨n, rfl⟩ := Int.eq_ofNat_of_zero_le hd
 have HSet := Lib.hid (HSX.out n (by omega) num)
 clear HSX HGX h f hd
 have HI : Hid (regs.set n num = regs.set (n : Int).toNat num) := by show _ = _; simp
 have y1 := y 1
 have y2 := y 2
 have y3 := y 3
 have y4 := y 4
 have y5 := y 5
 have y6 := y 6
 have y7 := y 7
 have y8 := y 8
 simp only [List.getElem?_toArray, List.getElem?_cons_zero, List.getElem?_cons_succ] at y1 y2 y3 y4 y5 y6 y7 y8
 clear y
 go_enter Tryz.func48, Tryz.ntmps48
 go_wp2_with fail
 rw [← hW0]
 clear hW0
 refine wp_region_junk (fun _ => True) (by kernel_rfl) ?_
 refine J_mobs [0, 1, 2, 3, 4, 5, 6, 7] _ _ _ _ (by kernel_rfl) ?_
 simp only [List.map_cons, List.map_nil, List.getElem?_toArray, List.getElem?_cons_succ, List.getElem?_cons_zero, Option.getD_some, List.size_toArray, List.length_cons, List.length_nil, Nat.reduceAdd, Nat.reduceSub]
 repeat (go_big_quiet_step (fail))
 refine wpQuiet_nil ?_
 refine J_last 8 _ rfl (by kernel_rfl) ?_
 simp only [List.getElem_toArray, List.getElem_cons_succ, List.getElem_cons_zero]
 intro wj hj
 go_wp2_with fail
 refine (HSet.out wj hj).mono ?_
 rintro e wz ⟨⟨u, rfl⟩, hz⟩
 obtain ⟨hr2, hf2, hk2⟩ := HFN.out _ _ (B0.out.trans (hj.mono B0.out.size)) n _ hn hn2 hz
 clear hz hj
 go_wp2_with fail
 refine J_done (by kernel_rfl) (fun wk hk => ?_) _
 have hr3 := Lib.hid (hr2.grow hk)
 have hf3 := Lib.hid (hf2.grow hk)
 have hk3 := Lib.hid (hk2.trans (Kq.of_below hk))
 clear hr2 hf2 hk2 hk
 go_wp2_with fail
 go_ret
 exact ⟨vo, s, _, hr3.out, hf3.out, hk3.out, rfl, rfl, rfl, HI.out, rfl⟩
theorem ins_2 (h : Rn k w vo s) (f : Fw k p bf bg c nm vob vbl vat low w vo regs) (i : In) (va : Value) (hop : i.op = 2) (hd : 0 ≤ i.d) (hd2 : i.d < (regs.length : Int)) (ha : 0 ≤ i.a) (ha2 : i.a < (regs.length : Int)) :
  Calls Tryz.prog 48 #[.pointer (some ⟨k.br, 0, none⟩), .pointer (some ⟨bf, 0, none⟩), iV i va] w (InsPost k p bf bg c nm vob vbl vat low w vo s (insM k.m k.inp p low i regs s.oc)) := by
 unfold iV
 obtain ⟨op, d_, a_, b_, fn, obj, off, size, num, args, log⟩ := i
 dsimp only at *
 subst hop
 obtain ⟨W0, hW0⟩ : ∃ W0, W0 = w.alloc (.cells #[.int .i64 2, .int .i64 d_, .int .i64 a_, .int .i64 b_, .int .i64 fn, .int .i64 obj, .int .i64 off, .int .i64 size, .int .u32 num, va, .bool log] 48) := ⟨_, rfl⟩
 have B0 : Hid (Below w.heap.size w W0) := by rw [hW0]; exact below_alloc w _
 have HW := Lib.hid (heap_of_alloc w (#[.int .i64 2, .int .i64 d_, .int .i64 a_, .int .i64 b_, .int .i64 fn, .int .i64 obj, .int .i64 off, .int .i64 size, .int .u32 num, va, .bool log]) _ hW0)
 have y := fun j => cell_of_heap HW.out j
 have HFN := Lib.hid (fin_set h f)
 have HR := Lib.hid h
 have HF := Lib.hid f
 have lbx : w.heap.size < W0.heap.size := by rw [hW0]; simp
 have lbf : bf < W0.heap.size := by have := f.bfLt; omega
 have lbr : k.br < W0.heap.size := by have := h.brLt; omega
 have x0 := (f.grow B0.out).cR
 have HSX := Lib.hid (fun n hn x => (f.grow B0.out).setC (w := W0) n hn x)
 have HGX := Lib.hid (fun n hn S hS => (f.grow B0.out).getK (w := W0) n hn S hS)
 obtain ⟨n, rfl⟩ := Int.eq_ofNat_of_zero_le hd
 obtain ⟨na, rfl⟩ := Int.eq_ofNat_of_zero_le ha
 obtain ⟨hX0, hX1⟩ := f.word na
 have HSet := Lib.hid (HSX.out n (by omega) (regs.getD na 0))
 have HGet := Lib.hid (HGX.out na (by omega) (fun _ => True) trivial)
 have HI : Hid (regs.set n (regs.getD na 0) = regs.set (n : Int).toNat (rg regs (na : Int))) := by show _ = _; simp [rg]
 clear HSX HGX h f hd
 generalize regs.getD na 0 = X at *
 have y1 := y 1
 have y2 := y 2
 have y3 := y 3
 have y4 := y 4
 have y5 := y 5
 have y6 := y 6
 have y7 := y 7
 have y8 := y 8
 simp only [List.getElem?_toArray, List.getElem?_cons_zero, List.getElem?_cons_succ] at y1 y2 y3 y4 y5 y6 y7 y8
 clear y
 go_enter Tryz.func48, Tryz.ntmps48
 go_wp2_with fail
 rw [← hW0]
 clear hW0
 refine wp_region_junk (fun _ => True) (by kernel_rfl) ?_
 refine J_mobs [0, 1, 2, 3, 4, 5, 6, 7, 8, 9, 10, 11] _ _ _ _ (by kernel_rfl) ?_
 simp only [List.map_cons, List.map_nil, List.getElem?_toArray, List.getElem?_cons_succ, List.getElem?_cons_zero, Option.getD_some, List.size_toArray, List.length_cons, List.length_nil, Nat.reduceAdd, Nat.reduceSub]
 repeat (go_big_quiet_step (fail))
 refine wpQuiet_nil ?_
 refine J_call 12 _ (.int .u32 X) rfl (by kernel_rfl) rfl ?_ ?_
 all_goals simp only [List.getElem_toArray, List.getElem_cons_succ, List.getElem_cons_zero]
 ·intro wk hk
  go_wp2_with fail
  refine (HGet.out wk hk).mono ?_
  rintro e wz ⟨rfl, hb⟩
  go_wp2_with fail
  exact ⟨rfl, hb⟩
 simp only [Act.put, List.setIfInBounds_toArray, List.set_cons_succ, List.set_cons_zero]
 refine J_last 13 _ rfl (by kernel_rfl) ?_
 simp only [List.getElem_toArray, List.getElem_cons_succ, List.getElem_cons_zero]
 intro wj hj
 go_wp2_with fail
 refine (HSet.out wj hj).mono ?_
 rintro e wz ⟨⟨u, rfl⟩, hz⟩
 obtain ⟨hr2, hf2, hk2⟩ := HFN.out _ _ (B0.out.trans (hj.mono B0.out.size)) n _ hX0 hX1 hz
 clear hz hj
 go_wp2_with fail
 refine J_done (by kernel_rfl) (fun wk hk => ?_) _
 have hr3 := Lib.hid (hr2.grow hk)
 have hf3 := Lib.hid (hf2.grow hk)
 have hk3 := Lib.hid (hk2.trans (Kq.of_below hk))
 clear hr2 hf2 hk2 hk
 go_wp2_with fail
 go_ret
 exact ⟨vo, s, _, hr3.out, hf3.out, hk3.out, rfl, rfl, rfl, HI.out, rfl⟩
theorem fnK (fn a b : Int) (h : 0 ≤ a) (h' : a < 4294967296) (h1 : 0 ≤ b) (h1' : b < 4294967296) (S : Nat → Prop) (w : World) : ∀ wj, KeepX S w wj → Calls Tryz.prog 59 #[.int .i64 fn, .int .u32 a, .int .u32 b] wj fun e w' => e = .returned (.int .u32 (fnF fn a b)) ∧ Below wj.heap.size wj w' := fun wj _ =>
 (fn_c fn a b wj h h' h1 h1').mono fun _ _ ⟨e, hw⟩ => ⟨e, hw ▸ Below.refl _ _⟩
theorem ins_3 (h : Rn k w vo s) (f : Fw k p bf bg c nm vob vbl vat low w vo regs) (i : In) (va : Value) (hop : i.op = 3) (hd : 0 ≤ i.d) (hd2 : i.d < (regs.length : Int)) (ha : 0 ≤ i.a) (ha2 : i.a < (regs.length : Int)) (hb : 0 ≤ i.b) (hb2 : i.b < (regs.length : Int)) :
  Calls Tryz.prog 48 #[.pointer (some ⟨k.br, 0, none⟩), .pointer (some ⟨bf, 0, none⟩), iV i va] w (InsPost k p bf bg c nm vob vbl vat low w vo s (insM k.m k.inp p low i regs s.oc)) := by
 unfold iV
 obtain ⟨op, d_, a_, b_, fn, obj, off, size, num, args, log⟩ := i
 dsimp only at *
 subst hop
 obtain ⟨W0, hW0⟩ : ∃ W0, W0 = w.alloc (.cells #[.int .i64 3, .int .i64 d_, .int .i64 a_, .int .i64 b_, .int .i64 fn, .int .i64 obj, .int .i64 off, .int .i64 size, .int .u32 num, va, .bool log] 48) := ⟨_, rfl⟩
 have B0 : Hid (Below w.heap.size w W0) := by rw [hW0]; exact below_alloc w _
 have HW := Lib.hid (heap_of_alloc w (#[.int .i64 3, .int .i64 d_, .int .i64 a_, .int .i64 b_, .int .i64 fn, .int .i64 obj, .int .i64 off, .int .i64 size, .int .u32 num, va, .bool log]) _ hW0)
 have y := fun j => cell_of_heap HW.out j
 have HFN := Lib.hid (fin_set h f)
 have HR := Lib.hid h
 have HF := Lib.hid f
 have lbx : w.heap.size < W0.heap.size := by rw [hW0]; simp
 have lbf : bf < W0.heap.size := by have := f.bfLt; omega
 have lbr : k.br < W0.heap.size := by have := h.brLt; omega
 have x0 := (f.grow B0.out).cR
 have HSX := Lib.hid (fun n hn x => (f.grow B0.out).setC (w := W0) n hn x)
 have HGX := Lib.hid (fun n hn S hS => (f.grow B0.out).getK (w := W0) n hn S hS)
 obtain ⟨n, rfl⟩ := Int.eq_ofNat_of_zero_le hd
 obtain ⟨na, rfl⟩ := Int.eq_ofNat_of_zero_le ha
 obtain ⟨nb, rfl⟩ := Int.eq_ofNat_of_zero_le hb
 obtain ⟨hA0, hA1⟩ := f.word na
 obtain ⟨hB0, hB1⟩ := f.word nb
 have HGet := Lib.hid (HGX.out na (by omega) (fun _ => True) trivial)
 have HGeu := Lib.hid (HGX.out nb (by omega) (fun _ => True) trivial)
 have HFn := Lib.hid (fnK fn (regs.getD na 0) (regs.getD nb 0) hA0 hA1 hB0 hB1 (fun _ => True) W0)
 obtain ⟨hX0, hX1⟩ := fnF_bd fn (regs.getD na 0) (regs.getD nb 0) hA0 hA1 hB0 hB1
 have HSet := Lib.hid (HSX.out n (by omega) (fnF fn (regs.getD na 0) (regs.getD nb 0)))
 have HI : Hid (regs.set n (fnF fn (regs.getD na 0) (regs.getD nb 0)) = regs.set (n : Int).toNat (fnF fn (rg regs (na : Int)) (rg regs (nb : Int)))) := by show _ = _; simp [rg]
 clear HSX HGX h f hd ha hb
 generalize fnF fn (regs.getD na 0) (regs.getD nb 0) = X at *
 generalize regs.getD na 0 = XA at *
 generalize regs.getD nb 0 = XB at *
 have y1 := y 1
 have y2 := y 2
 have y3 := y 3
 have y4 := y 4
 have y5 := y 5
 have y6 := y 6
 have y7 := y 7
 have y8 := y 8
 simp only [List.getElem?_toArray, List.getElem?_cons_zero, List.getElem?_cons_succ] at y1 y2 y3 y4 y5 y6 y7 y8
 clear y
 go_enter Tryz.func48, Tryz.ntmps48
 go_wp2_with fail
 rw [← hW0]
 clear hW0
 refine wp_region_junk (fun _ => True) (by kernel_rfl) ?_
 refine J_mobs [0, 1, 2, 3, 4, 5, 6, 7, 8, 9, 10, 11, 12, 13, 15, 16, 17, 18, 19, 20] _ _ _ _ (by kernel_rfl) ?_
 simp only [List.map_cons, List.map_nil, List.getElem?_toArray, List.getElem?_cons_succ, List.getElem?_cons_zero, Option.getD_some, List.size_toArray, List.length_cons, List.length_nil, Nat.reduceAdd, Nat.reduceSub]
 repeat (go_big_quiet_step (fail))
 refine wpQuiet_nil ?_
 refine J_call 14 _ (.int .u32 XA) rfl (by kernel_rfl) rfl ?_ ?_
 all_goals simp only [List.getElem_toArray, List.getElem_cons_succ, List.getElem_cons_zero]
 ·intro wk hk
  go_wp2_with fail
  refine (HGet.out wk hk).mono ?_
  rintro e wz ⟨rfl, hb⟩
  go_wp2_with fail
  exact ⟨rfl, hb⟩
 simp only [Act.put, List.setIfInBounds_toArray, List.set_cons_succ, List.set_cons_zero]
 refine J_call 21 _ (.int .u32 XB) rfl (by kernel_rfl) rfl ?_ ?_
 all_goals simp only [List.getElem_toArray, List.getElem_cons_succ, List.getElem_cons_zero]
 ·intro wk hk
  go_wp2_with fail
  refine (HGeu.out wk hk).mono ?_
  rintro e wz ⟨rfl, hb⟩
  go_wp2_with fail
  exact ⟨rfl, hb⟩
 simp only [Act.put, List.setIfInBounds_toArray, List.set_cons_succ, List.set_cons_zero]
 refine J_call 22 _ (.int .u32 X) rfl (by kernel_rfl) rfl ?_ ?_
 all_goals simp only [List.getElem_toArray, List.getElem_cons_succ, List.getElem_cons_zero]
 ·intro wk hk
  go_wp2_with fail
  refine (HFn.out wk hk).mono ?_
  rintro e wz ⟨rfl, hb⟩
  go_wp2_with fail
  exact ⟨rfl, hb⟩
 simp only [Act.put, List.setIfInBounds_toArray, List.set_cons_succ, List.set_cons_zero]
 refine J_last 23 _ rfl (by kernel_rfl) ?_
 simp only [List.getElem_toArray, List.getElem_cons_succ, List.getElem_cons_zero]
 intro wj hj
 go_wp2_with fail
 refine (HSet.out wj hj).mono ?_
 rintro e wz ⟨⟨u, rfl⟩, hz⟩
 obtain ⟨hr2, hf2, hk2⟩ := HFN.out _ _ (B0.out.trans (hj.mono B0.out.size)) n _ hX0 hX1 hz
 clear hz hj
 go_wp2_with fail
 refine J_done (by kernel_rfl) (fun wk hk => ?_) _
 have hr3 := Lib.hid (hr2.grow hk)
 have hf3 := Lib.hid (hf2.grow hk)
 have hk3 := Lib.hid (hk2.trans (Kq.of_below hk))
 clear hr2 hf2 hk2 hk
 go_wp2_with fail
 go_ret
 exact ⟨vo, s, _, hr3.out, hf3.out, hk3.out, rfl, rfl, rfl, HI.out, rfl⟩
theorem ins_4 (h : Rn k w vo s) (f : Fw k p bf bg c nm vob vbl vat low w vo regs) (i : In) (va : Value) (hop : i.op = 4) (hd : 0 ≤ i.d) (hd2 : i.d < (regs.length : Int)) (ha : 0 ≤ i.a) (ha2 : i.a < (regs.length : Int)) :
  Calls Tryz.prog 48 #[.pointer (some ⟨k.br, 0, none⟩), .pointer (some ⟨bf, 0, none⟩), iV i va] w (InsPost k p bf bg c nm vob vbl vat low w vo s (insM k.m k.inp p low i regs s.oc)) := by
 unfold iV
 obtain ⟨op, d_, a_, b_, fn, obj, off, size, num, args, log⟩ := i
 dsimp only at *
 subst hop
 obtain ⟨W0, hW0⟩ : ∃ W0, W0 = w.alloc (.cells #[.int .i64 4, .int .i64 d_, .int .i64 a_, .int .i64 b_, .int .i64 fn, .int .i64 obj, .int .i64 off, .int .i64 size, .int .u32 num, va, .bool log] 48) := ⟨_, rfl⟩
 have B0 : Hid (Below w.heap.size w W0) := by rw [hW0]; exact below_alloc w _
 have HW := Lib.hid (heap_of_alloc w (#[.int .i64 4, .int .i64 d_, .int .i64 a_, .int .i64 b_, .int .i64 fn, .int .i64 obj, .int .i64 off, .int .i64 size, .int .u32 num, va, .bool log]) _ hW0)
 have y := fun j => cell_of_heap HW.out j
 have HFN := Lib.hid (fin_set h f)
 have HR := Lib.hid h
 have HF := Lib.hid f
 have lbx : w.heap.size < W0.heap.size := by rw [hW0]; simp
 have lbf : bf < W0.heap.size := by have := f.bfLt; omega
 have lbr : k.br < W0.heap.size := by have := h.brLt; omega
 have x0 := (f.grow B0.out).cR
 have HSX := Lib.hid (fun n hn x => (f.grow B0.out).setC (w := W0) n hn x)
 have HGX := Lib.hid (fun n hn S hS => (f.grow B0.out).getK (w := W0) n hn S hS)
 obtain ⟨n, rfl⟩ := Int.eq_ofNat_of_zero_le hd
 obtain ⟨na, rfl⟩ := Int.eq_ofNat_of_zero_le ha
 obtain ⟨hA0, hA1⟩ := f.word na
 have HGet := Lib.hid (HGX.out na (by omega) (fun _ => True) trivial)
 have HFn := Lib.hid (fnK fn (regs.getD na 0) 0 hA0 hA1 (by decide) (by decide) (fun _ => True) W0)
 obtain ⟨hX0, hX1⟩ := fnF_bd fn (regs.getD na 0) 0 hA0 hA1 (by decide) (by decide)
 have HSet := Lib.hid (HSX.out n (by omega) (fnF fn (regs.getD na 0) 0))
 have HI : Hid (regs.set n (fnF fn (regs.getD na 0) 0) = regs.set (n : Int).toNat (fnF fn (rg regs (na : Int)) 0)) := by show _ = _; simp [rg]
 clear HSX HGX h f hd ha
 generalize fnF fn (regs.getD na 0) 0 = X at *
 generalize regs.getD na 0 = XA at *
 have y1 := y 1
 have y2 := y 2
 have y3 := y 3
 have y4 := y 4
 have y5 := y 5
 have y6 := y 6
 have y7 := y 7
 have y8 := y 8
 simp only [List.getElem?_toArray, List.getElem?_cons_zero, List.getElem?_cons_succ] at y1 y2 y3 y4 y5 y6 y7 y8
 clear y
 go_enter Tryz.func48, Tryz.ntmps48
 go_wp2_with fail
 rw [← hW0]
 clear hW0
 refine wp_region_junk (fun _ => True) (by kernel_rfl) ?_
 refine J_mobs [0, 1, 2, 3, 4, 5, 6, 7, 8, 9, 10, 11, 12, 13] _ _ _ _ (by kernel_rfl) ?_
 simp only [List.map_cons, List.map_nil, List.getElem?_toArray, List.getElem?_cons_succ, List.getElem?_cons_zero, Option.getD_some, List.size_toArray, List.length_cons, List.length_nil, Nat.reduceAdd, Nat.reduceSub]
 repeat (go_big_quiet_step (fail))
 refine wpQuiet_nil ?_
 refine J_call 14 _ (.int .u32 XA) rfl (by kernel_rfl) rfl ?_ ?_
 all_goals simp only [List.getElem_toArray, List.getElem_cons_succ, List.getElem_cons_zero]
 ·intro wk hk
  go_wp2_with fail
  refine (HGet.out wk hk).mono ?_
  rintro e wz ⟨rfl, hb⟩
  go_wp2_with fail
  exact ⟨rfl, hb⟩
 simp only [Act.put, List.setIfInBounds_toArray, List.set_cons_succ, List.set_cons_zero]
 refine J_call 15 _ (.int .u32 X) rfl (by kernel_rfl) rfl ?_ ?_
 all_goals simp only [List.getElem_toArray, List.getElem_cons_succ, List.getElem_cons_zero]
 ·intro wk hk
  go_wp2_with fail
  refine (HFn.out wk hk).mono ?_
  rintro e wz ⟨rfl, hb⟩
  go_wp2_with fail
  exact ⟨rfl, hb⟩
 simp only [Act.put, List.setIfInBounds_toArray, List.set_cons_succ, List.set_cons_zero]
 refine J_last 16 _ rfl (by kernel_rfl) ?_
 simp only [List.getElem_toArray, List.getElem_cons_succ, List.getElem_cons_zero]
 intro wj hj
 go_wp2_with fail
 refine (HSet.out wj hj).mono ?_
 rintro e wz ⟨⟨u, rfl⟩, hz⟩
 obtain ⟨hr2, hf2, hk2⟩ := HFN.out _ _ (B0.out.trans (hj.mono B0.out.size)) n _ hX0 hX1 hz
 clear hz hj
 go_wp2_with fail
 refine J_done (by kernel_rfl) (fun wk hk => ?_) _
 have hr3 := Lib.hid (hr2.grow hk)
 have hf3 := Lib.hid (hf2.grow hk)
 have hk3 := Lib.hid (hk2.trans (Kq.of_below hk))
 clear hr2 hf2 hk2 hk
 go_wp2_with fail
 go_ret
 exact ⟨vo, s, _, hr3.out, hf3.out, hk3.out, rfl, rfl, rfl, HI.out, rfl⟩
end
end Go.Proofs.YtchoiankeohonaaGreatDoor
