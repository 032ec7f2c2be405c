/-
 Contracts of (*irrun.runner).ins: places of objects and globals, what is put out and taken, marks.
-/
import Derived.Test.YtchoiankeohonaaGreatDoorZInlineAll12
import Derived.Test.YtchoiankeohonaaGreatDoorZInlineAll07
set_option linter.all false
namespace Go.Proofs.YtchoiankeohonaaGreatDoor
open Go.ChangeShapes Go.WideShapes Go.ChangeAt Go.RowKit
set_option maxHeartbeats 4000000
set_option linter.unusedVariables false
set_option maxRecDepth 20000

section
variable {k : RK} {p : Pr} {bf bg c : Nat} {nm : ByteArray} {vob vbl vat : Value} {low : Int} {w w' : World} {vo vo' : Value} {regs : List Int} {s s' : RS}
/-- an own row of numbers at one of them -/
theorem own_int_at {B n : Nat} {v : Value} {l : List Int} (h : w.ownsRow B 3 1 v n (l.map (Value.int .i64))) (j : Nat) (hj : j < l.length) (hn : n = l.length) : ∃ b ca, v = .slice (some ⟨b, 0, none⟩) n ca ∧ n ≤ ca ∧ ca ≤ maxLen ∧ w.cell? ⟨b, j, none⟩ = some (.int .i64 (l.getD j 0)) ∧ b < w.heap.size := by
 have H := h
 obtain ⟨q0, ⟨rfl, h0⟩ | ⟨b, cap, cur, rfl, hb, hgg, hn1, hc, -⟩⟩ := h
 ·omega
 ·refine ⟨b, cap, rfl, hn1, hc, ?_, (Array.getElem?_eq_some_iff.1 hgg).1⟩
  have := H.cellAt j (by omega)
  rw [this]
  simp [List.getD, hj]
theorem row_shape {w : World} {B n s : Nat} {e : TypeId} {v : Value} {xs : List Value} (h : w.ownsRow B e s v n xs) : ∃ a c, v = .slice a n c := by
 obtain ⟨-, ⟨rfl, h0, -⟩ | ⟨b, cap, cur, rfl, -⟩⟩ := h
 ·exact ⟨none, 0, rfl⟩
 ·exact ⟨_, _, rfl⟩
theorem cell_ext {w w' : World} {g : Nat} {l : List Value} (h : ∀ j u, l[j]? = some u → w.cell? ⟨g, j, none⟩ = some u) (hb : Below w.heap.size w w') : ∀ j u, l[j]? = some u → w'.cell? ⟨g, j, none⟩ = some u := fun j u hu =>
 (hb.cell (p := ⟨g, j, none⟩) (World.block_lt_of_cell? w _ (h j u hu))).trans (h j u hu)
/-- what is put out: one word more -/
theorem Rn.app (h : Rn k w vo s) {w1 w3 : World} {v' : Value} {x : Int} (O : w1.ownsRow k.wp.heap.size 39 1 v' (s.out.length + 1) (s.out.map (Value.int .u32) ++ [.int .u32 x])) (G : w.grownBy w1 vo.ownBlock) (D : v'.ownBlock = vo.ownBlock ∨ v'.ownBlock = some w.heap.size) (hb : Below w1.heap.size w1 w3) :
  Rn k (w3.setCell ⟨k.br, 8, none⟩ v') v' { s with out := s.out ++ [x] } ∧ Kp k vo v' w (w3.setCell ⟨k.br, 8, none⟩ v') := by
 have hbr := h.brLt
 have nO := h.neO
 have hsz := G.size
 have hs3 := hb.size
 have hx := own_below (h.bx.kept G (.inr (by simpa [rowOf, Value.ownBlock] using nO))) hb
 have hm := own_below (h.mm.kept G (rows_neR h.mm h.oo (by decide))) hb
 have ha := own_below (h.aa.kept G (rows_neR h.aa h.oo (by decide))) hb
 have ho := own_below O hb
 obtain ⟨a, b⟩ := hx.stored 8 v'
 have nB : v'.ownBlock ≠ some k.br := by
  rcases D with e | e
  ·rw [e]; exact Ne.symm nO
  ·rw [e]; intro e2; simp only [Option.some.injEq] at e2; omega
 have hB1 : Below k.wp.heap.size k.wp w1 := below_grown h.below G h.below.size (fun g hg => (own_lt h.oo hg).1)
 refine ⟨⟨?_, hm.kept b (rows_neR hm hx (by decide)), ?_, ha.kept b (rows_neR ha hx (by decide)), h.md, h.ii, ((hB1.trans (hb.mono hB1.size)).setCell (p := ⟨k.br, 8, none⟩) hbr.1 _)⟩, by simp; omega, ?_, ?_⟩
 ·exact a
 ·have := ho.kept b (.inr nB); rw [List.length_append, List.map_append]; exact this
 ·rcases D with e | e
  ·exact .inl e
  ·exact .inr ⟨_, e, Nat.le_refl _⟩
 ·intro b' hl h1 h2 h3
  rw [heap_setCell_other w3 ⟨k.br, 8, none⟩ b' v' h1, hb.block b' (by omega), G.block b' hl h3]
theorem Rn.app0 (h : Rn k w vo s) {w1 w3 : World} (G : w.grownBy w1 vo.ownBlock) (hb : Below w1.heap.size w1 w3) : w3.cell? ⟨k.br, 8, none⟩ = some vo ∧ w3.frozen? ⟨k.br, 8, none⟩ = false ∧ k.br < w3.heap.size := by
 have hx := own_below (h.bx.kept G (.inr (by simpa [rowOf, Value.ownBlock] using h.neO))) hb
 exact ⟨hx.cellAt 8 (by decide), hx.frozenAt 8, (own_lt hx rfl).2⟩

theorem ins_7 (h : Rn k w vo s) (f : Fw k p bf bg c nm vob vbl vat low w vo regs) (i : In) (va : Value) (hop : i.op = 7) (hd : 0 ≤ i.d) (hd2 : i.d < (regs.length : Int)) (ho : 0 ≤ i.obj) (ho2 : i.obj < (p.objs.length : Int)) (hf0 : -32768 ≤ i.off) (hf1 : i.off ≤ 32768) (hl0 : 0 ≤ low) (hl1 : low ≤ 65536) (hE : ∀ j : Nat, j < p.objs.length → 0 ≤ slE p.objs j ∧ slE p.objs j ≤ 50000000) :
  Calls Tryz.prog 48 #[.pointer (some ⟨k.br, 0, none⟩), .pointer (some ⟨bf, 0, none⟩), iV i va] w (InsPost k p bf bg c nm vob vbl vat low w vo s (insM k.m k.inp p low i regs s.oc)) := by
 unfold iV
 obtain ⟨op, d_, a_, b_, fn, obj, off, size, num, args, log⟩ := i
 dsimp only at *
 subst hop
 obtain ⟨W0, hW0⟩ : ∃ W0, W0 = w.alloc (.cells #[.int .i64 7, .int .i64 d_, .int .i64 a_, .int .i64 b_, .int .i64 fn, .int .i64 obj, .int .i64 off, .int .i64 size, .int .u32 num, va, .bool log] 48) := ⟨_, rfl⟩
 have B0 : Hid (Below w.heap.size w W0) := by rw [hW0]; exact below_alloc w _
 have HW := Lib.hid (heap_of_alloc w (#[.int .i64 7, .int .i64 d_, .int .i64 a_, .int .i64 b_, .int .i64 fn, .int .i64 obj, .int .i64 off, .int .i64 size, .int .u32 num, va, .bool log]) _ hW0)
 have y := fun j => cell_of_heap HW.out j
 have HFN := Lib.hid (fin_set h f)
 have HR := Lib.hid h
 have HF := Lib.hid f
 have lbx : w.heap.size < W0.heap.size := by rw [hW0]; simp
 have lbf : bf < W0.heap.size := by have := f.bfLt; omega
 have lbr : k.br < W0.heap.size := by have := h.brLt; omega
 have x0 := (f.grow B0.out).cR
 have HSX := Lib.hid (fun n hn x => (f.grow B0.out).setC (w := W0) n hn x)
 have HGX := Lib.hid (fun n hn S hS => (f.grow B0.out).getK (w := W0) n hn S hS)
 obtain ⟨n, rfl⟩ := Int.eq_ofNat_of_zero_le hd
 obtain ⟨no, rfl⟩ := Int.eq_ofNat_of_zero_le ho
 obtain ⟨he0, he1⟩ := hE no (by omega)
 have x8 := (f.grow B0.out).cL
 have x7 := (f.grow B0.out).cA
 obtain ⟨ba, ca, hva, hn1, hn2, z, lba⟩ := own_int_at (f.grow B0.out).ar no (by rw [slL_len]; omega) (by rw [slL_len])
 rw [show (slL p.objs p.objs.length).getD no 0 = slE p.objs no by unfold slL; simp [List.getD, show no < p.objs.length by omega]] at z
 rw [hva] at x7
 unfold maxLen at hn2
 have hnl : no < p.objs.length := by omega
 rw [show insM k.m k.inp p low ⟨7, n, a_, b_, fn, no, off, size, num, args, log⟩ regs s.oc = some (regs.set n (268435456 + low + slE p.objs no + off), s.oc) by
  rw [insM_7 rfl]
  dsimp only
  simp only [Int.toNat_natCast]
  rw [Int.emod_eq_of_lt (by omega) (by omega)]]
 have hAD : 0 ≤ 268435456 + low + slE p.objs no + off ∧ 268435456 + low + slE p.objs no + off < 4294967296 := by omega
 have HSet := Lib.hid (HSX.out n (by omega) (268435456 + low + slE p.objs no + off))
 generalize slE p.objs no = E at *
 have HA := Lib.hid hAD
 have hva := Lib.hid hva
 clear hAD
 clear HSX HGX h f hd ho hE ho2
 have y1 := y 1
 have y2 := y 2
 have y3 := y 3
 have y4 := y 4
 have y5 := y 5
 have y6 := y 6
 have y7 := y 7
 have y8 := y 8
 simp only [List.getElem?_toArray, List.getElem?_cons_zero, List.getElem?_cons_succ] at y1 y2 y3 y4 y5 y6 y7 y8
 clear y
 go_enter Tryz.func48, Tryz.ntmps48
 go_wp2_with fail
 rw [← hW0]
 clear hW0
 refine wp_region_junk (fun _ => True) (by kernel_rfl) ?_
 refine J_mobs [0, 1, 2, 3, 4, 5, 6, 7, 8, 9, 10, 11, 12, 13, 14, 15, 16, 17, 18, 19, 20, 21, 22, 23] _ _ _ _ (by kernel_rfl) ?_
 simp only [List.map_cons, List.map_nil, List.getElem?_toArray, List.getElem?_cons_succ, List.getElem?_cons_zero, Option.getD_some, List.size_toArray, List.length_cons, List.length_nil, Nat.reduceAdd, Nat.reduceSub]
 repeat (go_big_quiet_step (fail))
 refine wpQuiet_nil ?_
 refine J_last 24 _ rfl (by kernel_rfl) ?_
 simp only [List.getElem_toArray, List.getElem_cons_succ, List.getElem_cons_zero]
 intro wj hj
 go_wp2_with fail
 refine (HSet.out wj hj).mono ?_
 rintro e wz ⟨⟨u, rfl⟩, hz⟩
 obtain ⟨hr2, hf2, hk2⟩ := HFN.out _ _ (B0.out.trans (hj.mono B0.out.size)) n _ HA.out.1 HA.out.2 hz
 clear hz
 go_wp2_with fail
 refine J_done (by kernel_rfl) (fun wk hk => ?_) _
 have hr3 := Lib.hid (hr2.grow hk)
 have hf3 := Lib.hid (hf2.grow hk)
 have hk3 := Lib.hid (hk2.trans (Kq.of_below hk))
 clear hr2 hf2 hk2 hk
 go_wp2_with fail
 go_ret
 exact ⟨vo, s, _, hr3.out, hf3.out, hk3.out, rfl, rfl, rfl, rfl, rfl⟩
theorem ins_8 (h : Rn k w vo s) (f : Fw k p bf bg c nm vob vbl vat low w vo regs) (i : In) (va : Value) (hop : i.op = 8) (hd : 0 ≤ i.d) (hd2 : i.d < (regs.length : Int)) (ho : 0 ≤ i.obj) (ho2 : i.obj < (k.m.globs.length : Int)) (hf0 : -32768 ≤ i.off) (hf1 : i.off ≤ 32768) (hat : k.at' = (slL k.m.globs k.m.globs.length).map (4096 + ·)) (hE : ∀ j : Nat, j < k.m.globs.length → 0 ≤ slE k.m.globs j ∧ slE k.m.globs j ≤ 50000000) :
  Calls Tryz.prog 48 #[.pointer (some ⟨k.br, 0, none⟩), .pointer (some ⟨bf, 0, none⟩), iV i va] w (InsPost k p bf bg c nm vob vbl vat low w vo s (insM k.m k.inp p low i regs s.oc)) := by
 unfold iV
 obtain ⟨op, d_, a_, b_, fn, obj, off, size, num, args, log⟩ := i
 dsimp only at *
 subst hop
 obtain ⟨W0, hW0⟩ : ∃ W0, W0 = w.alloc (.cells #[.int .i64 8, .int .i64 d_, .int .i64 a_, .int .i64 b_, .int .i64 fn, .int .i64 obj, .int .i64 off, .int .i64 size, .int .u32 num, va, .bool log] 48) := ⟨_, rfl⟩
 have B0 : Hid (Below w.heap.size w W0) := by rw [hW0]; exact below_alloc w _
 have HW := Lib.hid (heap_of_alloc w (#[.int .i64 8, .int .i64 d_, .int .i64 a_, .int .i64 b_, .int .i64 fn, .int .i64 obj, .int .i64 off, .int .i64 size, .int .u32 num, va, .bool log]) _ hW0)
 have y := fun j => cell_of_heap HW.out j
 have HFN := Lib.hid (fin_set h f)
 have HR := Lib.hid h
 have HF := Lib.hid f
 have lbx : w.heap.size < W0.heap.size := by rw [hW0]; simp
 have lbf : bf < W0.heap.size := by have := f.bfLt; omega
 have lbr : k.br < W0.heap.size := by have := h.brLt; omega
 have x0 := (f.grow B0.out).cR
 have HSX := Lib.hid (fun n hn x => (f.grow B0.out).setC (w := W0) n hn x)
 have HGX := Lib.hid (fun n hn S hS => (f.grow B0.out).getK (w := W0) n hn S hS)
 obtain ⟨n, rfl⟩ := Int.eq_ofNat_of_zero_le hd
 obtain ⟨no, rfl⟩ := Int.eq_ofNat_of_zero_le ho
 obtain ⟨he0, he1⟩ := hE no (by omega)
 have hlen : k.at'.length = k.m.globs.length := by rw [hat, List.length_map, slL_len]
 obtain ⟨ba, ca, hva, hn1, hn2, z, lba⟩ := own_int_at (h.grow B0.out).aa no (by omega) rfl
 rw [show k.at'.getD no 0 = 4096 + slE k.m.globs no by rw [hat]; unfold slL; simp [List.getD, show no < k.m.globs.length by omega]] at z
 have x5 : W0.cell? ⟨k.br, 5, none⟩ = some k.va := (h.grow B0.out).c 5 (by decide)
 rw [hva] at x5
 rw [hlen] at x5 hn1
 unfold maxLen at hn2
 have hnl : no < k.m.globs.length := by omega
 rw [show insM k.m k.inp p low ⟨8, n, a_, b_, fn, no, off, size, num, args, log⟩ regs s.oc = some (regs.set n (268435456 + (4096 + slE k.m.globs no) + off), s.oc) by
  rw [insM_8 rfl]
  dsimp only
  simp only [Int.toNat_natCast]
  rw [Int.emod_eq_of_lt (by omega) (by omega)]]
 have hAD : 0 ≤ 268435456 + (4096 + slE k.m.globs no) + off ∧ 268435456 + (4096 + slE k.m.globs no) + off < 4294967296 := by omega
 have HSet := Lib.hid (HSX.out n (by omega) (268435456 + (4096 + slE k.m.globs no) + off))
 have hva := Lib.hid hva
 have hlen := Lib.hid hlen
 have hat := Lib.hid hat
 have he2 : 0 ≤ 4096 + slE k.m.globs no := by omega
 have he3 : 4096 + slE k.m.globs no ≤ 60000000 := by omega
 clear he0 he1 hE
 generalize 4096 + slE k.m.globs no = E at *
 have HA := Lib.hid hAD
 clear hAD
 clear HSX HGX h f hd ho ho2
 have y1 := y 1
 have y2 := y 2
 have y3 := y 3
 have y4 := y 4
 have y5 := y 5
 have y6 := y 6
 have y7 := y 7
 have y8 := y 8
 simp only [List.getElem?_toArray, List.getElem?_cons_zero, List.getElem?_cons_succ] at y1 y2 y3 y4 y5 y6 y7 y8
 clear y
 go_enter Tryz.func48, Tryz.ntmps48
 go_wp2_with fail
 rw [← hW0]
 clear hW0
 refine wp_region_junk (fun _ => True) (by kernel_rfl) ?_
 refine J_mobs [0, 1, 2, 3, 4, 5, 6, 7, 8, 9, 10, 11, 12, 13, 14, 15, 16, 17, 18] _ _ _ _ (by kernel_rfl) ?_
 simp only [List.map_cons, List.map_nil, List.getElem?_toArray, List.getElem?_cons_succ, List.getElem?_cons_zero, Option.getD_some, List.size_toArray, List.length_cons, List.length_nil, Nat.reduceAdd, Nat.reduceSub]
 repeat (go_big_quiet_step (fail))
 refine wpQuiet_nil ?_
 refine J_last 19 _ rfl (by kernel_rfl) ?_
 simp only [List.getElem_toArray, List.getElem_cons_succ, List.getElem_cons_zero]
 intro wj hj
 go_wp2_with fail
 refine (HSet.out wj hj).mono ?_
 rintro e wz ⟨⟨u, rfl⟩, hz⟩
 obtain ⟨hr2, hf2, hk2⟩ := HFN.out _ _ (B0.out.trans (hj.mono B0.out.size)) n _ HA.out.1 HA.out.2 hz
 clear hz
 go_wp2_with fail
 refine J_done (by kernel_rfl) (fun wk hk => ?_) _
 have hr3 := Lib.hid (hr2.grow hk)
 have hf3 := Lib.hid (hf2.grow hk)
 have hk3 := Lib.hid (hk2.trans (Kq.of_below hk))
 clear hr2 hf2 hk2 hk
 go_wp2_with fail
 go_ret
 exact ⟨vo, s, _, hr3.out, hf3.out, hk3.out, rfl, rfl, rfl, rfl, rfl⟩
theorem ins_11 (h : Rn k w vo s) (f : Fw k p bf bg c nm vob vbl vat low w vo regs) (i : In) (va : Value) (hop : i.op = 11) (hd : 0 ≤ i.d) (hd2 : i.d < (regs.length : Int)) (hi1 : 0 ≤ s.ins) (hi2 : s.ins ≤ 10000000) (hil : k.inp.length ≤ 1000000) (hiw : ∀ x ∈ k.inp, 0 ≤ x ∧ x < 4294967296) :
  Calls Tryz.prog 48 #[.pointer (some ⟨k.br, 0, none⟩), .pointer (some ⟨bf, 0, none⟩), iV i va] w (InsPost k p bf bg c nm vob vbl vat low w vo s (insM k.m k.inp p low i regs s.oc)) := by
 unfold iV
 obtain ⟨op, d_, a_, b_, fn, obj, off, size, num, args, log⟩ := i
 dsimp only at *
 subst hop
 obtain ⟨W0, hW0⟩ : ∃ W0, W0 = w.alloc (.cells #[.int .i64 11, .int .i64 d_, .int .i64 a_, .int .i64 b_, .int .i64 fn, .int .i64 obj, .int .i64 off, .int .i64 size, .int .u32 num, va, .bool log] 48) := ⟨_, rfl⟩
 have B0 : Hid (Below w.heap.size w W0) := by rw [hW0]; exact below_alloc w _
 have HW := Lib.hid (heap_of_alloc w (#[.int .i64 11, .int .i64 d_, .int .i64 a_, .int .i64 b_, .int .i64 fn, .int .i64 obj, .int .i64 off, .int .i64 size, .int .u32 num, va, .bool log]) _ hW0)
 have y := fun j => cell_of_heap HW.out j
 have HFN := Lib.hid (fin_set h f)
 have HR := Lib.hid h
 have HF := Lib.hid f
 have lbx : w.heap.size < W0.heap.size := by rw [hW0]; simp
 have lbf : bf < W0.heap.size := by have := f.bfLt; omega
 have lbr : k.br < W0.heap.size := by have := h.brLt; omega
 have x0 := (f.grow B0.out).cR
 have HSX := Lib.hid (fun n hn x => (f.grow B0.out).setC (w := W0) n hn x)
 have HGX := Lib.hid (fun n hn S hS => (f.grow B0.out).getK (w := W0) n hn S hS)
 obtain ⟨n, rfl⟩ := Int.eq_ofNat_of_zero_le hd
 have hb1 := SB1 bf bg w.heap.size
 have hb2 := SB2 bf bg w.heap.size
 have hb3 := SB3 bf bg w.heap.size
 have HL := Lib.hid (fun wj (hj : Below w.heap.size w wj) => input_c (h.grow hj) hi1 hi2 hil)
 have hX : 0 ≤ (if s.ins + 1 ≤ (k.inp.length : Int) then k.inp.getD s.ins.toNat 0 else 0) ∧ (if s.ins + 1 ≤ (k.inp.length : Int) then k.inp.getD s.ins.toNat 0 else 0) < 4294967296 := by
  split
  ·have : s.ins.toNat < k.inp.length := by omega
   have h2 : k.inp.getD s.ins.toNat 0 ∈ k.inp := by simp [List.getD, this]
   exact hiw _ h2
  ·decide
 rw [show insM k.m k.inp p low ⟨11, n, a_, b_, fn, obj, off, size, num, args, log⟩ regs s.oc = some (regs.set n (if s.ins + 1 ≤ (k.inp.length : Int) then k.inp.getD s.ins.toNat 0 else 0), { s.oc with ins := s.ins + 1 }) by
  rw [insM_11 rfl]
  dsimp only
  simp only [Int.toNat_natCast]
  rfl]
 generalize (if s.ins + 1 ≤ (k.inp.length : Int) then k.inp.getD s.ins.toNat 0 else 0) = V at *
 have HX := Lib.hid hX
 have HSB := Lib.hid (f.sb h)
 have hfb := f.bfLt.2
 have hgl : n < regs.length := by omega
 clear HSX HGX h f hd hX hiw hi1 hi2
 have y1 := y 1
 have y2 := y 2
 have y3 := y 3
 have y4 := y 4
 have y5 := y 5
 have y6 := y 6
 have y7 := y 7
 have y8 := y 8
 simp only [List.getElem?_toArray, List.getElem?_cons_zero, List.getElem?_cons_succ] at y1 y2 y3 y4 y5 y6 y7 y8
 clear y
 go_enter Tryz.func48, Tryz.ntmps48
 go_wp2_with fail
 rw [← hW0]
 clear hW0
 refine wp_region_junk (SB bf bg w.heap.size) (by kernel_rfl) ?_
 refine J_mobs [0, 1, 2, 3, 4, 5, 6] _ _ _ _ (by kernel_rfl) ?_
 simp only [List.map_cons, List.map_nil, List.getElem?_toArray, List.getElem?_cons_succ, List.getElem?_cons_zero, Option.getD_some, List.size_toArray, List.length_cons, List.length_nil, Nat.reduceAdd, Nat.reduceSub]
 repeat (go_big_quiet_step (fail))
 refine wpQuiet_nil ?_
 refine J_loud1 7 _ rfl (by kernel_rfl) ?_
 simp only [List.getElem_toArray, List.getElem_cons_succ, List.getElem_cons_zero]
 intro wj hj
 go_wp2_with fail
 have hj0 : Below w.heap.size w wj := B0.out.trans (hj.mono B0.out.size)
 refine (HL.out wj hj0).mono ?_
 rintro e w1 ⟨rfl, hr1, hk1⟩
 have hr1 := Lib.hid hr1
 have hk1 := Lib.hid hk1
 go_wp2_with fail
 refine ⟨hk1.out.keepX HSB.out, ?_⟩
 obtain ⟨hr2, hf2, hk2⟩ := fin_run HR.out HF.out hj0 hr1.out hk1.out (Below.refl _ _)
 have hk2 := Lib.hid hk2
 have HFN := Lib.hid (fin_set hr2 hf2)
 have HSet := Lib.hid (hf2.setC n hgl V)
 clear hr2 hf2
 refine J_last 8 _ rfl (by kernel_rfl) ?_
 simp only [List.getElem_toArray, List.getElem_cons_succ, List.getElem_cons_zero]
 intro wj hj
 go_wp2_with fail
 refine (HSet.out _ hj).mono ?_
 rintro e wz ⟨⟨u, rfl⟩, hz⟩
 obtain ⟨hr2, hf2, hk4⟩ := HFN.out _ _ hj n _ HX.out.1 HX.out.2 hz
 clear hz
 go_wp2_with fail
 refine J_done (by kernel_rfl) (fun wk hk => ?_) _
 have hr3 := Lib.hid (hr2.grow hk)
 have hf3 := Lib.hid (hf2.grow hk)
 have hk3 := Lib.hid ((hk2.out.trans hk4).trans (Kq.of_below hk))
 clear hr2 hf2 hk4 hk
 go_wp2_with fail
 go_ret
 exact ⟨vo, _, _, hr3.out, hf3.out, hk3.out, rfl, rfl, rfl, rfl, rfl⟩
theorem ins_12 (h : Rn k w vo s) (f : Fw k p bf bg c nm vob vbl vat low w vo regs) (i : In) (va : Value) (hop : i.op = 12) :
  Calls Tryz.prog 48 #[.pointer (some ⟨k.br, 0, none⟩), .pointer (some ⟨bf, 0, none⟩), iV i va] w (InsPost k p bf bg c nm vob vbl vat low w vo s (insM k.m k.inp p low i regs s.oc)) := by
 unfold iV
 obtain ⟨op, d_, a_, b_, fn, obj, off, size, num, args, log⟩ := i
 dsimp only at *
 subst hop
 obtain ⟨W0, hW0⟩ : ∃ W0, W0 = w.alloc (.cells #[.int .i64 12, .int .i64 d_, .int .i64 a_, .int .i64 b_, .int .i64 fn, .int .i64 obj, .int .i64 off, .int .i64 size, .int .u32 num, va, .bool log] 48) := ⟨_, rfl⟩
 have B0 : Hid (Below w.heap.size w W0) := by rw [hW0]; exact below_alloc w _
 have HW := Lib.hid (heap_of_alloc w (#[.int .i64 12, .int .i64 d_, .int .i64 a_, .int .i64 b_, .int .i64 fn, .int .i64 obj, .int .i64 off, .int .i64 size, .int .u32 num, va, .bool log]) _ hW0)
 have y := fun j => cell_of_heap HW.out j
 have HFN := Lib.hid (fin_set h f)
 have HR := Lib.hid h
 have HF := Lib.hid f
 have lbx : w.heap.size < W0.heap.size := by rw [hW0]; simp
 have lbf : bf < W0.heap.size := by have := f.bfLt; omega
 have lbr : k.br < W0.heap.size := by have := h.brLt; omega
 have x0 := (f.grow B0.out).cR
 have HSX := Lib.hid (fun n hn x => (f.grow B0.out).setC (w := W0) n hn x)
 have HGX := Lib.hid (fun n hn S hS => (f.grow B0.out).getK (w := W0) n hn S hS)
 rw [show insM k.m k.inp p low ⟨12, d_, a_, b_, fn, obj, off, size, num, args, log⟩ regs s.oc = some (regs, s.oc) by rw [insM_12 rfl]]
 clear HSX HGX h f
 have y1 := y 1
 have y2 := y 2
 have y3 := y 3
 have y4 := y 4
 have y5 := y 5
 have y6 := y 6
 have y7 := y 7
 have y8 := y 8
 simp only [List.getElem?_toArray, List.getElem?_cons_zero, List.getElem?_cons_succ] at y1 y2 y3 y4 y5 y6 y7 y8
 clear y
 go_enter Tryz.func48, Tryz.ntmps48
 go_wp2_with fail
 rw [← hW0]
 clear hW0
 go_ret
 exact ⟨vo, s, _, HR.out.grow B0.out, HF.out.grow B0.out, Kq.of_below B0.out, rfl, rfl, rfl, rfl, rfl⟩
theorem infoU32r : (Tryz.prog.info? 39).map (fun i => (i.zero, i.size, i.bytes)) = some (some (.int .u32 0), 1, 4) := by kernel_rfl
theorem ins_10 (h : Rn k w vo s) (f : Fw k p bf bg c nm vob vbl vat low w vo regs) (i : In) (va : Value) (hop : i.op = 10) (ha : 0 ≤ i.a) (ha2 : i.a < (regs.length : Int)) (hol : s.out.length ≤ 20000000) :
  Calls Tryz.prog 48 #[.pointer (some ⟨k.br, 0, none⟩), .pointer (some ⟨bf, 0, none⟩), iV i va] w (InsPost k p bf bg c nm vob vbl vat low w vo s (insM k.m k.inp p low i regs s.oc)) := by
 unfold iV
 obtain ⟨op, d_, a_, b_, fn, obj, off, size, num, args, log⟩ := i
 dsimp only at *
 subst hop
 obtain ⟨W0, hW0⟩ : ∃ W0, W0 = w.alloc (.cells #[.int .i64 10, .int .i64 d_, .int .i64 a_, .int .i64 b_, .int .i64 fn, .int .i64 obj, .int .i64 off, .int .i64 size, .int .u32 num, va, .bool log] 48) := ⟨_, rfl⟩
 have B0 : Hid (Below w.heap.size w W0) := by rw [hW0]; exact below_alloc w _
 have HW := Lib.hid (heap_of_alloc w (#[.int .i64 10, .int .i64 d_, .int .i64 a_, .int .i64 b_, .int .i64 fn, .int .i64 obj, .int .i64 off, .int .i64 size, .int .u32 num, va, .bool log]) _ hW0)
 have y := fun j => cell_of_heap HW.out j
 have HFN := Lib.hid (fin_set h f)
 have HR := Lib.hid h
 have HF := Lib.hid f
 have lbx : w.heap.size < W0.heap.size := by rw [hW0]; simp
 have lbf : bf < W0.heap.size := by have := f.bfLt; omega
 have lbr : k.br < W0.heap.size := by have := h.brLt; omega
 have x0 := (f.grow B0.out).cR
 have HSX := Lib.hid (fun n hn x => (f.grow B0.out).setC (w := W0) n hn x)
 have HGX := Lib.hid (fun n hn S hS => (f.grow B0.out).getK (w := W0) n hn S hS)
 obtain ⟨na, rfl⟩ := Int.eq_ofNat_of_zero_le ha
 obtain ⟨hA0, hA1⟩ := f.word na
 have HSB := Lib.hid (fun b (hb : b = k.br ∨ SB bf bg w.heap.size b) => show some b ≠ vo.ownBlock from by
  rcases hb with rfl | hb
  ·exact h.neO
  ·exact (f.sb h b hb).2.2)
 have HGet := Lib.hid (HGX.out na (by omega) (fun b => b = k.br ∨ SB bf bg w.heap.size b) (.inr (SB2 _ _ _)))
 have hb1 := SB1 bf bg w.heap.size
 have hb2 := SB2 bf bg w.heap.size
 have hb3 := SB3 bf bg w.heap.size
 have xo := (h.grow B0.out).cOut
 rw [show insM k.m k.inp p low ⟨10, d_, na, b_, fn, obj, off, size, num, args, log⟩ regs s.oc = some (regs, { s.oc with out := s.out ++ [regs.getD na 0] }) by
  rw [insM_10 rfl]
  unfold rg
  dsimp only
  simp only [Int.toNat_natCast]
  rfl]
 generalize regs.getD na 0 = XA at *
 clear HSX HGX h f ha
 have y1 := y 1
 have y2 := y 2
 have y3 := y 3
 have y4 := y 4
 have y5 := y 5
 have y6 := y 6
 have y7 := y 7
 have y8 := y 8
 simp only [List.getElem?_toArray, List.getElem?_cons_zero, List.getElem?_cons_succ] at y1 y2 y3 y4 y5 y6 y7 y8
 clear y
 go_enter Tryz.func48, Tryz.ntmps48
 go_wp2_with fail
 rw [← hW0]
 clear hW0
 refine wp_region_junk (fun b => b = k.br ∨ SB bf bg w.heap.size b) (by kernel_rfl) ?_
 refine J_mobs [0, 1, 2, 3, 4, 5, 6, 7, 8, 9, 10, 11] _ _ _ _ (by kernel_rfl) ?_
 simp only [List.map_cons, List.map_nil, List.getElem?_toArray, List.getElem?_cons_succ, List.getElem?_cons_zero, Option.getD_some, List.size_toArray, List.length_cons, List.length_nil, Nat.reduceAdd, Nat.reduceSub]
 repeat (go_big_quiet_step (fail))
 refine wpQuiet_nil ?_
 refine J_call 12 _ (.int .u32 XA) rfl (by kernel_rfl) rfl ?_ ?_
 all_goals simp only [List.getElem_toArray, List.getElem_cons_succ, List.getElem_cons_zero]
 ·intro wk hk
  go_wp2_with fail
  refine (HGet.out wk hk).mono ?_
  rintro e wz ⟨rfl, hb⟩
  go_wp2_with fail
  exact ⟨rfl, hb⟩
 simp only [Act.put, List.setIfInBounds_toArray, List.set_cons_succ, List.set_cons_zero]
 refine J_loud1 13 _ rfl (by kernel_rfl) ?_
 simp only [List.getElem_toArray, List.getElem_cons_succ, List.getElem_cons_zero]
 intro wj hj
 go_wp2_with fail
 refine ⟨KeepX.below (below_alloc _ _), ?_⟩
 have hj0 : Below w.heap.size w (wj.alloc (.cells #[.int .u32 XA] 39)) := (B0.out.trans (hj.mono B0.out.size)).trans ((below_alloc wj _).mono (by have := B0.out.size; have := hj.size; omega))
 have hq := fun j u hu => cell_new1 wj (.int .u32 XA) 39 wj.heap.size rfl j u hu
 clear hj
 generalize hWA : wj.alloc (.cells #[.int .u32 XA] 39) = WA at *
 refine J_loud1 14 _ rfl (by kernel_rfl) ?_
 simp only [List.getElem_toArray, List.getElem_cons_succ, List.getElem_cons_zero]
 intro wj hj
 have hj1 : Below w.heap.size w wj := hj0.trans (hj.mono hj0.size)
 refine appG 27 39 infoU32r Tryz.underlying27 rfl (by decide) (by decide) [.int .u32 XA] rfl (by simp [Value.oneCell']) (HR.out.grow hj1).oo rfl rfl rfl rfl (cell_ext hq hj) (by omega) (Nat.le_trans HR.out.below.size hj1.size) ?_
 intro v2 w2 O2 G2 D2
 obtain ⟨av, cv, rfl⟩ := row_shape O2
 refine ⟨fun b o v hb hv => cell_grown G2 (HSB.out b hb) hv, ?_⟩
 have O2 := Lib.hid O2
 have G2 := Lib.hid G2
 have D2 := Lib.hid D2
 simp only [Act.put, List.setIfInBounds_toArray, List.set_cons_succ, List.set_cons_zero]
 refine J_mobs [15, 16, 17] _ _ _ _ (by kernel_rfl) ?_
 simp only [List.map_cons, List.map_nil, List.getElem?_toArray, List.getElem?_cons_succ, List.getElem?_cons_zero, Option.getD_some, List.size_toArray, List.length_cons, List.length_nil, Nat.reduceAdd, Nat.reduceSub]
 repeat (go_big_quiet_step (fail))
 refine wpQuiet_nil ?_
 refine J_last 18 _ rfl (by kernel_rfl) ?_
 simp only [List.getElem_toArray, List.getElem_cons_succ, List.getElem_cons_zero]
 intro wj hj
 obtain ⟨hrA, hkA⟩ := (HR.out.grow hj1).app O2.out G2.out D2.out ‹_›
 obtain ⟨cO, fz, lbr2⟩ := (HR.out.grow hj1).app0 G2.out ‹_›
 have hrA := Lib.hid hrA
 have hkA := Lib.hid hkA
 have hj1 := Lib.hid hj1
 go_wp2_with fail
 refine J_done (by kernel_rfl) (fun wk hk => ?_) _
 obtain ⟨hr3, hf3, hk3⟩ := fin_run HR.out HF.out hj1.out hrA.out hkA.out hk
 have hr3 := Lib.hid hr3
 have hf3 := Lib.hid hf3
 have hk3 := Lib.hid hk3
 clear hrA hkA hk cO fz
 go_wp2_with fail
 go_ret
 exact ⟨_, _, regs, hr3.out, hf3.out, hk3.out, rfl, rfl, rfl, rfl, rfl⟩
end
end Go.Proofs.YtchoiankeohonaaGreatDoor
