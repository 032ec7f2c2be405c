/-
 The document's run: the end of a block; a call begins.
-/
import Derived.Test.YtedihiodmgnlpaaZIrrunRuns35
import Derived.Test.YtedihiodmgnlpaaZIrrunRuns26
set_option linter.all false
namespace Go.Proofs.Ytedihiodmgnlpaa
open Go.ChangeShapes Go.WideShapes Go.ChangeAt Go.RowKit
set_option maxHeartbeats 4000000
set_option linter.unusedVariables false
set_option maxRecDepth 20000

section
variable {k : PK} {w0 w : World} {vt vo : Value} {s : Oc} {dn : Bool} {fs : List Kf} {f g : Kf}
theorem end_ret {bt c L : Nat} (h : Pm k w (.slice (some ⟨bt, 0, none⟩) (L + 1) c) vo s false (fs ++ [f])) (hL : fs.length = L) (b : Bk) (vi : Value) (hf : b.fin = 3) (ha : b.a = -1 ∨ 0 ≤ b.a ∧ b.a < (f.regs.length : Int)) (Q : World → Prop)
  (HB : ∀ wj, Below w.heap.size w wj → Calls Try.prog 131 #[.pointer (some ⟨k.br, 0, none⟩), .int .u32 (if b.a ≠ -1 then rg f.regs b.a else 0)] wj fun e w' => e = .returned (.tuple #[]) ∧ Q w') :
  Calls Try.prog 107 #[.pointer (some ⟨k.br, 0, none⟩), .int .i64 (L : Int), .agg #[vi, .int .i64 b.fin, .int .i64 b.a, .int .i64 b.to, .int .i64 b.els]] w fun e w' => e = .returned (.tuple #[]) ∧ Q w' := by
 have HB := Lib.hid HB
 obtain ⟨W1, hW1⟩ : ∃ W1, W1 = w.alloc (.cells #[vi, .int .i64 b.fin, .int .i64 b.a, .int .i64 b.to, .int .i64 b.els] 116) := ⟨_, rfl⟩
 have HB1 := Lib.hid (heap_of_alloc w _ _ hW1)
 have B1 : Below w.heap.size w W1 := by rw [hW1]; exact below_alloc w _
 have e1 : W1.heap.size = w.heap.size + 1 := by rw [hW1]; simp
 have h1 := h.grow B1
 obtain ⟨⟨g0, g1, g2, g3, g4⟩, lbt, hc1, hc2, fzt⟩ := h1.top hL
 have c5 := h1.c5
 have lbr := h1.brLt.2
 obtain ⟨W2, hW2⟩ : ∃ W2, W2 = W1.alloc (.cells #[.int .i64 f.n, .slice (some ⟨f.bg, 0, none⟩) f.regs.length f.regs.length, .int .i64 f.low, .int .i64 f.b, .int .i64 f.i] 160) := ⟨_, rfl⟩
 have HB2 := Lib.hid (heap_of_alloc W1 _ _ hW2)
 have B2 : Below W1.heap.size W1 W2 := by rw [hW2]; exact below_alloc W1 _
 have HB3 : Hid (W2.heap[w.heap.size]? = some (.cells #[vi, .int .i64 b.fin, .int .i64 b.a, .int .i64 b.to, .int .i64 b.els] 116 (0, 0))) := (B2.block _ (by omega)).trans HB1.out
 have BW : Hid (Below w.heap.size w W2) := B1.trans (B2.mono (by omega))
 rw [e1] at HB2
 have y := fun j => cell_of_heap HB3.out j
 have y1 := y 1
 have y2 := y 2
 have y3 := y 3
 have y4 := y 4
 have q := fun j => cell_of_heap HB2.out j
 have q1 := q 1
 simp only [List.getElem?_toArray, List.getElem?_cons_zero, List.getElem?_cons_succ] at y1 y2 y3 y4 q1
 clear y q
 have lb1 : w.heap.size < W2.heap.size := (Array.getElem?_eq_some_iff.1 HB3.out).1
 have lb2 : w.heap.size + 1 < W2.heap.size := (Array.getElem?_eq_some_iff.1 HB2.out).1
 have HP := Lib.hid (h.grow BW.out)
 have HB1' := Lib.hid HB1.out
 clear HB1 HB1' h1
 rw [hf] at y1
 have HFIN := Lib.hid hf
 clear hf
 by_cases hA : b.a = -1
 ·have gA : (b.a != -1) = false := bne_eq_false_iff_eq.2 hA
  have HX := Lib.hid (HB.out W2 BW.out)
  rw [if_neg (fun h => h hA)] at HX
  clear ha hA HB
  go_enter Try.func107, Try.ntmps107
  go_upto_region 1 with (fail)
  rw [← hW1]
  clear hW1
  go_upto_region 2 with (fail)
  rw [← hW2]
  clear hW2 e1 B1 B2 g0 g1 g2 g3 g4 c5 lbr
  go_wp2_with fail
  refine HX.out.mono ?_
  rintro e w5 ⟨rfl, hq⟩
  go_wp2_with fail
  refine bodyPost_ret (results_none rfl _ _ _) rfl ?_
  exact ⟨rfl, hq⟩
 ·have gA : (b.a != -1) = true := bne_iff_ne.2 hA
  have HX := Lib.hid (HB.out W2 BW.out)
  rw [if_pos hA] at HX
  rcases ha with ha | ⟨ha0, ha1⟩
  ·exact absurd ha hA
  obtain ⟨na, hna⟩ := Int.eq_ofNat_of_zero_le ha0
  rw [hna] at y2 gA ha1
  unfold rg at HX
  rw [hna, Int.toNat_natCast] at HX
  have hfr := HP.out.fr
  have cx := hfr.cX na (by omega)
  have cap := hfr.cap
  have lbg := hfr.lt.2
  generalize f.regs.getD na 0 = X at *
  have HNA := Lib.hid hna
  clear ha0 hA HB hna
  go_enter Try.func107, Try.ntmps107
  go_upto_region 1 with (fail)
  rw [← hW1]
  clear hW1
  go_upto_region 2 with (fail)
  rw [← hW2]
  clear hW2 e1 B1 B2 g0 g1 g2 g3 g4 c5 lbr
  go_wp2_with fail
  refine HX.out.mono ?_
  rintro e w5 ⟨rfl, hq⟩
  go_wp2_with fail
  refine bodyPost_ret (results_none rfl _ _ _) rfl ?_
  exact ⟨rfl, hq⟩
theorem end_go {bt c L : Nat} (h : Pm k w (.slice (some ⟨bt, 0, none⟩) (L + 1) c) vo s false (fs ++ [f])) (hL : fs.length = L) (b : Bk) (vi : Value) (tg : Nat)
  (hc : b.fin = 1 ∧ b.to = tg ∨ b.fin = 2 ∧ 0 ≤ b.a ∧ b.a < (f.regs.length : Int) ∧ (if rg f.regs b.a = 0 then b.els else b.to) = tg) :
  Calls Try.prog 107 #[.pointer (some ⟨k.br, 0, none⟩), .int .i64 (L : Int), .agg #[vi, .int .i64 b.fin, .int .i64 b.a, .int .i64 b.to, .int .i64 b.els]] w fun e w' => e = .returned (.tuple #[]) ∧ Pm k w' (.slice (some ⟨bt, 0, none⟩) (L + 1) c) vo s false (fs ++ [{ f with b := tg, i := 0 }]) := by
 obtain ⟨W1, hW1⟩ : ∃ W1, W1 = w.alloc (.cells #[vi, .int .i64 b.fin, .int .i64 b.a, .int .i64 b.to, .int .i64 b.els] 116) := ⟨_, rfl⟩
 have HB1 := Lib.hid (heap_of_alloc w _ _ hW1)
 have B1 : Below w.heap.size w W1 := by rw [hW1]; exact below_alloc w _
 have e1 : W1.heap.size = w.heap.size + 1 := by rw [hW1]; simp
 have h1 := h.grow B1
 obtain ⟨⟨g0, g1, g2, g3, g4⟩, lbt, hc1, hc2, fzt⟩ := h1.top hL
 have c5 := h1.c5
 have lbr := h1.brLt.2
 obtain ⟨W2, hW2⟩ : ∃ W2, W2 = W1.alloc (.cells #[.int .i64 f.n, .slice (some ⟨f.bg, 0, none⟩) f.regs.length f.regs.length, .int .i64 f.low, .int .i64 f.b, .int .i64 f.i] 160) := ⟨_, rfl⟩
 have HB2 := Lib.hid (heap_of_alloc W1 _ _ hW2)
 have B2 : Below W1.heap.size W1 W2 := by rw [hW2]; exact below_alloc W1 _
 have HB3 : Hid (W2.heap[w.heap.size]? = some (.cells #[vi, .int .i64 b.fin, .int .i64 b.a, .int .i64 b.to, .int .i64 b.els] 116 (0, 0))) := (B2.block _ (by omega)).trans HB1.out
 have BW : Hid (Below w.heap.size w W2) := B1.trans (B2.mono (by omega))
 rw [e1] at HB2
 have y := fun j => cell_of_heap HB3.out j
 have y1 := y 1
 have y2 := y 2
 have y3 := y 3
 have y4 := y 4
 have q := fun j => cell_of_heap HB2.out j
 have q1 := q 1
 simp only [List.getElem?_toArray, List.getElem?_cons_zero, List.getElem?_cons_succ] at y1 y2 y3 y4 q1
 clear y q
 have lb1 : w.heap.size < W2.heap.size := (Array.getElem?_eq_some_iff.1 HB3.out).1
 have lb2 : w.heap.size + 1 < W2.heap.size := (Array.getElem?_eq_some_iff.1 HB2.out).1
 have HP := Lib.hid (h.grow BW.out)
 have HB1' := Lib.hid HB1.out
 clear HB1 HB1' h1
 obtain ⟨-, lbt2, -, -, fzt2⟩ := HP.out.top hL
 have P1 := HP.out.setTop hL 3 (by decide) (.int .i64 tg) (f' := { f with b := tg }) rfl rfl rfl
 obtain ⟨⟨p0, p1, p2, p3, p4⟩, lbt3, -, -, fzt3⟩ := P1.top hL
 have d5 := HP.out.c5
 obtain ⟨⟨x0, x1, x2, x3, x4⟩, -, -, -, -⟩ := HP.out.top hL
 have d52 := P1.c5
 have P2 := Lib.hid (P1.setTop hL 4 (by decide) (.int .i64 0) (f' := { f with b := tg, i := 0 }) rfl rfl rfl)
 have lbr2 := HP.out.brLt.2
 have lbr3 := P1.brLt.2
 clear P1 p0 p1 p2 p3 x0 x1 x2 x4 fzt lbt
 rcases hc with ⟨h1, h2⟩ | ⟨h1, h3, h4, h2⟩
 ·rw [h1] at y1
  rw [h2] at y3
  have H1 := Lib.hid h1
  have H2 := Lib.hid h2
  clear h1 h2
  go_enter Try.func107, Try.ntmps107
  go_upto_region 1 with (fail)
  rw [← hW1]
  clear hW1
  go_upto_region 2 with (fail)
  rw [← hW2]
  clear hW2 e1 B1 B2 g0 g1 g2 g3 g4 c5 lbr
  go_wp2_with fail
  go_end0
  exact ⟨rfl, P2.out⟩
 ·rw [h1] at y1
  have H1 := Lib.hid h1
  have H2 := Lib.hid h2
  clear h1 h2
  obtain ⟨na, hna⟩ := Int.eq_ofNat_of_zero_le h3
  rw [hna] at y2 h4
  unfold rg at H2
  rw [hna, Int.toNat_natCast] at H2
  have hfr := HP.out.fr
  have cx := hfr.cX na (by omega)
  have cap := hfr.cap
  have lbg := hfr.lt.2
  generalize f.regs.getD na 0 = X at *
  have HNA := Lib.hid hna
  clear h3 hna
  by_cases hX : X = 0
  ·rw [if_pos hX] at H2
   rw [H2.out] at y4
   have gX : (X == 0) = true := beq_iff_eq.2 hX
   have HXX := Lib.hid hX
   clear hX
   go_enter Try.func107, Try.ntmps107
   go_upto_region 1 with (fail)
   rw [← hW1]
   clear hW1
   go_upto_region 2 with (fail)
   rw [← hW2]
   clear hW2 e1 B1 B2 g0 g1 g2 g3 g4 c5 lbr
   go_wp2_with fail
   go_end0
   exact ⟨rfl, P2.out⟩
  ·rw [if_neg hX] at H2
   rw [H2.out] at y3
   have gX : (X == 0) = false := beq_eq_false_iff_ne.2 hX
   have HXX := Lib.hid hX
   clear hX
   go_enter Try.func107, Try.ntmps107
   go_upto_region 1 with (fail)
   rw [← hW1]
   clear hW1
   go_upto_region 2 with (fail)
   rw [← hW2]
   clear hW2 e1 B1 B2 g0 g1 g2 g3 g4 c5 lbr
   go_wp2_with fail
   go_end0
   exact ⟨rfl, P2.out⟩
end
end Go.Proofs.Ytedihiodmgnlpaa
