/-
  The worked example of layer 5, and the statement on too many items.
-/
import Derived.Test.YtedihiodmgnlpaaA22
set_option linter.all false
namespace Go.Proofs.Ytedihiodmgnlpaa
open Go.ChangeShapes Go.WideShapes Go.ChangeAt Go.RowKit Go.Maps
set_option maxHeartbeats 4000000
set_option linter.unusedVariables false
set_option maxRecDepth 100000

theorem RdT.of_heap {w : World} {b : Nat} {t : TypeId} {fr : Nat × Nat} (L : List It) (h : w.heap[b]? = some (.cells (L.flatMap itVs).toArray t fr)) (hl : L.length ≤ maxLen) : RdT w (.slice (some ⟨b, 0, none⟩) L.length L.length) L := by
  refine ⟨_, _, rfl, Nat.le_refl _, hl, fun i hi => ⟨b, 0, rfl, itC_of fun j u hu => ?_⟩⟩
  have hj : j < 7 := by have := (List.getElem?_eq_some_iff.1 hu).1; exact this
  have := cell_of_heap h (i * 7 + j)
  show w.cell? ⟨b, 0 + i * 7 + j, none⟩ = some u
  rw [Nat.zero_add, this, ← hu]
  have := flat_at itVs 7 itVs_len L i j hi hj
  simpa using this
theorem rdW_2 {w : World} {v : Value} {x y : Int} (h : RdW w v [x, y]) : ∃ b o c, v = .slice (some ⟨b, o, none⟩) 2 c ∧ w.cell? ⟨b, o, none⟩ = some (.int .u32 x) ∧ w.cell? ⟨b, o + 1, none⟩ = some (.int .u32 y) ∧ 2 ≤ c ∧ c ≤ maxLen := by
  obtain ⟨a, c, rfl, h1, h2, h3⟩ := h
  obtain ⟨b, o, rfl, k0⟩ := h3 0 (by simp)
  obtain ⟨b', o', e, k1⟩ := h3 1 (by simp)
  cases e
  exact ⟨b, o, c, rfl, k0, k1, h1, h2⟩
theorem rdI_1 {w : World} {v : Value} {x : Int} (h : RdI w v [x]) : ∃ b o c, v = .slice (some ⟨b, o, none⟩) 1 c ∧ w.cell? ⟨b, o, none⟩ = some (.int .i64 x) ∧ 1 ≤ c ∧ c ≤ maxLen := by
  obtain ⟨a, c, rfl, h1, h2, h3⟩ := h
  obtain ⟨b, o, rfl, k0⟩ := h3 0 (by simp)
  exact ⟨b, o, c, rfl, k0, h1, h2⟩
def exL : List It := [⟨2, ⟨0, 0, 0, 0, 0⟩, 0⟩, ⟨1, ⟨19, 1, 1, 0, -1⟩, 0⟩, ⟨3, ⟨6, 0, 1, 0, 0⟩, 0⟩]
def exC : List It := [⟨5, ⟨0, 5, 0, 0, 305419896⟩, 0⟩]
theorem exL_E : asmE exL = 0 := by decide +kernel
theorem exL_W : asmW exL = [4293951635, 4261453539] := by decide +kernel
theorem exL_L : asmL exL = [0] := by decide +kernel
theorem exC_E : asmE exC = 0 := by decide +kernel
theorem exC_W : asmW exC = [305418935, 1736606355] := by decide +kernel
theorem awake5_c (w : World) : Calls Try.prog 12 #[] w fun e w' => e = .returned (.bool true) ∧ Below w.heap.size w w' := by
  have A1 : Hid (∀ w v, RdT w v exL → Calls Try.prog 14 #[v] w fun e w' => ∃ v u, e = .returned (.tuple #[v, u, .int .i64 0]) ∧ RdW w' v [4293951635, 4261453539] ∧ RdI w' u [0] ∧ Below w.heap.size w w') := fun w v h => by
    have := assemble_c exL v w h
    unfold AsmP at this
    rw [exL_E, exL_W, exL_L] at this
    exact this
  have A2 : Hid (∀ w v, RdT w v exC → Calls Try.prog 14 #[v] w fun e w' => ∃ v u, e = .returned (.tuple #[v, u, .int .i64 0]) ∧ RdW w' v [305418935, 1736606355] ∧ Below w.heap.size w w') := fun w v h => by
    have := assemble_c exC v w h
    unfold AsmP at this
    rw [exC_E, exC_W] at this
    exact this.mono fun e w' ⟨a, b, h1, h2, h3, h4⟩ => ⟨a, b, h1, h2, h4⟩
  have I1 := Lib.hid (fun w => alabel_c 0 w)
  have I2 := Lib.hid (fun w => ainst_c 19 1 1 0 (-1) w)
  have I3 := Lib.hid (fun w => abranch_c 6 1 0 0 w)
  have I4 := Lib.hid (fun w => aconst_c 5 305419896 w (by decide) (by decide))
  simp only [It.v] at I1 I2 I3 I4
  go_enter Try.func12, Try.ntmps12
  go_wp2_with fail
  refine (I1.out _).mono ?_
  rintro e w1 ⟨rfl, hb1⟩
  have B1 := Lib.hid hb1
  clear hb1
  go_wp2_with fail
  refine (I2.out _).mono ?_
  rintro e w2 ⟨rfl, hb2⟩
  have B2 : Hid (Below w.heap.size w w2) := B1.out.trans (hb2.mono B1.out.size)
  clear hb2 B1
  go_wp2_with fail
  refine (I3.out _).mono ?_
  rintro e w3 ⟨rfl, hb3⟩
  have B3 : Hid (Below w.heap.size w w3) := B2.out.trans (hb3.mono B2.out.size)
  clear hb3 B2
  go_wp2_with fail
  refine (A1.out _ _ (RdT.of_heap exL (heap_new _ _ _ rfl) (by decide))).mono ?_
  rintro e w4 ⟨v, u, rfl, hv, hu, hb4⟩
  have B4 : Hid (Below w.heap.size w w4) := (B3.out.trans ((below_a1 _ _).mono B3.out.size)).trans (hb4.mono (by have := B3.out.size; simp; omega))
  clear hb4 B3
  obtain ⟨b1, o1, c1, rfl, k1, k2, -, -⟩ := rdW_2 hv
  obtain ⟨b2, o2, c2, rfl, k3, -, -⟩ := rdI_1 hu
  have l1 : b1 < w4.heap.size := World.block_lt_of_cell? w4 _ k2
  have l2 : b2 < w4.heap.size := World.block_lt_of_cell? w4 _ k3
  have K2 := Lib.hid k2
  have K3 := Lib.hid k3
  clear hv hu k1 k2 k3
  go_wp2_with fail
  refine (I4.out _).mono ?_
  rintro e w5 ⟨rfl, hb5⟩
  have K2 : Hid (w5.cell? ⟨b1, o1 + 1, none⟩ = _) := (hb5.cell (p := ⟨b1, o1 + 1, none⟩) l1).trans K2.out
  have K3 : Hid (w5.cell? ⟨b2, o2, none⟩ = _) := (hb5.cell (p := ⟨b2, o2, none⟩) l2).trans K3.out
  have l1 : b1 < w5.heap.size := Nat.lt_of_lt_of_le l1 hb5.size
  have l2 : b2 < w5.heap.size := Nat.lt_of_lt_of_le l2 hb5.size
  have B5 : Hid (Below w.heap.size w w5) := B4.out.trans (hb5.mono B4.out.size)
  clear hb5 B4
  go_wp2_with fail
  refine (A2.out _ _ (RdT.of_heap exC (heap_new _ _ _ rfl) (by decide))).mono ?_
  rintro e w6 ⟨v, u, rfl, hv, hb6⟩
  have hb6 : Below w5.heap.size w5 w6 := (below_a1 _ _).trans (hb6.mono (by simp))
  have k2 : w6.cell? ⟨b1, o1 + 1, none⟩ = _ := (hb6.cell (p := ⟨b1, o1 + 1, none⟩) l1).trans K2.out
  have k3 : w6.cell? ⟨b2, o2, none⟩ = _ := (hb6.cell (p := ⟨b2, o2, none⟩) l2).trans K3.out
  have B6 : Hid (Below w.heap.size w w6) := B5.out.trans (hb6.mono B5.out.size)
  obtain ⟨b3, o3, c3, rfl, k4, k5, -, -⟩ := rdW_2 hv
  clear hb6 B5 hv A1 A2 I1 I2 I3 I4
  go_wp2_with fail
  go_ret
  exact ⟨rfl, B6.out⟩
end Go.Proofs.Ytedihiodmgnlpaa
