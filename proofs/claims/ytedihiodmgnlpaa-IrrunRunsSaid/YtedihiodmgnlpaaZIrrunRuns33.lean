/-
 The document's run: the place of bytes, loads and stores.
-/
import Derived.Test.YtedihiodmgnlpaaZIrrunRuns19
import Derived.Test.YtedihiodmgnlpaaZIrrunRuns32
import Derived.Test.YtedihiodmgnlpaaZIrrunRuns17
import Derived.Test.YtedihiodmgnlpaaZIrrunRuns11
set_option linter.all false
namespace Go.Proofs.Ytedihiodmgnlpaa
open Go.ChangeShapes Go.WideShapes Go.ChangeAt Go.RowKit
set_option maxHeartbeats 4000000
set_option linter.unusedVariables false
set_option maxRecDepth 20000

section
variable {k : PK} {w0 w : World} {vt vo : Value} {s : Oc} {dn : Bool} {fs : List Kf} {f : Kf}
/-- what was made since a world stays -/
structure Since (w0 w w' : World) : Prop where
 size : w.heap.size ≤ w'.heap.size
 keep : ∀ b, w0.heap.size ≤ b → b < w.heap.size → w'.heap[b]? = w.heap[b]?
theorem Since.refl (w0 w : World) : Since w0 w w := ⟨Nat.le_refl _, fun _ _ _ => rfl⟩
theorem Since.trans {a b c : World} (h : Since w0 a b) (h' : Since w0 b c) : Since w0 a c := ⟨Nat.le_trans h.size h'.size, fun x h1 h2 => (h'.keep x h1 (Nat.lt_of_lt_of_le h2 h.size)).trans (h.keep x h1 h2)⟩
theorem Since.of_below {a b : World} (h : Below a.heap.size a b) : Since w0 a b := ⟨h.size, fun x _ h2 => h.block x h2⟩
theorem Since.set (w : World) {g j : Nat} (x : Value) (hg : g < w0.heap.size) : Since w0 w (w.setCell ⟨g, j, none⟩ x) := ⟨by simp, fun b h1 _ => heap_setCell_other w ⟨g, j, none⟩ b x (by simp only; omega)⟩
theorem Since.keepX {a b : World} {S : Nat → Prop} (h : Since w0 a b) (hS : ∀ x, S x → w0.heap.size ≤ x) : KeepX S a b := fun x o v hx hv =>
 (World.cell?_of_block (a := ⟨x, o, none⟩) (h.keep x (hS x hx) (World.block_lt_of_cell? a _ hv))).trans hv
/-- the run's own blocks lie below a world's end -/
structure Old (k : PK) (w0 w : World) (vt vo : Value) (fs : List Kf) : Prop where
 sz : w0.heap.size ≤ w.heap.size
 br : k.br < w0.heap.size
 bm : k.bm < w0.heap.size
 tt : ∀ g, vt.ownBlock = some g → g < w0.heap.size
 oo : ∀ g, vo.ownBlock = some g → g < w0.heap.size
 fr : ∀ f ∈ fs, f.bg < w0.heap.size
theorem bytes_yes (a size : Int) (br : Nat) (w : World) (ha1 : 0 ≤ a) (ha2 : a < 4294967296) (hs : size = 1 ∨ size = 4) (hp : placeF a size = true) :
  Calls Try.prog 132 #[.pointer (some ⟨br, 0, none⟩), .int .u32 a, .int .i64 size] w fun e w' => e = .returned (.int .i64 (a - 268435456)) ∧ w = w' := by
 unfold placeF at hp
 simp only [Bool.and_eq_true, decide_eq_true_eq] at hp
 obtain ⟨h1, h2, h3⟩ := hp
 have g1 : decide (a - 268435456 < 0) = false := decide_eq_false (by omega)
 have g2 : decide (65536 < a - 268435456 + size) = false := decide_eq_false (by omega)
 have HM := Lib.hid (by first | exact h3 | omega : (a - 268435456) % size = 0)
 rcases hs with rfl | rfl
 ·go_enter Try.func132, Try.ntmps132
  go_wp2_with fail
  go_ret
  exact ⟨rfl, rfl⟩
 ·have g4 : ((a - 268435456).tmod 4 != 0) = false := bne_eq_false_iff_eq.2 (by rw [Int.tmod_eq_emod_of_nonneg h1]; exact HM.out)
  have g5 : ((a - 268435456) % 4 != 0) = false := bne_eq_false_iff_eq.2 HM.out
  go_enter Try.func132, Try.ntmps132
  go_wp2_with fail
  go_ret
  exact ⟨rfl, rfl⟩
theorem bytes_no (a size : Int) (h : Pm k w vt vo s dn fs) (hbr : k.br < w0.heap.size) (ha1 : 0 ≤ a) (ha2 : a < 4294967296) (hs : size = 1 ∨ size = 4) (hp : placeF a size = false) :
  Calls Try.prog 132 #[.pointer (some ⟨k.br, 0, none⟩), .int .u32 a, .int .i64 size] w fun e w' => e = .returned (.int .i64 (-1)) ∧ Pm k w' vt vo { s with e := 12 } true fs ∧ Since w0 w w' ∧ ∀ b, b ≠ k.br → w'.heap[b]? = w.heap[b]? := by
 have hc : Hid (a - 268435456 < 0 ∨ 0 ≤ a - 268435456 ∧ 65536 - size < a - 268435456 ∨ 0 ≤ a - 268435456 ∧ a - 268435456 ≤ 65536 - size ∧ (a - 268435456) % size ≠ 0) := by
  unfold placeF at hp
  by_cases h1 : 0 ≤ a - 268435456
  ·by_cases h2 : a - 268435456 ≤ 65536 - size
   ·simp [h1, h2] at hp
    exact .inr (.inr ⟨h1, h2, hp (by omega)⟩)
   ·exact .inr (.inl ⟨h1, by omega⟩)
  ·exact .inl (by omega)
 clear hp
 rcases hc.out with h1 | ⟨h1, h2⟩ | ⟨h1, h2, h3⟩
 ·have g : decide (a - 268435456 < 0) = true := decide_eq_true h1
  clear hc h1
  rcases hs with rfl | rfl
  ·have z1 := h.c11
   have z2 := h.c12
   have z3 := h.fz 11
   have z4 := h.fz 12
   have lb := h.brLt.2
   have P1 := h.setF 11 (.int .i64 12) { s with e := 12 } dn rfl rfl rfl
   have P2 := Lib.hid (P1.setF 12 (.bool true) { s with e := 12 } true rfl rfl rfl)
   clear P1
   go_enter Try.func132, Try.ntmps132
   go_wp2_with fail
   go_ret
   exact ⟨rfl, P2.out, (Since.set w _ hbr).trans (Since.set _ _ hbr), fun b hb => (heap_setCell_other _ ⟨k.br, 12, none⟩ b _ hb).trans (heap_setCell_other w ⟨k.br, 11, none⟩ b _ hb)⟩
  ·have z1 := h.c11
   have z2 := h.c12
   have z3 := h.fz 11
   have z4 := h.fz 12
   have lb := h.brLt.2
   have P1 := h.setF 11 (.int .i64 12) { s with e := 12 } dn rfl rfl rfl
   have P2 := Lib.hid (P1.setF 12 (.bool true) { s with e := 12 } true rfl rfl rfl)
   clear P1
   go_enter Try.func132, Try.ntmps132
   go_wp2_with fail
   go_ret
   exact ⟨rfl, P2.out, (Since.set w _ hbr).trans (Since.set _ _ hbr), fun b hb => (heap_setCell_other _ ⟨k.br, 12, none⟩ b _ hb).trans (heap_setCell_other w ⟨k.br, 11, none⟩ b _ hb)⟩
 ·have g : decide (a - 268435456 < 0) = false := decide_eq_false (by omega)
  have g2 : decide (65536 < a - 268435456 + size) = true := decide_eq_true (by omega)
  clear hc h1
  rcases hs with rfl | rfl
  ·have z1 := h.c11
   have z2 := h.c12
   have z3 := h.fz 11
   have z4 := h.fz 12
   have lb := h.brLt.2
   have P1 := h.setF 11 (.int .i64 12) { s with e := 12 } dn rfl rfl rfl
   have P2 := Lib.hid (P1.setF 12 (.bool true) { s with e := 12 } true rfl rfl rfl)
   clear P1
   go_enter Try.func132, Try.ntmps132
   go_wp2_with fail
   go_ret
   exact ⟨rfl, P2.out, (Since.set w _ hbr).trans (Since.set _ _ hbr), fun b hb => (heap_setCell_other _ ⟨k.br, 12, none⟩ b _ hb).trans (heap_setCell_other w ⟨k.br, 11, none⟩ b _ hb)⟩
  ·have z1 := h.c11
   have z2 := h.c12
   have z3 := h.fz 11
   have z4 := h.fz 12
   have lb := h.brLt.2
   have P1 := h.setF 11 (.int .i64 12) { s with e := 12 } dn rfl rfl rfl
   have P2 := Lib.hid (P1.setF 12 (.bool true) { s with e := 12 } true rfl rfl rfl)
   clear P1
   go_enter Try.func132, Try.ntmps132
   go_wp2_with fail
   go_ret
   exact ⟨rfl, P2.out, (Since.set w _ hbr).trans (Since.set _ _ hbr), fun b hb => (heap_setCell_other _ ⟨k.br, 12, none⟩ b _ hb).trans (heap_setCell_other w ⟨k.br, 11, none⟩ b _ hb)⟩
 ·have g : decide (a - 268435456 < 0) = false := decide_eq_false (by omega)
  have g2 : decide (65536 < a - 268435456 + size) = false := decide_eq_false (by omega)
  rcases hs with rfl | rfl
  ·exact absurd (Int.emod_one _) h3
  ·have g3 : ((a - 268435456) % 4 != 0) = true := bne_iff_ne.2 h3
   have g4 : ((a - 268435456).tmod 4 != 0) = true := bne_iff_ne.2 (by rw [Int.tmod_eq_emod_of_nonneg h1]; exact h3)
   clear hc h2 h3
   have z1 := h.c11
   have z2 := h.c12
   have z3 := h.fz 11
   have z4 := h.fz 12
   have lb := h.brLt.2
   have P1 := h.setF 11 (.int .i64 12) { s with e := 12 } dn rfl rfl rfl
   have P2 := Lib.hid (P1.setF 12 (.bool true) { s with e := 12 } true rfl rfl rfl)
   clear P1
   go_enter Try.func132, Try.ntmps132
   go_wp2_with fail
   go_ret
   exact ⟨rfl, P2.out, (Since.set w _ hbr).trans (Since.set _ _ hbr), fun b hb => (heap_setCell_other _ ⟨k.br, 12, none⟩ b _ hb).trans (heap_setCell_other w ⟨k.br, 11, none⟩ b _ hb)⟩
end
end Go.Proofs.Ytedihiodmgnlpaa
