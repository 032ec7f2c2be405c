/-
  Contracts of the statements' Begins and Same; sizes of what statements go through.
-/
import Derived.Test.YtedihiodmgnlpaaR16
import Derived.Test.YtedihiodmgnlpaaP1
set_option linter.all false
namespace Go.Proofs.Ytedihiodmgnlpaa
open Go.ChangeShapes Go.WideShapes Go.ChangeAt Go.RowKit
set_option maxHeartbeats 8000000
set_option linter.unusedVariables false
set_option maxRecDepth 100000

theorem below_drewNr {B : Nat} {w w1 : World} (h : Below B w w1) (n : Nat) : Below B w (w1.drewN n) := ⟨h.os, h.tape, h.output, h.size, h.block⟩
theorem prefix_at {a b : List Int} (h : a <+: b) (i : Nat) (hi : i < a.length) : a.getD i 0 = b.getD i 0 := by
  obtain ⟨t, rfl⟩ := h
  rw [List.getD, List.getD, List.getElem?_append_left hi]
theorem begins_yes (a b : List Int) (va vb : Value) (w : World) (ha : RdW w va a) (hb : RdW w vb b) (hp : a <+: b) :
    Calls Try.prog 39 #[va, vb] w fun e w' => e = .returned (.bool true) ∧ Below w.heap.size w w' := by
  obtain ⟨aa, ca, rfl, h1, h2, h3⟩ := ha
  obtain ⟨ab, cb, rfl, h1', h2', h3'⟩ := hb
  unfold maxLen at h2 h2'
  have H := Lib.hid h3
  have H' := Lib.hid h3'
  have hl := hp.length_le
  have HP := Lib.hid hp
  have g0 : decide ((b.length : Int) < (a.length : Int)) = false := decide_eq_false (by omega)
  have g1 : decide (b.length < a.length) = false := decide_eq_false (by omega)
  clear h3 h3' hp
  go_enter Try.func39, Try.ntmps39
  go_wp2_with fail
  go_loopw [5] (fun i wr => ∃ k : Nat, k ≤ a.length ∧ i = .int .i64 (k : Int) ∧ Hid (Below w.heap.size w wr)) (fun i _ => a.length - (intOf i).toNat)
  case atStart => exact ⟨0, Nat.zero_le _, rfl, Below.refl _ _⟩
  case round =>
    obtain ⟨k, hk, rfl, hB⟩ := hrel
    by_cases hlt : k < a.length
    · obtain ⟨ba, oa, rfl, hc⟩ := H.out k hlt
      obtain ⟨bb, ob, rfl, hc'⟩ := H'.out k (by omega)
      simp only [Nat.mul_one, Nat.add_zero] at hc hc'
      replace hc := Ext.below hB.out _ _ hc
      replace hc' := Ext.below hB.out _ _ hc'
      rw [← prefix_at HP.out k hlt] at hc'
      have hlb : k < b.length := by omega
      generalize a.getD k 0 = x at *
      go_wp2_with fail
      go_quiet (fail)
      go_wp2_with fail
      go_roundw
      case rel => exact ⟨k + 1, by omega, by go_num, below_drewNr hB.out _⟩
      case measure => simp [intOf]; omega
    · go_wp2_with fail
      go_ret
      exact ⟨rfl, hB.out⟩
theorem OutV.rd {B : Nat} {w w' : World} {v : Value} {o : Oc} (h : OutV B w v o) (he : Below w.heap.size w w') : ∃ a c, v = .agg #[.slice a o.out.length c, .int .i64 o.ins, .int .u32 o.exit, .int .i64 o.e] ∧ RdW w' (.slice a o.out.length c) o.out := by
  obtain ⟨vo, rfl, ho⟩ := h
  obtain ⟨a, c, rfl⟩ := row_shape ho
  exact ⟨a, c, rfl, own_rows 0 (own_below ho he)⟩
/-- the same outcome is the same -/
theorem same_yes (o : Oc) (a b : Option Addr) (c d : Nat) (w : World) (ha : RdW w (.slice a o.out.length c) o.out) (hb : RdW w (.slice b o.out.length d) o.out) :
    Calls Try.prog 32 #[.agg #[.slice a o.out.length c, .int .i64 o.ins, .int .u32 o.exit, .int .i64 o.e], .agg #[.slice b o.out.length d, .int .i64 o.ins, .int .u32 o.exit, .int .i64 o.e]] w fun e w' => e = .returned (.bool true) ∧ Below w.heap.size w w' := by
  have HB := Lib.hid (fun w' (he : Ext w w') => begins_yes o.out o.out _ _ w' (ha.ext he) (hb.ext he) (List.prefix_refl _))
  clear ha hb
  generalize o.out.length = n at *
  generalize o.ins = x at *
  generalize o.exit = y at *
  generalize o.e = z at *
  go_enter Try.func32, Try.ntmps32
  go_wp2_with fail
  have hb2 : Below w.heap.size w ((w.alloc (.cells #[.slice a n c, .int .i64 x, .int .u32 y, .int .i64 z] 70)).alloc (.cells #[.slice b n d, .int .i64 x, .int .u32 y, .int .i64 z] 70)) := (below_alloc w _).trans ((below_alloc _ _).mono (by simp))
  refine (HB.out _ (Ext.below hb2)).mono ?_
  rintro e w3 ⟨rfl, hb3⟩
  have h0 : w3.heap[w.heap.size]? = some (.cells #[.slice a n c, .int .i64 x, .int .u32 y, .int .i64 z] 70 (0, 0)) :=
    (hb3.block w.heap.size (by simp; omega)).trans ((allocs_heap [.cells #[.slice a n c, .int .i64 x, .int .u32 y, .int .i64 z] 70, .cells #[.slice b n d, .int .i64 x, .int .u32 y, .int .i64 z] 70] w 0 (by simp)))
  have h1 : w3.heap[w.heap.size + 1]? = some (.cells #[.slice b n d, .int .i64 x, .int .u32 y, .int .i64 z] 70 (0, 0)) :=
    (hb3.block (w.heap.size + 1) (by simp)).trans ((allocs_heap [.cells #[.slice a n c, .int .i64 x, .int .u32 y, .int .i64 z] 70, .cells #[.slice b n d, .int .i64 x, .int .u32 y, .int .i64 z] 70] w 1 (by simp)))
  have a1 := cell_of_heap h0 1
  have a2 := cell_of_heap h0 2
  have a3 := cell_of_heap h0 3
  have b1 := cell_of_heap h1 1
  have b2 := cell_of_heap h1 2
  have b3 := cell_of_heap h1 3
  simp only [List.getElem?_toArray, List.getElem?_cons_zero, List.getElem?_cons_succ] at a1 a2 a3 b1 b2 b3
  have l0 : w.heap.size < w3.heap.size := (Array.getElem?_eq_some_iff.1 h0).1
  have l1 : w.heap.size + 1 < w3.heap.size := (Array.getElem?_eq_some_iff.1 h1).1
  have hbe := Lib.hid (hb2.trans (hb3.mono hb2.size))
  clear h0 h1 hb3 hb2
  go_wp2_with fail
  go_ret
  exact ⟨rfl, hbe.out⟩
theorem few_sz {m : Md} (h : fewM m = true) : SzM m := by
  unfold fewM at h
  simp only [Bool.and_eq_true, List.all_eq_true] at h
  refine ⟨fun p hp => ?_⟩
  have h2 := h.2.2.2 p hp
  unfold prF at h2
  simp only [Bool.and_eq_true, decide_eq_true_eq, List.all_eq_true] at h2
  refine ⟨by omega, fun b hb => ?_⟩
  have h3 := h2.2.2 b hb
  unfold blkF at h3
  simp only [Bool.and_eq_true, decide_eq_true_eq] at h3
  omega
end Go.Proofs.Ytedihiodmgnlpaa
