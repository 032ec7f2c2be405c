/-
  What stands in procedures that are right; rows of numbers, one by one.
-/
import Derived.Test.YtnnhobbabcfogaaDoorC0
set_option linter.all false
namespace Go.Proofs.YtnnhobbabcfogaaDoor
open Go Go.RowKit
set_option linter.unusedVariables false

structure Head (p : Pr) : Prop where
  p0 : 0 ≤ p.params
  p6 : p.params ≤ 6
  pr : p.params ≤ p.regs
  r8 : p.regs ≤ 8000
  ol : p.objs.length ≤ 400
  b1 : 1 ≤ p.blks.length
  b4 : p.blks.length ≤ 4000
  sl : p.objs.all slotF = true
theorem okP_head {m : Md} {p : Pr} (h : okP m p = true) : Head p := by
  unfold okP okHead at h
  simp only [Bool.and_eq_true, decide_eq_true_eq] at h
  obtain ⟨⟨h1, h2, h3, h4, h5, h6, h7, h8, h9⟩, -⟩ := h
  exact ⟨h1, h2, h3, h4, h5, h6, h7, h8⟩
theorem okP_blk {m : Md} {p : Pr} (h : okP m p = true) {b : Nat} (hb : b < p.blks.length) : okB m p (p.blks.getD b default) = true := by
  unfold okP at h
  simp only [Bool.and_eq_true] at h
  have h2 := h.2
  rw [List.all_eq_true] at h2
  exact h2 _ (by simp [List.getD, hb])
theorem okB_ins {m : Md} {p : Pr} {b : Bk} (h : okB m p b = true) {i : Nat} (hi : i < b.ins.length) : okI m p (b.ins.getD i default) = true := by
  unfold okB at h
  simp only [Bool.and_eq_true] at h
  have h2 := h.1
  rw [List.all_eq_true] at h2
  exact h2 _ (by simp [List.getD, hi])
theorem okB_end {m : Md} {p : Pr} {b : Bk} (h : okB m p b = true) : endF p b = true := by
  unfold okB at h
  simp only [Bool.and_eq_true] at h
  exact h.2
theorem RdI.at' {w : World} {a : Option Addr} {n c : Nat} {l : List Int} (h : RdI w (.slice a n c) l) : n = l.length ∧ ∀ k, k < l.length → ∃ b o, a = some ⟨b, o, none⟩ ∧ w.cell? ⟨b, o + k, none⟩ = some (.int .i64 (l.getD k 0)) := by
  obtain ⟨a', c', e, h1, h2, hc⟩ := h
  simp only [Value.slice.injEq] at e
  obtain ⟨rfl, rfl, rfl⟩ := e
  refine ⟨rfl, fun k hk => ?_⟩
  obtain ⟨b, o, rfl, h0⟩ := hc k hk
  exact ⟨b, o, rfl, by simpa using h0⟩
end Go.Proofs.YtnnhobbabcfogaaDoor
