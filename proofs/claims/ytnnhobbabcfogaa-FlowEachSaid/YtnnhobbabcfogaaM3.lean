/-
  The cells of an own row of numbers.
-/
import Derived.Test.YtnnhobbabcfogaaF2
import Derived.Laws.OwnMore
set_option linter.all false
namespace Go.Proofs.Ytnnhobbabcfogaa
open Go.ChangeShapes Go.WideShapes Go.ChangeAt Go.RowKit

theorem OwnI.cellAt {w : World} {B g n c : Nat} {l : List Int} (h : OwnI w B (.slice (some ⟨g, 0, none⟩) n c) l) : n = l.length ∧ n ≤ c ∧ c ≤ maxLen ∧ B ≤ g ∧ (∀ i, i < n → w.cell? ⟨g, i, none⟩ = some (.int .i64 (l.getD i 0))) ∧ ∀ i, w.frozen? ⟨g, i, none⟩ = false := by
  obtain ⟨ad, cp, h1, h2, h3, h4⟩ := h.rd
  simp only [Value.slice.injEq] at h1
  obtain ⟨rfl, rfl, rfl⟩ := h1
  have hf := World.ownsRow.frozenAt h
  obtain ⟨_, ⟨h5, _⟩ | ⟨g', cap, cur, h5, hb, _⟩⟩ := h
  · simp at h5
  · simp only [Value.slice.injEq, Option.some.injEq, Addr.mk.injEq] at h5
    refine ⟨rfl, h2, h3, by omega, fun i hi => ?_, hf⟩
    obtain ⟨b, o, e, hc⟩ := h4 i hi
    simp only [Option.some.injEq, Addr.mk.injEq] at e
    obtain ⟨rfl, rfl, _⟩ := e
    simpa using hc
end Go.Proofs.Ytnnhobbabcfogaa
