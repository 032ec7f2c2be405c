/-
  FlowLives walked: which registers are live at the start and before the end of each block.
-/
import Derived.Test.YtnnhobbabcfogaaH4
import Derived.Test.YtnnhobbabcfogaaO
import Derived.Test.YtnnhobbabcfogaaE2
set_option linter.all false
namespace Go.Proofs.Ytnnhobbabcfogaa
open Go.ChangeShapes Go.WideShapes Go.ChangeAt Go.RowKit
set_option maxHeartbeats 2000000
set_option maxRecDepth 20000

theorem all_getD {α : Type} [Inhabited α] {f : α → Bool} {l : List α} (h : l.all f = true) {k : Nat} (hk : k < l.length) : f (l.getD k default) = true := by
  rw [List.all_eq_true] at h
  exact h _ (by simp [List.getD, hk])
theorem fewP_yes {p : Pr} (h : fewP p = true) : p.regs ≤ 30 ∧ p.blks.length ≤ 40 ∧ ∀ n, n < p.blks.length → (p.blks.getD n default).ins.length ≤ 60 ∧ ∀ k, k < (p.blks.getD n default).ins.length → ((p.blks.getD n default).ins.getD k default).args.length ≤ 12 := by
  unfold fewP at h
  rw [Bool.and_eq_true, decide_eq_true_eq] at h
  obtain ⟨h1, h2⟩ := h
  have h3 : prF p = true := by
    unfold fewM at h2
    simp only [Bool.and_eq_true, List.all_cons] at h2
    exact h2.2.2.2.1
  unfold prF at h3
  simp only [Bool.and_eq_true, decide_eq_true_eq] at h3
  obtain ⟨h4, -, h5⟩ := h3
  refine ⟨h1, h4, fun n hn => ?_⟩
  have h6 := all_getD h5 hn
  unfold blkF at h6
  simp only [Bool.and_eq_true, decide_eq_true_eq] at h6
  refine ⟨h6.1, fun k hk => ?_⟩
  have h7 := all_getD h6.2 hk
  unfold insF at h7
  simp only [Bool.and_eq_true, decide_eq_true_eq] at h7
  exact h7.2.2
end Go.Proofs.Ytnnhobbabcfogaa
