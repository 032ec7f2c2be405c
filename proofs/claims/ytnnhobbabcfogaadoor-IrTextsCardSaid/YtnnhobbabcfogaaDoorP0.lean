/-
  What few modules are like: plain.
-/
import Derived.Test.YtnnhobbabcfogaaDoorH3
import Derived.Test.YtnnhobbabcfogaaDoorC0
set_option linter.all false
namespace Go.Proofs.YtnnhobbabcfogaaDoor
set_option linter.unusedVariables false

theorem fewM_sz {m : Md} (h : fewM m = true) : SzM m := by
  unfold fewM at h
  simp only [Bool.and_eq_true, List.all_eq_true] at h
  refine ⟨fun p hp => ?_⟩
  have h2 := h.2.2.2 p hp
  unfold prF at h2
  simp only [Bool.and_eq_true, decide_eq_true_eq, List.all_eq_true] at h2
  refine ⟨by omega, fun b hb => ?_⟩
  have h3 := h2.2.2 b hb
  unfold blkF at h3
  simp only [Bool.and_eq_true, decide_eq_true_eq] at h3
  omega
theorem fewM_pr {m : Md} (h : fewM m = true) {p : Pr} (hp : p ∈ m.procs) : p.blks.length ≤ 40 ∧ p.objs.length ≤ 20 ∧ ∀ b ∈ p.blks, b.ins.length ≤ 60 ∧ ∀ i ∈ b.ins, insF i = true := by
  unfold fewM at h
  simp only [Bool.and_eq_true, List.all_eq_true] at h
  have h2 := h.2.2.2 p hp
  unfold prF at h2
  simp only [Bool.and_eq_true, decide_eq_true_eq, List.all_eq_true] at h2
  refine ⟨h2.1, h2.2.1, fun b hb => ?_⟩
  have h3 := h2.2.2 b hb
  unfold blkF at h3
  simp only [Bool.and_eq_true, decide_eq_true_eq, List.all_eq_true] at h3
  exact h3
theorem insF_args {i : In} (h : insF i = true) : i.args.length ≤ 12 := by
  unfold insF at h
  simp only [Bool.and_eq_true, decide_eq_true_eq] at h
  exact h.2.2
end Go.Proofs.YtnnhobbabcfogaaDoor
