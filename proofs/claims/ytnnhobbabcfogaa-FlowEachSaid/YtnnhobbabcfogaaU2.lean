/-
  What is live behind each instruction: the marking carried back from the block's end is the search.
-/
import Derived.Test.YtnnhobbabcfogaaH1
set_option linter.all false
namespace Go.Proofs.Ytnnhobbabcfogaa

theorem live_at {p : Pr} {n : Nat} {lo : List Bool} (h : ∀ r : Nat, r < lo.length → lo.getD r false = liveP p n (p.blks.getD n default).ins.length r) (k : Nat) {r : Nat} (hr : r < lo.length) :
    (backK lo ((p.blks.getD n default).ins.drop k)).getD r false = liveP p n k r := by
  rw [backK_get _ _ _ hr]
  have e1 : lo.getD r false = true ↔ LvE p r n := by rw [h r hr]; exact liveP_end p n r
  rw [Bool.eq_iff_iff, liveP_iff]
  unfold LvE at e1
  have e2 : withinB (p.blks.getD n default) k r = if withinI r ((p.blks.getD n default).ins.drop k) = 0 then (if endReads (p.blks.getD n default) r = true then 1 else 0) else withinI r ((p.blks.getD n default).ins.drop k) := by
    unfold withinB; rfl
  rw [e2]
  simp only [Bool.or_eq_true, Bool.and_eq_true, decide_eq_true_eq, e1]
  rcases withinI_cases r ((p.blks.getD n default).ins.drop k) with h0 | h0 | h0 <;> rw [h0] <;> cases endReads (p.blks.getD n default) r <;> simp
theorem backK_step (lo : List Bool) (l : List In) (k : Nat) (hk : k < l.length) : backK lo (l.drop k) = beforeB (backK lo (l.drop (k + 1))) (l.getD k default) := by
  rw [drop_cons l k hk]; rfl
theorem backK_end (lo : List Bool) (l : List In) : backK lo (l.drop l.length) = lo := by simp [backK]
end Go.Proofs.Ytnnhobbabcfogaa
