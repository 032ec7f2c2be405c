/-
  The contract of the sheet's grow: the branches that are far, round by round, till none more is.
-/
import Derived.Test.YtedihiodmgnlpaaA7
import Derived.ScopeJumps
import Derived.WalkMore
set_option linter.all false
namespace Go.Proofs.Ytedihiodmgnlpaa
open Go.ChangeShapes Go.WideShapes Go.ChangeAt Go.RowKit
set_option maxHeartbeats 4000000
set_option linter.unusedVariables false
set_option maxRecDepth 20000

def wayF (L : List It) (far : List Bool) (lab : List Int) (k : Nat) : Int := (lbF L far lab L.length).getD (L.getD k default).label.toNat 0 - posF L far k
def trgF (L : List It) (far : List Bool) (lab : List Int) (k : Nat) : Bool := (L.getD k default).kind == 3 && !(far.getD k false) && (decide (wayF L far lab k < -4096) || decide (4094 < wayF L far lab k))
def stF (L : List It) (far : List Bool) (lab : List Int) : Nat → List Bool
  | 0 => far
  | k + 1 => if trgF L far lab k = true then (stF L far lab k).set k true else stF L far lab k
def gF (L : List It) (far : List Bool) (lab : List Int) : Nat → Bool
  | 0 => false
  | k + 1 => gF L far lab k || trgF L far lab k
theorem stF_len (L : List It) (far : List Bool) (lab : List Int) (k : Nat) : (stF L far lab k).length = far.length := by
  induction k with
  | zero => rfl
  | succ k ih => unfold stF; split <;> simp [ih]
theorem stF_at (L : List It) (far : List Bool) (lab : List Int) : ∀ (k j : Nat), (stF L far lab k).getD j false = (if j < k ∧ trgF L far lab j = true ∧ j < far.length then true else far.getD j false)
  | 0, j => by simp [stF]
  | k + 1, j => by
    unfold stF
    have ih := stF_at L far lab k j
    have hl := stF_len L far lab k
    by_cases ht : trgF L far lab k = true
    · rw [if_pos ht]
      by_cases e : j = k
      · subst e
        by_cases hj : j < far.length
        · simp [List.getD, hl, hj, ht]
        · simp [List.getD, hl, hj]
      · simp only [List.getD, List.getElem?_set_ne (Ne.symm e)] at ih ⊢
        rw [ih]
        by_cases h1 : j < k
        · have h1' : j < k + 1 := by omega
          simp only [h1, h1', true_and]
        · rw [if_neg (by omega), if_neg (by omega)]
    · rw [if_neg ht, ih]
      by_cases e : j = k
      · subst e; rw [if_neg (by omega), if_neg (fun h => ht h.2.1)]
      · by_cases h1 : j < k
        · have h1' : j < k + 1 := by omega
          simp only [h1, h1', true_and]
        · rw [if_neg (by omega), if_neg (by omega)]
theorem gF_no (L : List It) (far : List Bool) (lab : List Int) : ∀ k, gF L far lab k = false → ∀ j, j < k → trgF L far lab j = false
  | 0, _, j, h => absurd h (Nat.not_lt_zero j)
  | k + 1, h, j, hj => by
    unfold gF at h
    rw [Bool.or_eq_false_iff] at h
    by_cases e : j = k
    · subst e; exact h.2
    · exact gF_no L far lab k h.1 j (by omega)
theorem gF_yes (L : List It) (far : List Bool) (lab : List Int) : ∀ k, gF L far lab k = true → ∃ j, j < k ∧ trgF L far lab j = true
  | 0, h => by simp [gF] at h
  | k + 1, h => by
    unfold gF at h
    rw [Bool.or_eq_true] at h
    rcases h with h | h
    · obtain ⟨j, h1, h2⟩ := gF_yes L far lab k h; exact ⟨j, by omega, h2⟩
    · exact ⟨k, by omega, h⟩
/-- one round -/
def rndF (L : List It) (lab : List Int) (far : List Bool) : List Bool := stF L far lab L.length
def itF (L : List It) (lab : List Int) (far : List Bool) : Nat → List Bool
  | 0 => far
  | m + 1 => rndF L lab (itF L lab far m)
/-- the place of label j among the first k items, the last one -/
theorem lbF_at (L : List It) (far : List Bool) (lab : List Int) (hL : LabOk L lab.length) : ∀ k, k ≤ L.length → ∀ j : Nat, j < lab.length →
    ((∃ i, i < k ∧ (L.getD i default).kind = 2 ∧ (L.getD i default).label = (j : Int)) → ∀ lab', LabOk L lab'.length → j < lab'.length → (lbF L far lab k).getD j 0 = (lbF L far lab' k).getD j 0) ∧
    ((¬ ∃ i, i < k ∧ (L.getD i default).kind = 2 ∧ (L.getD i default).label = (j : Int)) → (lbF L far lab k).getD j 0 = lab.getD j 0)
  | 0, _, j, hj => ⟨fun ⟨i, h, _⟩ => absurd h (Nat.not_lt_zero i), fun _ => rfl⟩
  | k + 1, hk, j, hj => by
    obtain ⟨i1, i2⟩ := lbF_at L far lab hL k (by omega) j hj
    by_cases h2 : (L.getD k default).kind = 2
    · obtain ⟨l, hl, hl'⟩ := hL k (by omega) (.inl h2)
      have E : ∀ lab', (lbF L far lab' (k + 1)) = (lbF L far lab' k).set l (posF L far k) := fun lab' => by
        show (if _ then _ else _) = _
        rw [if_pos h2, hl, Int.toNat_natCast]
      by_cases e : l = j
      · subst e
        refine ⟨fun _ lab' _ hj' => ?_, fun hn => absurd ⟨k, by omega, h2, hl⟩ hn⟩
        rw [E, E]
        simp [List.getD, lbF_len, hj, hj']
      · have G : ∀ lab', (lbF L far lab' (k + 1)).getD j 0 = (lbF L far lab' k).getD j 0 := fun lab' => by
          rw [E]; simp only [List.getD, List.getElem?_set_ne e]
        refine ⟨fun ⟨i, hi, hi2, hi3⟩ lab' h1 h2' => ?_, fun hn => ?_⟩
        · rw [G, G]
          refine i1 ⟨i, ?_, hi2, hi3⟩ lab' h1 h2'
          by_cases ei : i = k
          · subst ei; rw [hl] at hi3; omega
          · omega
        · rw [G]; exact i2 fun ⟨i, hi, h⟩ => hn ⟨i, by omega, h⟩
    · have E : ∀ lab', (lbF L far lab' (k + 1)) = lbF L far lab' k := fun lab' => by
        show (if _ then _ else _) = _
        rw [if_neg h2]
      refine ⟨fun ⟨i, hi, hi2, hi3⟩ lab' h1 h2' => ?_, fun hn => ?_⟩
      · rw [E, E]
        refine i1 ⟨i, ?_, hi2, hi3⟩ lab' h1 h2'
        by_cases ei : i = k
        · subst ei; exact absurd hi2 h2
        · omega
      · rw [E]; exact i2 fun ⟨i, hi, h⟩ => hn ⟨i, by omega, h⟩
/-- what stood among the labels before does not matter -/
theorem lbF_again (L : List It) (far far' : List Bool) (lab : List Int) (hL : LabOk L lab.length) : lbF L far (lbF L far' lab L.length) L.length = lbF L far lab L.length := by
  have hl : (lbF L far' lab L.length).length = lab.length := lbF_len _ _ _ _
  apply List.ext_getElem?
  intro j
  by_cases hj : j < lab.length
  · have key : (lbF L far (lbF L far' lab L.length) L.length).getD j 0 = (lbF L far lab L.length).getD j 0 := by
      obtain ⟨a1, a2⟩ := lbF_at L far lab hL L.length (Nat.le_refl _) j hj
      obtain ⟨b1, b2⟩ := lbF_at L far (lbF L far' lab L.length) (by rw [hl]; exact hL) L.length (Nat.le_refl _) j (by rw [hl]; exact hj)
      obtain ⟨c1, c2⟩ := lbF_at L far' lab hL L.length (Nat.le_refl _) j hj
      by_cases h : ∃ i, i < L.length ∧ (L.getD i default).kind = 2 ∧ (L.getD i default).label = (j : Int)
      · exact b1 h lab hL hj
      · rw [b2 h, a2 h, c2 h]
    simp only [List.getD] at key
    have l1 : j < (lbF L far (lbF L far' lab L.length) L.length).length := by rw [lbF_len, hl]; exact hj
    have l2 : j < (lbF L far lab L.length).length := by rw [lbF_len]; exact hj
    rw [List.getElem?_eq_getElem l1, List.getElem?_eq_getElem l2] at key ⊢
    exact congrArg some key
  · rw [List.getElem?_eq_none (by rw [lbF_len, hl]; omega), List.getElem?_eq_none (by rw [lbF_len]; omega)]
theorem atF_at (L : List It) (far : List Bool) (at' : List Int) : ∀ (k j : Nat), j < k → k ≤ at'.length → (atF L far at' k).getD j 0 = posF L far j
  | 0, j, h, _ => absurd h (Nat.not_lt_zero j)
  | k + 1, j, h, hk => by
    unfold atF
    by_cases e : j = k
    · subst e; simp [List.getD, atF_len, show j < at'.length by omega]
    · simp only [List.getD, List.getElem?_set_ne (Ne.symm e)]
      exact atF_at L far at' k j (by omega) (by omega)
end Go.Proofs.Ytedihiodmgnlpaa
