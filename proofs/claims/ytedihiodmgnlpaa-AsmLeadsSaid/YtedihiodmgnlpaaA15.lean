/-
  The document's places of labels, and what it makes of them, as plain data.
-/
import Derived.Test.YtedihiodmgnlpaaA13
set_option linter.all false
namespace Go.Proofs.Ytedihiodmgnlpaa
open Go.ChangeShapes Go.WideShapes Go.ChangeAt Go.RowKit Go.Maps
set_option maxHeartbeats 1000000
set_option linter.unusedVariables false
set_option maxRecDepth 20000

/-- where among the first k items a label stands; -1: nowhere -/
def stdN (L : List It) (x : Int) : Nat → Int
  | 0 => -1
  | k + 1 => if stdN L x k = -1 then (if (L.getD k default).kind = 2 ∧ (L.getD k default).label = x then (k : Int) else -1) else stdN L x k
theorem stdN_bd (L : List It) (x : Int) : ∀ k, -1 ≤ stdN L x k ∧ stdN L x k < (k : Int)
  | 0 => by simp [stdN]
  | k + 1 => by
    have := stdN_bd L x k
    unfold stdN
    (repeat' split) <;> omega
theorem stdN_mem (L : List It) (x : Int) : ∀ k, stdN L x k = -1 ↔ memL L k x = false
  | 0 => by simp [stdN, memL]
  | k + 1 => by
    have ih := stdN_mem L x k
    have hb := stdN_bd L x k
    unfold stdN memL
    by_cases h : stdN L x k = -1
    · rw [if_pos h, ih.1 h, Bool.or_false]
      by_cases h2 : (L.getD k default).kind = 2 ∧ (L.getD k default).label = x
      · rw [if_pos h2]
        have e : (((L.getD k default).kind == 2) && (x == (L.getD k default).label)) = true := by rw [h2.1, h2.2]; simp
        rw [e]
        constructor
        · intro e; omega
        · intro e; cases e
      · rw [if_neg h2]
        simp only [true_iff]
        rw [Bool.and_eq_false_iff]
        by_cases e : (L.getD k default).kind = 2
        · exact .inr (beq_eq_false_iff_ne.2 fun e2 => h2 ⟨e, e2.symm⟩)
        · exact .inl (beq_eq_false_iff_ne.2 e)
    · rw [if_neg h]
      have : memL L k x = true := by
        cases hm : memL L k x
        · exact absurd (ih.2 hm) h
        · rfl
      simp [h, this]
theorem stdN_on (L : List It) (x : Int) (k : Nat) (h : stdN L x k ≠ -1) : ∀ j, stdN L x (k + j) = stdN L x k
  | 0 => rfl
  | j + 1 => by
    have ih := stdN_on L x k h j
    show (if stdN L x (k + j) = -1 then _ else stdN L x (k + j)) = _
    rw [if_neg (by rw [ih]; exact h), ih]
theorem stdN_hit (L : List It) (x : Int) (k n : Nat) (hk : k < n) (h : stdN L x k = -1) (h2 : (L.getD k default).kind = 2) (h3 : (L.getD k default).label = x) : stdN L x n = (k : Int) := by
  have e : stdN L x (k + 1) = (k : Int) := by
    show (if _ then _ else _) = _
    rw [if_pos h, if_pos ⟨h2, h3⟩]
  have := stdN_on L x (k + 1) (by rw [e]; omega) (n - (k + 1))
  rw [show k + 1 + (n - (k + 1)) = n by omega] at this
  rw [this, e]
theorem stdN_miss (L : List It) (x : Int) (k : Nat) (h : stdN L x k = -1) (h2 : ¬ ((L.getD k default).kind = 2 ∧ (L.getD k default).label = x)) : stdN L x (k + 1) = -1 := by
  show (if _ then _ else _) = _
  rw [if_pos h, if_neg h2]
theorem dupN_mono (L : List It) : ∀ n j, j ≤ n → dupN L j = true → dupN L n = true
  | 0, j, h, hd => by obtain rfl : j = 0 := by omega
                      exact hd
  | n + 1, j, h, hd => by
    by_cases e : j = n + 1
    · subst e; exact hd
    · unfold dupN; rw [dupN_mono L n j (by omega) hd]; rfl
theorem dupN_pre (L : List It) (n j : Nat) (h : j ≤ n) (hd : dupN L n = false) : dupN L j = false := by
  cases e : dupN L j
  · rfl
  · rw [dupN_mono L n j h e] at hd; cases hd
/-- where a label has been put is where it stands -/
theorem lb_std (L : List It) (F : List Bool) (lab : List Int) (hL : LabOk L lab.length) : ∀ k, k ≤ L.length → dupN L k = false → ∀ j : Nat, j < lab.length → memL L k (j : Int) = true → (lbF L F lab k).getD j 0 = posF L F (stdN L (j : Int) k).toNat
  | 0, _, _, j, _, h => by simp [memL] at h
  | k + 1, hk, hd, j, hj, hm => by
    unfold dupN at hd
    rw [Bool.or_eq_false_iff] at hd
    obtain ⟨hd1, hd2⟩ := hd
    have ih := lb_std L F lab hL k (by omega) hd1 j hj
    by_cases h2 : (L.getD k default).kind = 2
    · obtain ⟨l, hl, hl'⟩ := hL k (by omega) (.inl h2)
      have E : lbF L F lab (k + 1) = (lbF L F lab k).set l (posF L F k) := by
        show (if _ then _ else _) = _
        rw [if_pos h2, hl, Int.toNat_natCast]
      rw [E]
      rw [h2] at hd2
      simp only [BEq.rfl, Bool.true_and] at hd2
      by_cases e : l = j
      · subst e
        have hs : stdN L (l : Int) k = -1 := (stdN_mem L _ k).2 (by rw [← hl]; exact hd2)
        have : stdN L (l : Int) (k + 1) = (k : Int) := stdN_hit L _ k (k + 1) (Nat.lt_succ_self _) hs h2 hl
        rw [this, Int.toNat_natCast]
        simp [List.getD, lbF_len, hj]
      · have hm' : memL L k (j : Int) = true := by
          unfold memL at hm
          rw [hl] at hm
          have : ((j : Int) == (l : Int)) = false := beq_eq_false_iff_ne.2 (by omega)
          simpa [this] using hm
        have hs : stdN L (j : Int) k ≠ -1 := fun e => by rw [(stdN_mem L _ k).1 e] at hm'; cases hm'
        have := stdN_on L (j : Int) k hs 1
        rw [this]
        simp only [List.getD, List.getElem?_set_ne e]
        exact ih hm'
    · have E : lbF L F lab (k + 1) = lbF L F lab k := by
        show (if _ then _ else _) = _
        rw [if_neg h2]
      rw [E]
      have hm' : memL L k (j : Int) = true := by
        have h2' : ((L.getD k default).kind == 2) = false := beq_eq_false_iff_ne.2 h2
        unfold memL at hm
        rw [h2', Bool.false_and, Bool.false_or] at hm
        exact hm
      have hs : stdN L (j : Int) k ≠ -1 := fun e => by rw [(stdN_mem L _ k).1 e] at hm'; cases hm'
      have := stdN_on L (j : Int) k hs 1
      rw [this]
      exact ih hm'
/-- where the items stand, and the end -/
def posL (L : List It) (F : List Bool) (n : Nat) : List Int := (List.range n).map (posF L F)
theorem posL_len (L : List It) (F : List Bool) (n : Nat) : (posL L F n).length = n := by simp [posL]
theorem posL_at (L : List It) (F : List Bool) (n k : Nat) (h : k < n) : (posL L F n).getD k 0 = posF L F k := by
  simp [posL, List.getD, h]
theorem posL_snoc (L : List It) (F : List Bool) (n : Nat) : posL L F (n + 1) = posL L F n ++ [posF L F n] := by
  simp [posL, List.range_succ]
/-- the way to an item's label -/
theorem way_std (L : List It) (F : List Bool) (lab : List Int) (hL : LabOk L lab.length) (hd : dupN L L.length = false) (hm : misN L L.length = false) (k : Nat) (hk : k < L.length) (h3 : (L.getD k default).kind = 3 ∨ (L.getD k default).kind = 4) :
    wayF L F lab k = posF L F (stdN L (L.getD k default).label L.length).toNat - posF L F k := by
  obtain ⟨l, hl, hl'⟩ := hL k hk (.inr h3)
  unfold wayF
  rw [hl, Int.toNat_natCast, lb_std L F lab hL L.length (Nat.le_refl _) hd l hl' (by rw [← hl]; exact misN_at L L.length hm k hk h3)]
theorem std_lt (L : List It) (hm : misN L L.length = false) (k : Nat) (hk : k < L.length) (h3 : (L.getD k default).kind = 3 ∨ (L.getD k default).kind = 4) : 0 ≤ stdN L (L.getD k default).label L.length ∧ stdN L (L.getD k default).label L.length < L.length := by
  have h := misN_at L L.length hm k hk h3
  have hb := stdN_bd L (L.getD k default).label L.length
  have : stdN L (L.getD k default).label L.length ≠ -1 := fun e => by rw [(stdN_mem L _ _).1 e] at h; cases h
  omega
/-- the document's next round, up to k -/
def nxF (L : List It) (F : List Bool) : Nat → List Bool
  | 0 => []
  | k + 1 => nxF L F k ++ [F.getD k false || ((L.getD k default).kind == 3 && (decide (posF L F (stdN L (L.getD k default).label L.length).toNat - posF L F k < -4096) || decide (4094 < posF L F (stdN L (L.getD k default).label L.length).toNat - posF L F k)))]
theorem nxF_len (L : List It) (F : List Bool) : ∀ k, (nxF L F k).length = k
  | 0 => rfl
  | k + 1 => by simp [nxF, nxF_len L F k]
theorem nxF_at (L : List It) (F : List Bool) : ∀ n k, k < n → (nxF L F n).getD k false = (F.getD k false || ((L.getD k default).kind == 3 && (decide (posF L F (stdN L (L.getD k default).label L.length).toNat - posF L F k < -4096) || decide (4094 < posF L F (stdN L (L.getD k default).label L.length).toNat - posF L F k))))
  | 0, k, h => absurd h (Nat.not_lt_zero k)
  | n + 1, k, h => by
    unfold nxF
    by_cases e : k = n
    · subst e
      simp [List.getD, nxF_len]
    · have := nxF_at L F n k (by omega)
      rw [← this]
      simp only [List.getD]
      rw [List.getElem?_append_left (by rw [nxF_len]; omega)]
theorem nx_rnd (L : List It) (F : List Bool) (lab : List Int) (hL : LabOk L lab.length) (hd : dupN L L.length = false) (hm : misN L L.length = false) (hl : F.length = L.length) : nxF L F L.length = rndF L lab F := by
  apply List.ext_getElem?
  intro k
  by_cases hk : k < L.length
  · have key : (nxF L F L.length).getD k false = (rndF L lab F).getD k false := by
      rw [nxF_at L F L.length k hk]
      unfold rndF
      rw [stF_at]
      by_cases h3 : (L.getD k default).kind = 3
      · have hw := way_std L F lab hL hd hm k hk (.inl h3)
        rw [← hw]
        unfold trgF
        simp only [h3, BEq.rfl, Bool.true_and, hk, hl, true_and, and_true]
        cases F.getD k false <;> simp
      · have e : ((L.getD k default).kind == 3) = false := beq_eq_false_iff_ne.2 h3
        unfold trgF
        simp only [e, Bool.false_and, Bool.or_false, Bool.false_eq_true, false_and, and_false, if_false]
    simp only [List.getD] at key
    have l1 : k < (nxF L F L.length).length := by rw [nxF_len]; exact hk
    have l2 : k < (rndF L lab F).length := by unfold rndF; rw [stF_len, hl]; exact hk
    rw [List.getElem?_eq_getElem l1, List.getElem?_eq_getElem l2] at key ⊢
    exact congrArg some key
  · rw [List.getElem?_eq_none (by rw [nxF_len]; omega), List.getElem?_eq_none (by unfold rndF; rw [stF_len, hl]; omega)]
def padL (l : List Int) (n : Nat) : List Int := l ++ List.replicate (n - l.length) (-1)
/-- the document's labels of the first k items -/
def rlF (L : List It) (F : List Bool) : Nat → List Int
  | 0 => []
  | k + 1 => if (L.getD k default).kind = 2 then (padL (rlF L F k) ((L.getD k default).label.toNat + 1)).set (L.getD k default).label.toNat (posF L F k) else rlF L F k
theorem padL_len (l : List Int) (n : Nat) : (padL l n).length = max l.length n := by simp [padL]; omega
theorem rlF_len (L : List It) (F : List Bool) (hV : OkL L) : ∀ k, k ≤ L.length → ((rlF L F k).length : Int) = mostF L k + 1
  | 0, _ => by simp [rlF, mostF]
  | k + 1, hk => by
    have ih := rlF_len L F hV k (by omega)
    have hb := mostF_bd L hV k (by omega)
    have hl := item_label _ (hV k (by omega))
    unfold rlF mostF
    split
    · rw [List.length_set, padL_len]; omega
    · exact ih
theorem padL_at (l : List Int) (n j : Nat) (h : j < (padL l n).length) : (padL l n).getD j (-1) = l.getD j (-1) := by
  unfold padL
  simp only [List.getD]
  by_cases hj : j < l.length
  · rw [List.getElem?_append_left hj]
  · rw [List.getElem?_append_right (by omega), List.getElem?_replicate, List.getElem?_eq_none (l := l) (by omega)]
    split <;> rfl
theorem padL_at' (l : List Int) (n j : Nat) : (padL l n).getD j (-1) = l.getD j (-1) := by
  by_cases h : j < (padL l n).length
  · exact padL_at l n j h
  · rw [padL_len] at h
    simp only [List.getD]
    rw [List.getElem?_eq_none (by rw [padL_len]; omega), List.getElem?_eq_none (by omega)]
theorem rl_lb (L : List It) (F : List Bool) (hV : OkL L) (lab : List Int) (hlab : lab = labs0 L) (hL : LabOk L lab.length) : ∀ k, k ≤ L.length → ∀ j : Nat, (rlF L F k).getD j (-1) = (lbF L F lab k).getD j (-1)
  | 0, _, j => by
    subst hlab
    simp only [rlF, lbF, labs0, List.getD, List.getElem?_nil, List.getElem?_replicate]
    split <;> rfl
  | k + 1, hk, j => by
    have ih := rl_lb L F hV lab hlab hL k (by omega) j
    unfold rlF lbF
    by_cases h2 : (L.getD k default).kind = 2
    · obtain ⟨l, hl, hl'⟩ := hL k (by omega) (.inl h2)
      rw [if_pos h2, if_pos h2, hl, Int.toNat_natCast]
      by_cases e : l = j
      · subst e
        simp only [List.getD]
        rw [List.getElem?_set_self (by rw [padL_len]; omega), List.getElem?_set_self (by rw [lbF_len]; exact hl')]
      · have e1 : ((padL (rlF L F k) (l + 1)).set l (posF L F k)).getD j (-1) = (padL (rlF L F k) (l + 1)).getD j (-1) := by simp only [List.getD, List.getElem?_set_ne e]
        have e2 : ((lbF L F lab k).set l (posF L F k)).getD j (-1) = (lbF L F lab k).getD j (-1) := by simp only [List.getD, List.getElem?_set_ne e]
        rw [e1, e2, padL_at', ih]
    · rw [if_neg h2, if_neg h2]; exact ih
theorem rl_end (L : List It) (hV : OkL L) (hm : misN L L.length = false) : rlF L (farF L) L.length = lblF L := by
  have hb := mostF_bd L hV L.length (Nat.le_refl _)
  have hL : LabOk L (labs0 L).length := by unfold labs0; rw [List.length_replicate]; exact labOk_of L hV hm
  have h1 := rlF_len L (farF L) hV L.length (Nat.le_refl _)
  have h2 : (lblF L).length = (mostF L L.length + 1).toNat := by unfold lblF; rw [lbF_len]; simp [labs0]
  apply List.ext_getElem?
  intro j
  by_cases hj : j < (lblF L).length
  · have key := rl_lb L (farF L) hV (labs0 L) rfl hL L.length (Nat.le_refl _) j
    have l1 : j < (rlF L (farF L) L.length).length := by omega
    have l2 : j < (lbF L (farF L) (labs0 L) L.length).length := hj
    simp only [List.getD] at key
    rw [List.getElem?_eq_getElem l1, List.getElem?_eq_getElem l2] at key
    rw [List.getElem?_eq_getElem l1, List.getElem?_eq_getElem hj]
    exact congrArg some key
  · rw [List.getElem?_eq_none (by omega), List.getElem?_eq_none (by omega)]
end Go.Proofs.Ytedihiodmgnlpaa
