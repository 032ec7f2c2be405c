/-
  Where the words of items stand, as plain data: each item's words behind those of the items ahead, each label at its place.
-/
import Derived.Test.YtedihiodmgnlpaaA27
set_option linter.all false
namespace Go.Proofs.Ytedihiodmgnlpaa
open Go.ChangeShapes Go.WideShapes Go.ChangeAt Go.RowKit Go.Maps
set_option maxHeartbeats 1000000
set_option linter.unusedVariables false
set_option maxRecDepth 20000

theorem asmE_yes (L : List It) (h : asmE L = 0) : L.length ≤ 32768 ∧ okN L L.length = true ∧ dupN L L.length = false ∧ misN L L.length = false ∧ inN L L.length = true := by
  have hm : mayE L = 0 := by
    cases hd : decide (mayE L = 0)
    · have := of_decide_eq_false hd
      rw [asm_may L this] at h
      exact h
    · exact of_decide_eq_true hd
  obtain ⟨a, b, c, d, e⟩ := may_yes L hm
  refine ⟨a, b, c, d, ?_⟩
  unfold asmE at h
  rw [if_neg (by omega), if_neg (by simp [b]), if_neg (by simp [e])] at h
  cases hi : inN L L.length
  · rw [hi] at h; simp at h
  · rfl
theorem sz_ins (x : It) (f : Bool) (d : Int) (hv : itemF x = true) (hf : f = true → x.kind = 3) : szF x f = 4 * ((insL x f d).length : Int) := by
  rcases item_kinds x hv with h | h | h | h | h
  · rw [insL_1 x f d h]; unfold szF; rw [if_neg (by omega), if_neg (by omega), if_neg (fun e => by have := hf e; omega)]; rfl
  · rw [insL_2 x f d h]; unfold szF; rw [if_pos h]; rfl
  · cases f
    · rw [insL_3n x d h]; unfold szF; rw [if_neg (by omega), if_neg (by omega), if_neg (by decide)]; rfl
    · rw [insL_3f x d h]; unfold szF; rw [if_neg (by omega), if_neg (by omega), if_pos rfl]; rfl
  · rw [insL_4 x f d h]; unfold szF; rw [if_neg (by omega), if_neg (by omega), if_neg (fun e => by have := hf e; omega)]; rfl
  · rw [insL_5 x f d h]; unfold szF; rw [if_neg (by omega), if_pos h]
/-- how many words are ahead of an item -/
theorem words_pos (L : List It) (hV : OkL L) : ∀ k, k ≤ L.length → 4 * ((wordsF L k).length : Int) = posF L (farF L) k
  | 0, _ => rfl
  | k + 1, hk => by
    have ih := words_pos L hV k (by omega)
    have hs := sz_ins (L.getD k default) ((farF L).getD k false) (wyF L k) (hV k (by omega)) (far_3 L (labs0 L) (L.length + 1) k)
    have e : posF L (farF L) (k + 1) = posF L (farF L) k + szF (L.getD k default) ((farF L).getD k false) := rfl
    have e2 : wordsF L (k + 1) = wordsF L k ++ (itemL L k).map encW := rfl
    rw [e, e2, List.length_append, List.length_map, hs, ← ih]
    unfold itemL
    omega
theorem words_le (L : List It) (k : Nat) : ∀ n, k ≤ n → (wordsF L k).length ≤ (wordsF L n).length
  | 0, h => by obtain rfl : k = 0 := by omega
               exact Nat.le_refl _
  | n + 1, h => by
    by_cases e : k = n + 1
    · subst e; exact Nat.le_refl _
    · have ih := words_le L k n (by omega)
      show _ ≤ (wordsF L n ++ (itemL L n).map encW).length
      rw [List.length_append]; omega
theorem words_pre (L : List It) (k : Nat) : ∀ n, k ≤ n → ∀ j, j < (wordsF L k).length → (wordsF L n).getD j 0 = (wordsF L k).getD j 0
  | 0, h, j, hj => by obtain rfl : k = 0 := by omega
                      rfl
  | n + 1, h, j, hj => by
    by_cases e : k = n + 1
    · subst e; rfl
    · have ih := words_pre L k n (by omega) j hj
      have hl : (wordsF L k).length ≤ (wordsF L n).length := words_le L k n (by omega)
      rw [← ih]
      show (wordsF L n ++ (itemL L n).map encW).getD j 0 = _
      simp only [List.getD]
      rw [List.getElem?_append_left (by omega)]
theorem words_at (L : List It) (k j : Nat) (hk : k < L.length) (hj : j < (itemL L k).length) : (wordsF L k).length + j < (wordsF L L.length).length ∧ (wordsF L L.length).getD ((wordsF L k).length + j) 0 = encW ((itemL L k).getD j default) := by
  have hl : (wordsF L k).length + j < (wordsF L (k + 1)).length := by
    show _ < (wordsF L k ++ (itemL L k).map encW).length
    rw [List.length_append, List.length_map]; omega
  have hle := words_le L (k + 1) L.length hk
  refine ⟨by omega, ?_⟩
  rw [words_pre L (k + 1) L.length hk _ hl]
  show (wordsF L k ++ (itemL L k).map encW).getD _ 0 = _
  simp only [List.getD]
  rw [List.getElem?_append_right (by omega), Nat.add_sub_cancel_left, List.getElem?_map, List.getElem?_eq_getElem hj]
  rfl
/-- a label of the items stands where its item does -/
theorem label_at (L : List It) (hV : OkL L) (hd : dupN L L.length = false) (hm : misN L L.length = false) (k : Nat) (hk : k < L.length) (h2 : (L.getD k default).kind = 2) :
    ∃ l : Nat, (L.getD k default).label = (l : Int) ∧ l < (lblF L).length ∧ (lblF L).getD l 0 = 4 * ((wordsF L k).length : Int) := by
  have hL : LabOk L (labs0 L).length := by unfold labs0; rw [List.length_replicate]; exact labOk_of L hV hm
  obtain ⟨l, hl, hl'⟩ := hL k hk (.inl h2)
  have hlen : (lblF L).length = (labs0 L).length := by unfold lblF; exact lbF_len _ _ _ _
  refine ⟨l, hl, by omega, ?_⟩
  have hmem : memL L L.length (l : Int) = true := by
    refine memL_mono L _ L.length (k + 1) hk ?_
    unfold memL
    rw [h2, hl]; simp
  have h1 := lb_std L (farF L) (labs0 L) hL L.length (Nat.le_refl _) hd l hl' hmem
  have hs : stdN L (l : Int) L.length = (k : Int) := by
    refine stdN_hit L _ k L.length hk ((stdN_mem L _ k).2 ?_) h2 hl
    have := dupN_pre L L.length (k + 1) hk hd
    unfold dupN at this
    rw [h2, hl, Bool.or_eq_false_iff] at this
    simpa using this.2
  rw [hs, Int.toNat_natCast] at h1
  rw [words_pos L hV k (by omega)]
  exact h1
/-- a branch or a jump leads to its label -/
theorem leads_at (L : List It) (hV : OkL L) (hm : misN L L.length = false) (k : Nat) (hk : k < L.length) (h3 : (L.getD k default).kind = 3 ∨ (L.getD k default).kind = 4) :
    ∃ l : Nat, (L.getD k default).label = (l : Int) ∧ l < (lblF L).length ∧ (lblF L).getD l 0 = 4 * ((wordsF L k).length : Int) + wyF L k := by
  have hL : LabOk L (labs0 L).length := by unfold labs0; rw [List.length_replicate]; exact labOk_of L hV hm
  obtain ⟨l, hl, hl'⟩ := hL k hk (.inr h3)
  have hlen : (lblF L).length = (labs0 L).length := by unfold lblF; exact lbF_len _ _ _ _
  refine ⟨l, hl, by omega, ?_⟩
  rw [words_pos L hV k (by omega)]
  unfold wyF
  rw [hl, Int.toNat_natCast]; omega
theorem inN_at (L : List It) : ∀ k, inN L k = true → ∀ j, j < k → itemB L j = true
  | 0, _, j, h => absurd h (Nat.not_lt_zero j)
  | k + 1, h, j, hj => by
    unfold inN at h
    rw [Bool.and_eq_true] at h
    by_cases e : j = k
    · subst e; exact h.2
    · exact inN_at L k h.1 j (by omega)
/-- all instructions of an item are right, where nothing is too far -/
theorem all_ok (L : List It) (h : asmE L = 0) (k : Nat) (hk : k < L.length) : ∀ i ∈ itemL L k, i.ok = true := by
  obtain ⟨hn, hok, hd, hm, hin⟩ := asmE_yes L h
  have hV : OkL L := okN_at L L.length hok
  intro i hi
  refine item_ok L hn hV hd hm k hk i hi ?_
  have h1 := inN_at L L.length hin k hk
  rw [item_bad L hV k hk] at h1
  simp only [Bool.not_eq_true', List.any_eq_false] at h1
  simpa using h1 i hi
end Go.Proofs.Ytedihiodmgnlpaa
