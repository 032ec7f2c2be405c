/-
  What holds of a machine after a run; a run of so many steps is one of fewer, and then of these.
-/
import Derived.Test.YtppmjdljnacpgaaV16
set_option linter.all false
namespace Go.Proofs.Ytppmjdljnacpgaa
open Go.ChangeShapes Go.WideShapes Go.ChangeAt Go.RowKit
set_option maxHeartbeats 1000000
set_option linter.unusedVariables false
set_option maxRecDepth 20000

theorem own_same {w w' : World} {B s n : Nat} {e : TypeId} {v : Value} {xs : List Value} (h : w.ownsRow B e s v n xs) (hk : ∀ g, v.ownBlock = some g → g < w.heap.size → w'.heap[g]? = w.heap[g]?) : w'.ownsRow B e s v n xs := by
  obtain ⟨hl, h | ⟨g, cap, cur, rfl, hb, hgg, r⟩⟩ := h
  · exact ⟨hl, .inl h⟩
  · exact ⟨hl, .inr ⟨g, cap, cur, rfl, hb, (hk g rfl (Array.getElem?_eq_some_iff.1 hgg).1).trans hgg, r⟩⟩
theorem failD_steps (m : Dv) : (failD m).steps = m.steps := by unfold failD; split <;> rfl
theorem runD_ok {code inp : List Int} (hc : ∀ j, 0 ≤ code.getD j 0 ∧ code.getD j 0 < 4294967296) (hi : ∀ j, 0 ≤ inp.getD j 0 ∧ inp.getD j 0 < 4294967296) (n N : Int) (hn : n ≤ N) : ∀ (f : Nat) (L : List Int) (m : Dv), Dok m → m.steps ≤ N → Dok (runD code inp n f L m) ∧ (runD code inp n f L m).steps ≤ N
  | 0, _, m, hm, hs => ⟨hm, hs⟩
  | f + 1, L, m, hm, hs => by
    by_cases h : m.state = 0 ∧ m.steps < n
    · rw [runD_go h.1 h.2 f]
      have h1 := stepD_ok hc hi hm
      have h2 := stepD_ok hc hi (failD_ok hm).1
      have h3 := failD_steps m
      split
      · exact runD_ok hc hi n N hn f _ _ h1.1 (by omega)
      · split
        · exact runD_ok hc hi n N hn f _ _ h2.1 (by omega)
        · exact runD_ok hc hi n N hn f _ _ h1.1 (by omega)
    · rw [runD_stop h]; exact ⟨hm, hs⟩
theorem beginD_ok {D : List Int} (hd : ∀ j, 0 ≤ D.getD j 0 ∧ D.getD j 0 < 256) (hl : 4 ≤ D.length ∧ D.length ≤ 65536) : Dok (beginD D) := by
  have hz : ∀ j, (List.replicate 32 (0 : Int)).getD j 0 = 0 := fun j => by
    simp only [List.getD, List.getElem?_replicate]; split <;> rfl
  have hz2 : ∀ j, 0 ≤ (List.replicate 32 (0 : Int)).getD j 0 ∧ (List.replicate 32 (0 : Int)).getD j 0 < 4294967296 := fun j => by rw [hz]; decide
  exact ⟨hz2, ⟨Int.le_refl _, (by decide : (0 : Int) < 4294967296)⟩, ⟨Int.le_refl _, (by decide : (0 : Int) < 4294967296)⟩, ⟨Int.le_refl _, (by decide : (0 : Int) < 4294967296)⟩, hd, hl, hz 0, Int.le_refl _, Int.le_refl _⟩
theorem stepD_mono (code inp : List Int) (m : Dv) : m.steps ≤ (stepD code inp m).steps := by
  unfold stepD
  split
  · exact Int.le_refl _
  split
  · cases hd : decD (code.getD (m.pc / 4).toNat 0) with
    | none => exact Int.le_refl _
    | some i =>
      dsimp only
      cases ho : doD inp m i with
      | none => exact Int.le_refl _
      | some m' => dsimp only; omega
  · exact Int.le_refl _
theorem runD_mono (code inp : List Int) (n : Int) : ∀ (f : Nat) (L : List Int) (m : Dv), m.steps ≤ (runD code inp n f L m).steps
  | 0, _, m => Int.le_refl _
  | f + 1, L, m => by
    by_cases h : m.state = 0 ∧ m.steps < n
    · rw [runD_go h.1 h.2 f]
      have h1 := stepD_mono code inp m
      have h2 := stepD_mono code inp (failD m)
      have h3 := failD_steps m
      split
      · exact Int.le_trans h1 (runD_mono code inp n f _ _)
      · split
        · exact Int.le_trans (by omega) (runD_mono code inp n f _ _)
        · exact Int.le_trans h1 (runD_mono code inp n f _ _)
    · rw [runD_stop h]; exact Int.le_refl _
theorem runD_fuel (code inp : List Int) (n : Int) : ∀ (f g : Nat) (L : List Int) (m : Dv), muD n m ≤ f → muD n m ≤ g → runD code inp n f L m = runD code inp n g L m := by
  intro f
  induction f with
  | zero =>
    intro g L m hf hg
    have h : ¬(m.state = 0 ∧ m.steps < n) := fun h => by unfold muD at hf; rw [if_pos h.1] at hf; omega
    rw [runD_stop h, runD_stop h]
  | succ f ih =>
    intro g L m hf hg
    by_cases h : m.state = 0 ∧ m.steps < n
    · obtain ⟨g, rfl⟩ : ∃ g0, g = g0 + 1 := ⟨g - 1, by unfold muD at hg; rw [if_pos h.1] at hg; omega⟩
      rw [runD_go h.1 h.2 f, runD_go h.1 h.2 g]
      have h1 : muD n (stepD code inp m) + 1 ≤ muD n m := muD_step h.1 h.2 h.1 rfl
      have h2 : muD n (stepD code inp (failD m)) + 1 ≤ muD n m := muD_step h.1 h.2 (failD_state h.1) (failD_steps m)
      split
      · exact ih g _ _ (by omega) (by omega)
      · split
        · exact ih g _ _ (by omega) (by omega)
        · exact ih g _ _ (by omega) (by omega)
    · rw [runD_stop h, runD_stop h]
theorem dropD_filter (s : Int) : ∀ L : List Int, L.Pairwise (· < ·) → dropD s L = L.filter fun x => decide (s ≤ x)
  | [], _ => rfl
  | x :: l, h => by
    unfold dropD
    have hl := List.pairwise_cons.1 h
    by_cases e : x < s
    · rw [if_pos e, List.filter_cons_of_neg (by simp; omega)]
      exact dropD_filter s l hl.2
    · rw [if_neg e, List.filter_cons_of_pos (by simp; omega)]
      congr 1
      symm
      refine List.filter_eq_self.2 fun y hy => ?_
      have := hl.1 y hy
      simp; omega
theorem filter_le {s t : Int} (L : List Int) (h : s ≤ t) : (L.filter fun x => decide (s ≤ x)).filter (fun x => decide (t ≤ x)) = L.filter fun x => decide (t ≤ x) := by
  rw [List.filter_filter]
  refine List.filter_congr fun x _ => ?_
  by_cases e : t ≤ x
  · simp [e]; omega
  · simp [e]
/-- the rest of a run, with the failures still to come -/
theorem parts_law {code inp : List Int} {n k : Int} (hk : k ≤ n) : ∀ (f : Nat) (L : List Int) (m b : Dv), L.Pairwise (· < ·) → muD k m ≤ f → b = runD code inp k f L m → ∀ (g g' : Nat) (LL : List Int), muD n m ≤ g → muD n b ≤ g' →
    (b.state = 0 → LL = L.filter fun x => decide (b.steps ≤ x)) → runD code inp n g' LL b = runD code inp n g L m := by
  intro f
  induction f with
  | zero =>
    intro L m b hL hf hb g g' LL hg hg' hLL
    have h : ¬(m.state = 0) := fun h => by unfold muD at hf; rw [if_pos h] at hf; omega
    have e : b = m := hb
    subst e
    rw [runD_stop (fun x => h x.1), runD_stop (fun x => h x.1)]
  | succ f ih =>
    intro L m b hL hf hb g g' LL hg hg' hLL
    by_cases h : m.state = 0 ∧ m.steps < k
    · obtain ⟨h1, h2⟩ := h
      have h2n : m.steps < n := by omega
      obtain ⟨g, rfl⟩ : ∃ g0, g = g0 + 1 := ⟨g - 1, by unfold muD at hg; rw [if_pos h1] at hg; omega⟩
      have s1 : muD n (stepD code inp m) + 1 ≤ muD n m := muD_step h1 h2n h1 rfl
      have s2 : muD n (stepD code inp (failD m)) + 1 ≤ muD n m := muD_step h1 h2n (failD_state h1) (failD_steps m)
      have t1 : muD k (stepD code inp m) + 1 ≤ muD k m := muD_step h1 h2 h1 rfl
      have t2 : muD k (stepD code inp (failD m)) + 1 ≤ muD k m := muD_step h1 h2 (failD_state h1) (failD_steps m)
      rw [runD_go h1 h2n g]
      rw [runD_go h1 h2 f] at hb
      have hdf := dropD_filter m.steps L hL
      have hpw : (dropD m.steps L).Pairwise (· < ·) := by rw [hdf]; exact hL.filter _
      have key : ∀ t, m.steps ≤ t → (L.filter fun x => decide (t ≤ x)) = (dropD m.steps L).filter fun x => decide (t ≤ x) := fun t ht => by rw [hdf, filter_le L ht]
      generalize dropD m.steps L = DL at *
      cases DL with
      | nil =>
        dsimp only at hb ⊢
        refine ih [] _ b List.Pairwise.nil (by omega) hb g g' LL (by omega) hg' fun hs => ?_
        rw [hLL hs]
        exact key _ (by rw [hb]; exact Int.le_trans (stepD_mono code inp m) (runD_mono _ _ _ _ _ _))
      | cons x l =>
        dsimp only at hb ⊢
        have hl := List.pairwise_cons.1 hpw
        by_cases hx : x = m.steps
        · rw [if_pos hx] at hb
          rw [if_pos hx]
          refine ih l _ b hl.2 (by omega) hb g g' LL (by omega) hg' fun hs => ?_
          have hmono := runD_mono code inp k f l (stepD code inp (failD m))
          rw [← hb] at hmono
          have hprog : m.steps + 1 ≤ b.steps := by
            by_cases hz : (stepD code inp (failD m)).state = 0
            · have := stepD_next (code := code) (inp := inp) (failD_state h1) hz
              rw [failD_steps] at this; omega
            · exfalso
              rw [runD_stop (fun x => hz x.1)] at hb
              rw [hb] at hs
              exact hz hs
          rw [hLL hs, key _ (by omega), List.filter_cons_of_neg (by simp; omega)]
        · rw [if_neg hx] at hb
          rw [if_neg hx]
          refine ih (x :: l) _ b hpw (by omega) hb g g' LL (by omega) hg' fun hs => ?_
          rw [hLL hs]
          exact key _ (by rw [hb]; exact Int.le_trans (stepD_mono code inp m) (runD_mono _ _ _ _ _ _))
    · have e : b = m := hb.trans (runD_stop h (f + 1))
      subst e
      by_cases h0 : b.state = 0 ∧ b.steps < n
      · obtain ⟨g, rfl⟩ : ∃ g0, g = g0 + 1 := ⟨g - 1, by unfold muD at hg; rw [if_pos h0.1] at hg; omega⟩
        obtain ⟨g', rfl⟩ : ∃ g0, g' = g0 + 1 := ⟨g' - 1, by unfold muD at hg'; rw [if_pos h0.1] at hg'; omega⟩
        have hlist : dropD b.steps LL = dropD b.steps L := by
          rw [hLL h0.1, ← dropD_filter _ _ hL, dropD_filter b.steps (dropD b.steps L) (by rw [dropD_filter _ _ hL]; exact hL.filter _), dropD_filter _ _ hL, filter_le L (Int.le_refl _)]
        rw [runD_go h0.1 h0.2 g', runD_go h0.1 h0.2 g, hlist]
        have s1 : muD n (stepD code inp b) + 1 ≤ muD n b := muD_step h0.1 h0.2 h0.1 rfl
        have s2 : muD n (stepD code inp (failD b)) + 1 ≤ muD n b := muD_step h0.1 h0.2 (failD_state h0.1) (failD_steps b)
        split
        · exact runD_fuel _ _ _ _ _ _ _ (by omega) (by omega)
        · split
          · exact runD_fuel _ _ _ _ _ _ _ (by omega) (by omega)
          · exact runD_fuel _ _ _ _ _ _ _ (by omega) (by omega)
      · rw [runD_stop h0, runD_stop h0]
theorem muD_le (n : Int) (m : Dv) : muD n m ≤ (n - m.steps).toNat + 1 := by unfold muD; split <;> omega
theorem parts_T {code inp : List Int} {n k : Int} (hk : k ≤ n) (L : List Int) (m : Dv) (hL : L.Pairwise (· < ·)) : runT code inp n (L.filter fun x => decide ((runT code inp k L m).steps ≤ x)) (runT code inp k L m) = runT code inp n L m :=
  parts_law hk _ L m _ hL (muD_le _ _) rfl _ _ _ (muD_le _ _) (muD_le _ _) fun _ => rfl
theorem runT_stop {code inp : List Int} {n : Int} {L : List Int} {m : Dv} (h : m.state ≠ 0) : runT code inp n L m = m := runD_stop (fun x => h x.1) _
end Go.Proofs.Ytppmjdljnacpgaa
