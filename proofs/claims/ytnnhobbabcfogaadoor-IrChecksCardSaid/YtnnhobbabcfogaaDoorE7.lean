/-
  Regions in the text's order that only read: walked as those that draw their order.
-/
import Derived.Test.YtnnhobbabcfogaaDoorJ
import Derived.BigQuiet
set_option linter.all false
namespace Go.Proofs.YtnnhobbabcfogaaDoor
open Go Go.RowKit
set_option linter.unusedVariables false

section
variable {P : Program} {ops : Array Oper} {Q : Exit → Act → World → Prop} {C : World → Prop}
theorem wpList_of_quiet : ∀ (l : List Oper) (a : Act) (w : World), C w → wpQuiet P ops C (fun a' => ∀ w', C w' → Q .normal a' w') l a → wpList P ops Q l a w
  | [], a, w, hc, h => h w hc
  | o :: l, a, w, hc, h => by
    unfold wpQuiet at h
    unfold wpList
    split
    · rename_i hw
      simp only [hw, if_true] at h
      obtain ⟨v, hv, hn⟩ := h
      have h1 := hv w hc
      left
      unfold Oper.wp
      unfold Oper.quietAt at h1
      generalize (execOp a.eval o).run P w = r at h1 ⊢
      cases r with
      | ok n w' =>
        cases n <;> simp only [Oper.quietUpon, Oper.upon] at h1 ⊢
        case value u => obtain ⟨rfl, rfl⟩ := h1; exact wpList_of_quiet l _ _ hc hn
        case skip => obtain ⟨rfl, rfl⟩ := h1; exact wpList_of_quiet l _ _ hc hn
        case enter f args =>
          obtain ⟨rfl, h2⟩ := h1
          refine Calls.mono h2 fun e w'' he => ?_
          obtain ⟨rfl, hc2⟩ := he
          exact wpList_of_quiet l _ _ hc2 hn
      | halt x w' => simp only [Oper.quietUpon] at h1
    · rename_i hw
      simp only [hw] at h
      exact wpList_of_quiet l _ _ hc h
/-- the same where no operation calls a function: the world stays -/
theorem wpList_of_look {w : World} (hC : C w) : ∀ (l : List Oper) (a : Act), (l.all fun o => lookOp o || lookB o) = true → wpQuiet P ops C (fun a' => Q .normal a' w) l a → wpList P ops Q l a w
  | [], a, _, h => h
  | o :: l, a, hl, h => by
    rw [List.all_cons, Bool.and_eq_true] at hl
    obtain ⟨hk, hl⟩ := hl
    unfold wpQuiet at h
    unfold wpList
    split
    · rename_i hw
      simp only [hw, if_true] at h
      obtain ⟨v, hv, hn⟩ := h
      have h1 := hv w hC
      left
      unfold Oper.wp
      unfold Oper.quietAt at h1
      generalize hrr : (execOp a.eval o).run P w = r at h1 ⊢
      cases r with
      | ok n w' =>
        have hu : ∃ v, n = .value v := by
          rw [Bool.or_eq_true] at hk
          rcases hk with hk | hk
          · exact lookOp_spec hk hrr
          · exact lookB_spec hk hrr
        obtain ⟨u, rfl⟩ := hu
        simp only [Oper.quietUpon] at h1
        obtain ⟨rfl, rfl⟩ := h1
        simp only [Oper.upon]
        exact wpList_of_look hC l _ hl hn
      | halt x w' => simp only [Oper.quietUpon] at h1
    · rename_i hw
      simp only [hw] at h
      exact wpList_of_look hC l _ hl h
theorem wp_region_text {id : Nat} {l : List Oper} {a : Act} {w : World} (hl : (l.all fun o => lookOp o || lookB o) = true)
    (h : wpQuiet P l.toArray (fun w' => ∃ n, w' = w.drewN n) (fun a' => Q .normal a' w) l a) : (Code.region id l.toArray false).wp P Q a w :=
  wp_region_lit (wpList_of_look (C := fun w' => ∃ n, w' = w.drewN n) ⟨0, rfl⟩ l a hl h)
theorem wp_region_textq {id : Nat} {l : List Oper} {a : Act} {w : World}
    (h : wpQuiet P l.toArray (fun w' => ∃ n, w' = w.drewN n) (fun a' => ∀ w', (∃ n, w' = w.drewN n) → Q .normal a' w') l a) : (Code.region id l.toArray false).wp P Q a w :=
  wp_region_lit (wpList_of_quiet l a w ⟨0, rfl⟩ h)
end
end Go.Proofs.YtnnhobbabcfogaaDoor
