/-
  Several moves of a drawn region at once.
-/
import Derived.Test.YtnnhobbabcfogaaZDeadIdle23
import Derived.Test.YtnnhobbabcfogaaZDeadIdle02
import Derived.BigQuiet
set_option linter.all false
namespace Go.Proofs.Ytnnhobbabcfogaa
open Go Go.RowKit
set_option linter.unusedVariables false

def opD : Oper := { dst := none, op := .move (.tmp 0), type := 0, pos := "", after := #[], guard := none }
def movesOk (look : Oper → Bool) (ops : Array Oper) : List Nat → Array Bool → Bool
  | [], _ => true
  | i :: is, listed => (closedB ops listed && (Region.noSelect ops && (Region.ready .any ops listed).contains i && Region.free .any ops listed i && ((ops[i]?).map look).getD false)) && movesOk look ops is (listed.setIfInBounds i true)
def listAll (is : List Nat) (listed : Array Bool) : Array Bool := is.foldl (fun l i => l.setIfInBounds i true) listed
def lookJ (o : Oper) : Bool := lookOp o || lookB o
section
variable {P : Program} {ops : Array Oper} {Q : Act → World → Prop} {S : Nat → Prop}
theorem quiet_one {C : World → Prop} {K : Act → Prop} {o : Oper} {l : List Oper} {a : Act} (h : wpQuiet P ops C K (o :: l) a) : wpQuiet P ops C (fun a' => wpQuiet P ops C K l a') [o] a := h
theorem quiet_mono {C : World → Prop} {K K' : Act → Prop} (hk : ∀ a, K a → K' a) {o : Oper} {a : Act} (h : wpQuiet P ops C K [o] a) : wpQuiet P ops C K' [o] a := by
  unfold wpQuiet at h ⊢
  split
  · rename_i hw
    rw [if_pos hw] at h
    obtain ⟨v, h1, h2⟩ := h
    exact ⟨v, h1, hk _ h2⟩
  · rename_i hw
    rw [if_neg hw] at h
    exact hk _ h
theorem J_mobs : ∀ (is : List Nat) (n : Nat) (listed : Array Bool) (a : Act) (w : World), (decide (is.length ≤ n) && movesOk lookJ ops is listed) = true →
    wpQuiet P ops (fun w' => ∃ x, w' = kx S w x) (fun a' => wpJs S P ops Q (n - is.length) (listAll is listed) a' w) (is.map fun i => (ops[i]?).getD opD) a → wpJs S P ops Q n listed a w
  | [], n, listed, a, w, _, h => h
  | i :: is, n, listed, a, w, hc, h => by
    simp only [Bool.and_eq_true, decide_eq_true_eq, movesOk] at hc
    obtain ⟨hl, ⟨h1, ⟨⟨h2, h3⟩, h4⟩, h5⟩, h6⟩ := hc
    cases n with
    | zero => exact absurd hl (by simp)
    | succ n =>
      cases ho : ops[i]? with
      | none => rw [ho] at h5; cases h5
      | some o =>
        rw [ho] at h5
        have h5 : lookJ o = true := h5
        refine J_mob i o ho (by simp only [Bool.and_eq_true]; exact ⟨h1, ⟨⟨h2, h3⟩, h4⟩, h5⟩) ?_
        rw [List.map_cons, ho] at h
        refine quiet_mono (fun a' h' => ?_) (quiet_one h)
        refine J_mobs is n _ a' w (by simp only [Bool.and_eq_true, decide_eq_true_eq]; exact ⟨by simpa using hl, h6⟩) ?_
        have e : n + 1 - (i :: is).length = n - is.length := by simp
        rw [e] at h'
        exact h'
theorem E_mobs : ∀ (is : List Nat) (n : Nat) (listed : Array Bool) (a : Act) (w : World), (decide (is.length ≤ n) && movesOk lookOp ops is listed) = true →
    wpQuiet P ops (fun w' => ∃ x, w' = kp S w x) (fun a' => wpE S P ops Q (n - is.length) (listAll is listed) a' w) (is.map fun i => (ops[i]?).getD opD) a → wpE S P ops Q n listed a w
  | [], n, listed, a, w, _, h => h
  | i :: is, n, listed, a, w, hc, h => by
    simp only [Bool.and_eq_true, decide_eq_true_eq, movesOk] at hc
    obtain ⟨hl, ⟨h1, ⟨⟨h2, h3⟩, h4⟩, h5⟩, h6⟩ := hc
    cases n with
    | zero => exact absurd hl (by simp)
    | succ n =>
      cases ho : ops[i]? with
      | none => rw [ho] at h5; cases h5
      | some o =>
        rw [ho] at h5
        have h5 : lookOp o = true := h5
        refine E_mob i o ho (by simp only [Bool.and_eq_true]; exact ⟨h1, ⟨⟨h2, h3⟩, h4⟩, h5⟩) ?_
        rw [List.map_cons, ho] at h
        refine quiet_mono (fun a' h' => ?_) (quiet_one h)
        refine E_mobs is n _ a' w (by simp only [Bool.and_eq_true, decide_eq_true_eq]; exact ⟨by simpa using hl, h6⟩) ?_
        have e : n + 1 - (i :: is).length = n - is.length := by simp
        rw [e] at h'
        exact h'
theorem E_mob2s : ∀ (is : List Nat) (n : Nat) (listed : Array Bool) (a : Act) (w : World), (decide (is.length ≤ n) && movesOk lookJ ops is listed) = true →
    wpQuiet P ops (fun w' => ∃ x, w' = kp S w x) (fun a' => wpE S P ops Q (n - is.length) (listAll is listed) a' w) (is.map fun i => (ops[i]?).getD opD) a → wpE S P ops Q n listed a w
  | [], n, listed, a, w, _, h => h
  | i :: is, n, listed, a, w, hc, h => by
    simp only [Bool.and_eq_true, decide_eq_true_eq, movesOk] at hc
    obtain ⟨hl, ⟨h1, ⟨⟨h2, h3⟩, h4⟩, h5⟩, h6⟩ := hc
    cases n with
    | zero => exact absurd hl (by simp)
    | succ n =>
      cases ho : ops[i]? with
      | none => rw [ho] at h5; cases h5
      | some o =>
        rw [ho] at h5
        have h5 : lookJ o = true := h5
        refine E_mob2 i o ho (by simp only [Bool.and_eq_true]; exact ⟨h1, ⟨⟨h2, h3⟩, h4⟩, h5⟩) ?_
        rw [List.map_cons, ho] at h
        refine quiet_mono (fun a' h' => ?_) (quiet_one h)
        refine E_mob2s is n _ a' w (by simp only [Bool.and_eq_true, decide_eq_true_eq]; exact ⟨by simpa using hl, h6⟩) ?_
        have e : n + 1 - (i :: is).length = n - is.length := by simp
        rw [e] at h'
        exact h'
end
/-! cells of small blocks -/
theorem cl4 {w : World} {b : Nat} {t : TypeId} {c0 c1 c2 c3 : Value} (h : w.heap[b]? = some (.cells #[c0, c1, c2, c3] t (0, 0))) :
    w.cell? ⟨b, 0, none⟩ = some c0 ∧ w.cell? ⟨b, 1, none⟩ = some c1 ∧ w.cell? ⟨b, 2, none⟩ = some c2 ∧ w.cell? ⟨b, 3, none⟩ = some c3 ∧ b < w.heap.size :=
  ⟨cell_of_heap h 0, cell_of_heap h 1, cell_of_heap h 2, cell_of_heap h 3, (Array.getElem?_eq_some_iff.1 h).1⟩
theorem cl5 {w : World} {b : Nat} {t : TypeId} {c0 c1 c2 c3 c4 : Value} (h : w.heap[b]? = some (.cells #[c0, c1, c2, c3, c4] t (0, 0))) :
    w.cell? ⟨b, 0, none⟩ = some c0 ∧ w.cell? ⟨b, 1, none⟩ = some c1 ∧ w.cell? ⟨b, 2, none⟩ = some c2 ∧ w.cell? ⟨b, 3, none⟩ = some c3 ∧ w.cell? ⟨b, 4, none⟩ = some c4 ∧ b < w.heap.size :=
  ⟨cell_of_heap h 0, cell_of_heap h 1, cell_of_heap h 2, cell_of_heap h 3, cell_of_heap h 4, (Array.getElem?_eq_some_iff.1 h).1⟩
theorem cl6 {w : World} {b : Nat} {t : TypeId} {c0 c1 c2 c3 c4 c5 : Value} (h : w.heap[b]? = some (.cells #[c0, c1, c2, c3, c4, c5] t (0, 0))) :
    w.cell? ⟨b, 0, none⟩ = some c0 ∧ w.cell? ⟨b, 1, none⟩ = some c1 ∧ w.cell? ⟨b, 2, none⟩ = some c2 ∧ w.cell? ⟨b, 3, none⟩ = some c3 ∧ w.cell? ⟨b, 4, none⟩ = some c4 ∧ w.cell? ⟨b, 5, none⟩ = some c5 ∧ b < w.heap.size :=
  ⟨cell_of_heap h 0, cell_of_heap h 1, cell_of_heap h 2, cell_of_heap h 3, cell_of_heap h 4, cell_of_heap h 5, (Array.getElem?_eq_some_iff.1 h).1⟩
theorem cl11 {w : World} {b : Nat} {t : TypeId} {c0 c1 c2 c3 c4 c5 c6 c7 c8 c9 c10 : Value} (h : w.heap[b]? = some (.cells #[c0, c1, c2, c3, c4, c5, c6, c7, c8, c9, c10] t (0, 0))) :
    w.cell? ⟨b, 0, none⟩ = some c0 ∧ w.cell? ⟨b, 1, none⟩ = some c1 ∧ w.cell? ⟨b, 2, none⟩ = some c2 ∧ w.cell? ⟨b, 3, none⟩ = some c3 ∧ w.cell? ⟨b, 4, none⟩ = some c4 ∧ w.cell? ⟨b, 5, none⟩ = some c5 ∧ w.cell? ⟨b, 6, none⟩ = some c6 ∧ w.cell? ⟨b, 7, none⟩ = some c7 ∧ w.cell? ⟨b, 8, none⟩ = some c8 ∧ w.cell? ⟨b, 9, none⟩ = some c9 ∧ w.cell? ⟨b, 10, none⟩ = some c10 ∧ b < w.heap.size :=
  ⟨cell_of_heap h 0, cell_of_heap h 1, cell_of_heap h 2, cell_of_heap h 3, cell_of_heap h 4, cell_of_heap h 5, cell_of_heap h 6, cell_of_heap h 7, cell_of_heap h 8, cell_of_heap h 9, cell_of_heap h 10, (Array.getElem?_eq_some_iff.1 h).1⟩
end Go.Proofs.Ytnnhobbabcfogaa
