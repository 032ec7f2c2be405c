/-
  Contract of the statements' same.
-/
import Derived.Test.YtegkbopibacfoaaG8
set_option linter.all false
namespace Go.Proofs.Ytegkbopibacfoaa
open Go.ChangeShapes Go.WideShapes Go.ChangeAt Go.RowKit
set_option maxHeartbeats 2000000
set_option maxRecDepth 20000

theorem below_drewNs {B : Nat} {w w1 : World} (h : Below B w w1) (n : Nat) : Below B w (w1.drewN n) := ⟨h.os, h.tape, h.output, h.size, h.block⟩
theorem list_extI (a b : List Int) (hl : a.length = b.length) (h : ∀ i, i < a.length → a.getD i 0 = b.getD i 0) : a = b := by
  apply List.ext_getElem hl
  intro i h1 h2
  have := h i h1
  simpa [List.getD, h1, h2] using this
theorem same_c (l l' : List Int) (v v' : Value) (w : World) (hv : RdI w v l) (hv' : RdI w v' l') :
    Calls Try.prog 23 #[v, v'] w fun e w' => e = .returned (.bool (decide (l = l'))) ∧ Below w.heap.size w w' := by
  obtain ⟨a, c, rfl, h1, h2, h3⟩ := hv
  obtain ⟨a', c', rfl, h1', h2', h3'⟩ := hv'
  unfold maxLen at h2 h2'
  have H := Lib.hid h3
  have H' := Lib.hid h3'
  clear h3 h3'
  by_cases hl : l.length = l'.length
  · have hb : ((l.length : Int) == (l'.length : Int)) = true := by simp [hl]
    rw [← hl] at h1' ⊢
    go_enter Try.func23, Try.ntmps23
    go_wp2_with fail
    go_loopw [5] (fun i wr => ∃ k : Nat, k ≤ l.length ∧ i = .int .i64 (k : Int) ∧ Hid (∀ j, j < k → l.getD j 0 = l'.getD j 0) ∧ Hid (Below w.heap.size w wr)) (fun i _ => l.length - (intOf i).toNat)
    case atStart => exact ⟨0, Nat.zero_le _, rfl, fun j hj => absurd hj (by omega), Below.refl _ _⟩
    case round =>
      obtain ⟨k, hk, rfl, HA, hB⟩ := hrel
      by_cases hlt : k < l.length
      · obtain ⟨b, o, rfl, hc⟩ := H.out k hlt
        obtain ⟨b', o', rfl, hc'⟩ := H'.out k (by omega)
        simp only [Nat.mul_one, Nat.add_zero] at hc hc'
        replace hc := Ext.below hB.out _ _ hc
        replace hc' := Ext.below hB.out _ _ hc'
        by_cases hx : l.getD k 0 = l'.getD k 0
        · have HA2 : Hid (∀ j, j < k + 1 → l.getD j 0 = l'.getD j 0) := fun j hj => by
            by_cases e : j = k
            · rw [e]; exact hx
            · exact HA.out j (by omega)
          rw [← hx] at hc'
          generalize l.getD k 0 = x at *
          clear hx
          go_wp2_with fail
          go_quiet (fail)
          go_wp2_with fail
          go_roundw
          case rel => exact ⟨k + 1, by omega, by go_num, HA2, below_drewNs hB.out _⟩
          case measure => simp [intOf]; omega
        · have HF : Hid (decide (l = l') = false) := decide_eq_false (fun e => hx (by rw [e]))
          generalize l.getD k 0 = x at *
          generalize l'.getD k 0 = y at *
          have hxy : (x == y) = false := beq_eq_false_iff_ne.2 hx
          go_wp2_with fail
          go_quiet (fail)
          go_wp2_with fail
          go_ret
          exact ⟨ret_b HF.out.symm, below_drewNs hB.out _⟩
      · have HT : Hid (decide (l = l') = true) := decide_eq_true (list_extI l l' hl (fun i hi => HA.out i (by omega)))
        go_wp2_with fail
        go_ret
        exact ⟨ret_b HT.out.symm, hB.out⟩
  · have hb : ((l.length : Int) == (l'.length : Int)) = false := beq_eq_false_iff_ne.2 (by omega)
    have HF : Hid (decide (l = l') = false) := decide_eq_false (fun e => hl (by rw [e]))
    go_enter Try.func23, Try.ntmps23
    go_wp2_with fail
    go_ret
    exact ⟨ret_b HF.out.symm, Below.refl _ _⟩
end Go.Proofs.Ytegkbopibacfoaa
