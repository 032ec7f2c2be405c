/-
  Contracts of the reference's functions of flow that look at blocks: Outs, leads, Preds, has, within.
-/
import Derived.Test.YtnnhobbabcfogaaF6
set_option linter.all false
namespace Go.Proofs.Ytnnhobbabcfogaa
open Go.ChangeShapes Go.WideShapes Go.ChangeAt Go.RowKit
set_option maxHeartbeats 1000000
set_option maxRecDepth 20000

theorem Own.drewN {w0 w : World} {B : Nat} {v : Value} {l : List Int} (h : Own w0 B w v l) (n : Nat) : Own w0 B (w.drewN n) v l :=
  ⟨h.own, ⟨h.below.os, h.below.tape, h.below.output, h.below.size, h.below.block⟩, h.le⟩
def inP (p : Pr) (t : Int) : Bool := decide (0 ≤ t) && decide (t < p.blks.length)
theorem outsP_eq (p : Pr) (n : Nat) : outsP p n = (outsB (p.blks.getD n default)).filter (inP p) := rfl
theorem routsP_c (p : Pr) (V : Value) (n : Nat) (w : World) (hv : PrV w V p) (hn : n < p.blks.length) (hlen : p.blks.length ≤ 1000000) :
    Calls Try.prog 93 #[V, .int .i64 (n : Int)] w (RetI w (outsP p n)) := by
  obtain ⟨nm, vo, vb, rfl, hvo, a, c, rfl, hc1, hc2, hcell⟩ := hv
  obtain ⟨b, o, rfl, ⟨vi, c0, hvi⟩, c1, c2, c3, c4⟩ := hcell n hn
  simp only [Nat.add_zero] at c0
  have hbw : b < w.heap.size := World.block_lt_of_cell? w _ c0
  clear hcell
  have H := Lib.hid (outsP_eq p n)
  have HB : Hid (∀ w', Ext w w' → Calls Try.prog 128 #[.agg #[vi, .int .i64 (p.blks.getD n default).fin, .int .i64 (p.blks.getD n default).a, .int .i64 (p.blks.getD n default).to, .int .i64 (p.blks.getD n default).els]] w' (RetI w' (outsB (p.blks.getD n default)))) :=
    fun w' he => routs_c _ _ _ ⟨vi, rfl, hvi.ext he⟩
  have HL := outsB_len (p.blks.getD n default)
  generalize p.blks.getD n default = B at *
  go_enter Try.func93, Try.ntmps93
  go_wp2_with fail
  refine (HB.out _ (Ext.alloc w _)).mono ?_
  rintro e w1 ⟨v1, rfl, ho, hb⟩
  have hbc : w1.cell? ⟨w.heap.size, 5, none⟩ = some (.slice (some ⟨b, o, none⟩) p.blks.length c) := by
    rw [hb.cell (by simp)]; simp [go_sem]
  have hz := hb.size
  simp at hz
  have hz' : w.heap.size < w1.heap.size := by omega
  obtain ⟨ad, cp, rfl, hl1, hl2, hcell⟩ := ho.rd
  clear ho
  clear c0 c1 c2 c3 c4
  have HC := Lib.hid hcell
  clear hcell
  have HE : Hid (Ext w1 w1) := Ext.refl _
  generalize outsB B = L at *
  go_wp2_with fail
  go_loopw [5, 7] (fun v k wr => ∃ i : Nat, i ≤ L.length ∧ k = .int .i64 i ∧ Own w1 w1.heap.size wr v ((L.take i).filter (inP p))) (fun _ k _ => L.length - (intOf k).toNat)
  case atStart => exact ⟨0, Nat.zero_le _, rfl, Own.nil (Nat.le_refl _)⟩
  case round =>
    obtain ⟨i, hk, rfl, O⟩ := hrel
    have hl := filter_take_le (inP p) L i
    have hcr := O.bcell
    by_cases hlt : i < L.length
    · obtain ⟨b2, o2, rfl, hcx⟩ := HC.out i hlt
      have hc' := O.old HE.out (Nat.le_refl _) _ _ hcx
      simp only [Nat.mul_one, Nat.add_zero] at hc'
      clear hcx
      have hF1 := filter_snoc_yes (inP p) L i hlt
      have hF2 := filter_snoc_no (inP p) L i hlt
      generalize L.getD i 0 = x at hc' hF1 hF2
      by_cases h0 : 0 ≤ x
      · by_cases h1 : x < (p.blks.length : Int)
        · have HF := Lib.hid (hF1 (by unfold inP; simp [h0, h1]))
          clear hF1 hF2
          go_wp2_with fail
          go_quiet (fail)
          obtain ⟨wq, hq⟩ : ∃ wq, wq = wr.drewN nq := ⟨_, rfl⟩
          rw [← hq]
          have Oq : Own w1 w1.heap.size wq u5 ((L.take i).filter (inP p)) := hq ▸ O.drewN nq
          have hcq : wq.cell? ⟨b2, o2 + i, none⟩ = some (.int .i64 x) := hq ▸ hc'
          clear hq O hcr hc'
          go_wp2_with (at_builtin; refine app1 Oq rfl rfl rfl rfl (by first | rfl | simp) (by omega) ?_; intro v1 w2 O1)
          go_roundw
          case rel => exact ⟨i + 1, by omega, by go_num, by rw [HF.out]; exact O1⟩
          case measure => simp [intOf]; omega
        · have h1' : decide (x < (p.blks.length : Int)) = false := by simpa using h1
          have HF := Lib.hid (hF2 (by unfold inP; simp [h1]))
          clear hF1 hF2
          go_wp2_with fail
          go_quiet (fail)
          have Oq := O.drewN nq
          go_wp2
          go_roundw
          case rel => exact ⟨i + 1, by omega, by go_num, by rw [HF.out]; exact Oq⟩
          case measure => simp [intOf]; omega
      · have h0' : decide (0 ≤ x) = false := by simpa using h0
        have HF := Lib.hid (hF2 (by unfold inP; simp [h0]))
        clear hF1 hF2
        go_wp2_with fail
        go_quiet (fail)
        have Oq := O.drewN nq
        go_wp2
        go_roundw
        case rel => exact ⟨i + 1, by omega, by go_num, by rw [HF.out]; exact Oq⟩
        case measure => simp [intOf]; omega
    · have HF : Hid ((L.take i).filter (inP p) = L.filter (inP p)) := by show _ = _; rw [List.take_of_length_le (by omega)]
      go_wp2
      go_ret
      rw [H.out, ← HF.out]
      exact O.ret ((below_alloc _ _).trans (hb.mono (by simp))) (by omega)
end Go.Proofs.Ytnnhobbabcfogaa
