/-
  What few modules are like: plain.; Is a module right, and not too large: the walk of the statements' Right.
-/
import Derived.Test.YtnnhobbabcfogaaZDeadIdle24
import Derived.Test.YtnnhobbabcfogaaZDeadIdle43
import Derived.Test.YtnnhobbabcfogaaZDeadIdle49
import Derived.Test.YtnnhobbabcfogaaZDeadIdle25
import Derived.Test.YtnnhobbabcfogaaZDeadIdle33

set_option linter.all false
namespace Go.Proofs.Ytnnhobbabcfogaa
set_option linter.unusedVariables false

theorem fewM_sz {m : Md} (h : fewM m = true) : SzM m := by
  unfold fewM at h
  simp only [Bool.and_eq_true, List.all_eq_true] at h
  refine ⟨fun p hp => ?_⟩
  have h2 := h.2.2.2 p hp
  unfold prF at h2
  simp only [Bool.and_eq_true, decide_eq_true_eq, List.all_eq_true] at h2
  refine ⟨by omega, fun b hb => ?_⟩
  have h3 := h2.2.2 b hb
  unfold blkF at h3
  simp only [Bool.and_eq_true, decide_eq_true_eq] at h3
  omega
theorem fewM_pr {m : Md} (h : fewM m = true) {p : Pr} (hp : p ∈ m.procs) : p.blks.length ≤ 40 ∧ p.objs.length ≤ 20 ∧ ∀ b ∈ p.blks, b.ins.length ≤ 60 ∧ ∀ i ∈ b.ins, insF i = true := by
  unfold fewM at h
  simp only [Bool.and_eq_true, List.all_eq_true] at h
  have h2 := h.2.2.2 p hp
  unfold prF at h2
  simp only [Bool.and_eq_true, decide_eq_true_eq, List.all_eq_true] at h2
  refine ⟨h2.1, h2.2.1, fun b hb => ?_⟩
  have h3 := h2.2.2 b hb
  unfold blkF at h3
  simp only [Bool.and_eq_true, decide_eq_true_eq, List.all_eq_true] at h3
  exact h3
theorem insF_args {i : In} (h : insF i = true) : i.args.length ≤ 12 := by
  unfold insF at h
  simp only [Bool.and_eq_true, decide_eq_true_eq] at h
  exact h.2.2
end Go.Proofs.Ytnnhobbabcfogaa

set_option linter.all false
namespace Go.Proofs.Ytnnhobbabcfogaa
open Go.ChangeShapes Go.WideShapes Go.ChangeAt Go.RowKit
set_option maxHeartbeats 4000000
set_option linter.unusedVariables false
set_option maxRecDepth 100000

def rightB (m : Md) (n : Int) : Bool := fewM m && (decide (0 ≤ n) && (decide (n < (m.procs.length : Int)) && (decide ((m.procs.getD n.toNat default).regs ≤ 40) && okM m)))
theorem rightM_c (m : Md) (v : Value) (n : Int) (w : World) (hv : MdV w v m) :
    Calls Try.prog 11 #[v, .int .i64 n] w fun e w' => e = .returned (.bool (rightB m n)) ∧ Below w.heap.size w w' := by
  have HF : Hid (∀ w', Ext w w' → Calls Try.prog 48 #[v] w' fun e w'' => e = .returned (.bool (fewM m)) ∧ Below w'.heap.size w' w'') := fun w' he => few_c m v w' (hv.ext he)
  have HV := Lib.hid hv
  obtain ⟨vg, vd, vp, rfl, hvg, hvd, hvp⟩ := hv
  have hvp' := hvp
  obtain ⟨ap, cp, rfl, hp1, hp2, -⟩ := hvp'
  unfold maxLen at hp2
  have HPS := Lib.hid (RdPrs.at6 hvp).2
  clear hvg hvd hvp
  obtain ⟨W0, hW0⟩ : ∃ W0, W0 = w.alloc (.cells #[vg, vd, .slice ap m.procs.length cp, .int .i64 m.main] 26) := ⟨_, rfl⟩
  have B0 : Hid (Below w.heap.size w W0) := by rw [hW0]; exact below_alloc w _
  have H0 := Lib.hid (heap_of_alloc w _ _ hW0)
  have HW0 := Lib.hid hW0
  clear hW0
  go_enter Try.func11, Try.ntmps11
  go_wp2_with fail
  rw [← HW0.out]
  refine (HF.out W0 (Ext.below B0.out)).mono ?_
  rintro e w1 ⟨rfl, hb1⟩
  have H0 := Lib.hid ((hb1.block w.heap.size (Array.getElem?_eq_some_iff.1 H0.out).1).trans H0.out)
  have BB := Lib.hid (B0.out.trans (hb1.mono B0.out.size))
  clear hb1 HF HW0 B0
  obtain ⟨y0, y1, y2, y3, l0⟩ := cl4 H0.out
  cases hfw : fewM m
  · have hR : Hid (rightB m n = false) := by show _ = _; unfold rightB; rw [hfw]; rfl
    clear hfw
    go_wp2_with fail
    go_ret
    exact ⟨ret_b hR.out.symm, BB.out⟩
  · by_cases h0 : 0 ≤ n
    · obtain ⟨k, rfl⟩ := Int.eq_ofNat_of_zero_le h0
      have g0 : decide (0 ≤ (k : Int)) = true := decide_eq_true (by omega)
      by_cases h1 : k < m.procs.length
      · have g1 : decide ((k : Int) < (m.procs.length : Int)) = true := decide_eq_true (by omega)
        have g2 : decide (k < m.procs.length) = true := decide_eq_true h1
        obtain ⟨bp, op, tnm, tvo, tvb, hap, hto, htb, t0, t1, t2, t3, t4, t5⟩ := HPS.out k h1
        subst hap
        have hE : Ext w w1 := Ext.below BB.out
        replace t3 := hE _ _ t3
        have lbp : bp < w1.heap.size := World.block_lt_of_cell? w1 _ t3
        clear hto htb t0 t1 t2 t4 t5 hE
        have HRG : Hid (rightB m (k : Int) = (decide ((m.procs.getD k default).regs ≤ 40) && okM m)) := by
          show _ = _
          unfold rightB
          rw [hfw, g0, g1, Int.toNat_natCast]; rfl
        have HSZ := Lib.hid (fewM_sz hfw)
        clear hfw HPS
        generalize (m.procs.getD k default).regs = rg at *
        by_cases h2 : rg ≤ 40
        · have g3 : decide (rg ≤ 40) = true := decide_eq_true h2
          go_wp2_with fail
          refine (check_c m _ w1 (HV.out.ext (Ext.below BB.out)) HSZ.out).mono ?_
          rintro e w2 ⟨rfl, hb2⟩
          have BB := Lib.hid (BB.out.trans (hb2.mono BB.out.size))
          clear hb2
          cases hok : okM m
          · have hR : Hid (rightB m (k : Int) = false) := by show _ = _; rw [HRG.out, g3, hok]; rfl
            have hk : okE m = 3 := by unfold okE; rw [hok]; rfl
            rw [hk]
            clear hok hk
            go_wp2_with fail
            go_ret
            exact ⟨ret_b hR.out.symm, BB.out⟩
          · have hR : Hid (rightB m (k : Int) = true) := by show _ = _; rw [HRG.out, g3, hok]; rfl
            have hk : okE m = 0 := by unfold okE; rw [hok]; rfl
            rw [hk]
            clear hok hk
            go_wp2_with fail
            go_ret
            exact ⟨ret_b hR.out.symm, BB.out⟩
        · have g3 : decide (rg ≤ 40) = false := decide_eq_false h2
          have hR : Hid (rightB m (k : Int) = false) := by show _ = _; rw [HRG.out, g3]; rfl
          go_wp2_with fail
          go_ret
          exact ⟨ret_b hR.out.symm, BB.out⟩
      · have g1 : decide ((k : Int) < (m.procs.length : Int)) = false := decide_eq_false (by omega)
        have g2 : decide (k < m.procs.length) = false := decide_eq_false h1
        have hR : Hid (rightB m (k : Int) = false) := by show _ = _; unfold rightB; rw [hfw, g0, g1]; rfl
        clear hfw
        go_wp2_with fail
        go_ret
        exact ⟨ret_b hR.out.symm, BB.out⟩
    · have g0 : decide (0 ≤ n) = false := decide_eq_false h0
      have hR : Hid (rightB m n = false) := by show _ = _; unfold rightB; rw [hfw, g0]; rfl
      clear hfw
      go_wp2_with fail
      go_ret
      exact ⟨ret_b hR.out.symm, BB.out⟩
theorem rightB_is {m : Md} {n : Int} (h : rightB m n = true) : fewM m = true ∧ ∃ k : Nat, n = (k : Int) ∧ k < m.procs.length ∧ (m.procs.getD k default).regs ≤ 40 ∧ okM m = true := by
  unfold rightB at h
  simp only [Bool.and_eq_true, decide_eq_true_eq] at h
  obtain ⟨h0, h1, h2, h3, h4⟩ := h
  exact ⟨h0, n.toNat, by omega, by omega, h3, h4⟩
end Go.Proofs.Ytnnhobbabcfogaa
