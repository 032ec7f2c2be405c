/-
 The example of law 20 (awake): the walk. (Not finished: one sorry.); Is a module right, and not too large: the walk of the statements' Right.
-/
import Derived.Test.YtobfpfjdkpaeiaaZInlineDoes46
import Derived.Test.YtobfpfjdkpaeiaaZInlineDoes47
import Derived.Test.YtobfpfjdkpaeiaaZInlineDoes49
import Derived.Test.YtobfpfjdkpaeiaaZInlineDoes23
import Derived.Test.YtobfpfjdkpaeiaaZInlineDoes45
import Derived.Test.YtobfpfjdkpaeiaaZInlineDoes08
import Derived.Test.YtobfpfjdkpaeiaaZInlineDoes11

set_option linter.all false
namespace Go.Proofs.Ytobfpfjdkpaeiaa
open Go.ChangeShapes Go.WideShapes Go.ChangeAt Go.RowKit
set_option maxHeartbeats 8000000
set_option maxRecDepth 100000
set_option linter.unusedVariables false

def oJ (w : World) : List Obj := [.cells #[.int .i64 1, .int .i64 1, .int .i64 (-1), .int .i64 (-1), .int .i64 0, .int .i64 0, .int .i64 0, .int .i64 0, .int .u32 1, .slice none 0 0, .bool false, .int .i64 3, .int .i64 1, .int .i64 0, .int .i64 1, .int .i64 1, .int .i64 0, .int .i64 0, .int .i64 0, .int .u32 0, .slice none 0 0, .bool false] 58,
 .cells #[.slice (some ⟨w.heap.size, 0, none⟩) 2 2, .int .i64 3, .int .i64 1, .int .i64 0, .int .i64 0] 51,
 .cells #[.string ⟨#[]⟩, .bool false, .int .i64 1, .int .i64 2, .slice none 0 0, .slice (some ⟨w.heap.size + 1, 0, none⟩) 1 1] 32,
 .cells #[.int .i64 0] 3,
 .cells #[.int .i64 11, .int .i64 0, .int .i64 (-1), .int .i64 (-1), .int .i64 0, .int .i64 0, .int .i64 0, .int .i64 0, .int .u32 0, .slice none 0 0, .bool false, .int .i64 9, .int .i64 1, .int .i64 (-1), .int .i64 (-1), .int .i64 0, .int .i64 1, .int .i64 0, .int .i64 0, .int .u32 0, .slice (some ⟨w.heap.size + 1 + 1 + 1, 0, none⟩) 1 1, .bool false] 58,
 .cells #[.slice (some ⟨w.heap.size + 1 + 1 + 1 + 1, 0, none⟩) 2 2, .int .i64 3, .int .i64 1, .int .i64 0, .int .i64 0] 51,
 .cells #[.string ⟨#[]⟩, .bool false, .int .i64 0, .int .i64 2, .slice none 0 0, .slice (some ⟨w.heap.size + 1 + 1 + 1 + 1 + 1, 0, none⟩) 1 1] 32,
 .cells #[.string ⟨#[]⟩, .bool false, .int .i64 0, .int .i64 2, .slice none 0 0, .slice (some ⟨w.heap.size + 1 + 1 + 1 + 1 + 1, 0, none⟩) 1 1, .string ⟨#[]⟩, .bool false, .int .i64 1, .int .i64 2, .slice none 0 0, .slice (some ⟨w.heap.size + 1, 0, none⟩) 1 1] 32,
 .cells #[.slice none 0 0, .slice none 0 0, .slice (some ⟨w.heap.size + 1 + 1 + 1 + 1 + 1 + 1 + 1, 0, none⟩) 2 2, .int .i64 0] 26]
theorem mdJ (w : World) : MdV (allocs w (oJ w)) (.agg #[.slice none 0 0, .slice none 0 0, .slice (some ⟨w.heap.size + 1 + 1 + 1 + 1 + 1 + 1 + 1, 0, none⟩) 2 2, .int .i64 0]) jMd ∧ PrV (allocs w (oJ w)) (.agg #[.string ⟨#[]⟩, .bool false, .int .i64 1, .int .i64 2, .slice none 0 0, .slice (some ⟨w.heap.size + 1, 0, none⟩) 1 1]) jF := by
 have H := allocs_heap (oJ w) w
 have hi := RdIns.lit (w := allocs w (oJ w)) (g := w.heap.size) [((⟨1, 1, -1, -1, 0, 0, 0, 0, 1, [], false⟩ : In), vNil), ((⟨3, 1, 0, 1, 1, 0, 0, 0, 0, [], false⟩ : In), vNil)] (by simp) (H 0 (by simp [oJ])) (fun x hx => by
  simp only [List.mem_cons, List.not_mem_nil, or_false] at hx
  rcases hx with rfl | rfl <;> exact RdI.nil _)
 have hb := RdBks.lit (w := allocs w (oJ w)) (g := w.heap.size + 1) [((⟨_, 3, 1, 0, 0⟩ : Bk), rowOf' w.heap.size 2)] (by simp) (H 1 (by simp [oJ])) (fun x hx => by
  simp only [List.mem_cons, List.not_mem_nil, or_false] at hx
  subst hx; exact hi)
 have ha := RdI.lit (w := allocs w (oJ w)) (g := w.heap.size + 3) [0] (by simp) (H 3 (by simp [oJ]))
 have hj := RdIns.lit (w := allocs w (oJ w)) (g := w.heap.size + 4) [((⟨11, 0, -1, -1, 0, 0, 0, 0, 0, [], false⟩ : In), vNil), ((⟨9, 1, -1, -1, 0, 1, 0, 0, 0, [0], false⟩ : In), rowOf' (w.heap.size + 3) 1)] (by simp) (H 4 (by simp [oJ])) (fun x hx => by
  simp only [List.mem_cons, List.not_mem_nil, or_false] at hx
  rcases hx with rfl | rfl
  ·exact RdI.nil _
  ·exact ha)
 have hc := RdBks.lit (w := allocs w (oJ w)) (g := w.heap.size + 5) [((⟨_, 3, 1, 0, 0⟩ : Bk), rowOf' (w.heap.size + 4) 2)] (by simp) (H 5 (by simp [oJ])) (fun x hx => by
  simp only [List.mem_cons, List.not_mem_nil, or_false] at hx
  subst hx; exact hj)
 have hp := RdPrs.lit (w := allocs w (oJ w)) (g := w.heap.size + 7) [((⟨false, 0, 2, [], _⟩ : Pr), ⟨#[]⟩, vNil, rowOf' (w.heap.size + 5) 1), ((⟨false, 1, 2, [], _⟩ : Pr), ⟨#[]⟩, vNil, rowOf' (w.heap.size + 1) 1)] (by simp) (H 7 (by simp [oJ])) (fun x hx => by
  simp only [List.mem_cons, List.not_mem_nil, or_false] at hx
  rcases hx with rfl | rfl
  ·exact ⟨RdSls.nil _, hc⟩
  ·exact ⟨RdSls.nil _, hb⟩)
 exact ⟨⟨_, _, _, rfl, RdSls.nil _, RdYs.nil _, hp⟩, ⟨⟨#[]⟩, _, _, rfl, RdSls.nil _, hb⟩⟩
theorem fd_exit (a : Value) (b c d : Int) (w : World) : (Instr.field 62 (.agg #[a, .int .i64 b, .int .u32 c, .int .i64 d]) 2).run Try.prog w = .ok (.int .u32 c) w := by kernel_rfl
theorem j_sz2 : InlI jMd jM (inlP jMd jM) := inlP_ok j_ok j_md j_inv
theorem awake20_c (w : World) : Calls Try.prog 9 #[] w fun e w' => e = .returned (.bool true) ∧ Below w.heap.size w w' := by
 obtain ⟨W, hW⟩ : ∃ W, W = allocs w (oJ w) := ⟨_, rfl⟩
 have BW : Hid (Below w.heap.size w W) := by
  show Below _ _ _
  rw [hW]; exact allocs_below _ _
 have hmd := mdJ w
 have hH := allocs_heap (oJ w) w
 have h2 := hH 2 (by simp [oJ])
 have h8 := hH 8 (by simp [oJ])
 rw [← hW] at hmd h2 h8
 have HM := Lib.hid hmd.1
 have HF := Lib.hid hmd.2
 have H2 := Lib.hid h2
 have H8 := Lib.hid h8
 unfold oJ at H2 H8
 clear hmd hH h2 h8
 unfold allocs oJ at hW
 simp only [List.foldl_cons, List.foldl_nil] at hW
 have HW := Lib.hid hW.symm
 clear hW
 go_enter Try.func9, Try.ntmps9
 go_wp2_with fail
 rw [HW.out]
 refine (inline_c jMd _ 0 W (by decide) HM.out j_ok j_md j_sz j_inv).mono ?_
 rintro e w1 ⟨v1, rfl, hq1, hb1⟩
 have hq1 : PrV w1 v1 (inlP jMd jM) := hq1
 have hJ := j_inl
 have hR := j_run
 have hI := j_sz2
 generalize inlP jMd jM = Q at *
 have HQ := Lib.hid hq1
 have HI := Lib.hid hI
 have HRU := Lib.hid hR
 obtain ⟨nm, vo, vb, rfl, ⟨ao, co, rfl, -⟩, ⟨ab, cb, rfl, -⟩⟩ := hq1
 have gl : ((Q.blks.length : Int) == 3) = true := by rw [hJ.1]; rfl
 have gr : (Q.regs == 4) = true := by rw [hJ.2]; rfl
 have hs2 : w.heap.size + 2 < W.heap.size := (Array.getElem?_eq_some_iff.1 H2.out).1
 have hs8 : w.heap.size + 8 < W.heap.size := (Array.getElem?_eq_some_iff.1 H8.out).1
 have H2 := Lib.hid ((hb1.block _ hs2).trans H2.out)
 have H8 := Lib.hid ((hb1.block _ hs8).trans H8.out)
 have BW := Lib.hid (BW.out.trans (hb1.mono BW.out.size))
 have HM := Lib.hid (HM.out.ext (Ext.below hb1))
 have HF := Lib.hid (HF.out.ext (Ext.below hb1))
 simp only [List.getElem?_cons_succ, List.getElem?_cons_zero] at H2 H8
 clear hJ hR hI hb1 HW hs2 hs8
 obtain ⟨y0, y1, y2, y3, y4, y5, ly⟩ := cl6 H2.out
 obtain ⟨z0, z1, z2, z3, lz⟩ := cl4 H8.out
 go_wp2_with fail
 obtain ⟨W2, hW2⟩ : ∃ W2, W2 = w1.alloc (.cells #[.string nm, .bool Q.void, .int .i64 Q.params, .int .i64 Q.regs, .slice ao Q.objs.length co, .slice ab Q.blks.length cb] 32) := ⟨_, rfl⟩
 have G2 := Lib.hid (heap_of_alloc w1 _ _ hW2)
 have B2 : Hid (Below w1.heap.size w1 W2) := by
  show Below _ _ _
  rw [hW2]; exact below_alloc w1 _
 rw [← hW2]
 clear hW2
 refine (small_c jF _ W2 (HF.out.ext (Ext.below B2.out)) (j_sz.procs _ (List.mem_cons_of_mem _ (List.mem_cons_self ..)))).mono ?_
 rintro e w3 ⟨rfl, hb3⟩
 rw [j_small]
 have B3 := Lib.hid (B2.out.trans (hb3.mono B2.out.size))
 have H8 := Lib.hid ((B3.out.block _ lz).trans H8.out)
 have G2 := Lib.hid ((hb3.block _ (Array.getElem?_eq_some_iff.1 G2.out).1).trans G2.out)
 have BW := Lib.hid (BW.out.trans (B3.out.mono BW.out.size))
 have HM := Lib.hid (HM.out.ext (Ext.below B3.out))
 have HQ := Lib.hid (HQ.out.ext (Ext.below B3.out))
 clear hb3 B2 B3 HF H2 y0 y1 y2 y3 y4 y5 ly z0 z1 z2 z3 lz
 obtain ⟨z0, z1, z2, z3, lz⟩ := cl4 H8.out
 obtain ⟨y0, y1, y2, y3, y4, y5, ly⟩ := cl6 G2.out
 go_wp2_with fail
 refine (withm_c jMd Q 0 _ _ w3 HM.out HQ.out (by decide) (by decide)).mono ?_
 rintro e w4 ⟨⟨v4, rfl, hv4⟩, hb4⟩
 have BW := Lib.hid (BW.out.trans (hb4.mono BW.out.size))
 have HV4 := Lib.hid hv4
 clear hb4 HM HQ H8 G2 z0 z1 z2 z3 lz y0 y1 y2 y3 y4 y5 ly hv4
 go_wp2_with fail
 have hrw : RdW (w4.alloc (.cells #[.int .u32 4] 56)) (.slice (some ⟨w4.heap.size, 0, none⟩) 1 1) [4] := by
  refine ⟨_, _, rfl, Nat.le_refl _, by unfold maxLen; decide, fun i hi => ⟨_, _, rfl, ?_⟩⟩
  obtain rfl : i = 0 := by simp at hi; omega
  exact cell_of_heap (heap_alloc_new w4 _) 0
 have HRR := run_c (withM jMd 0 Q) v4 _ [4] 100 _ (HV4.out.ext (Ext.below (below_alloc w4 (.cells #[.int .u32 4] 56)))) hrw (j_sz.with HI.out.szP) (j_md.with HI.out.pr) (by decide) (fun x hx => by simp at hx; omega)
 refine HRR.mono ?_
 rintro e w5 ⟨v5, rfl, hov, hb5⟩
 have BW := Lib.hid (BW.out.trans (((below_alloc w4 (.cells #[.int .u32 4] 56)).trans (hb5.mono (below_alloc w4 _).size)).mono BW.out.size))
 rw [show (clampF 100).toNat = 100 by decide] at hov
 obtain ⟨aA, cA, rfl, -⟩ := hov.rd (Below.refl _ _)
 rw [HRU.out]
 clear hb5 hrw HRR HV4
 have hfd := fun a b d w => fd_exit a b 5 d w
 go_wp2_with fail
 go_ret
 exact ⟨rfl, BW.out⟩
end Go.Proofs.Ytobfpfjdkpaeiaa

set_option linter.all false
namespace Go.Proofs.Ytobfpfjdkpaeiaa
open Go.ChangeShapes Go.WideShapes Go.ChangeAt Go.RowKit
set_option maxHeartbeats 4000000
set_option linter.unusedVariables false
set_option maxRecDepth 100000

def rightB (m : Md) (n : Int) : Bool := fewM m && (decide (0 ≤ n) && (decide (n < (m.procs.length : Int)) && (decide ((m.procs.getD n.toNat default).regs ≤ 40) && okM m)))
theorem rightM_c (m : Md) (v : Value) (n : Int) (w : World) (hv : MdV w v m) :
  Calls Try.prog 8 #[v, .int .i64 n] w fun e w' => e = .returned (.bool (rightB m n)) ∧ Below w.heap.size w w' := by
 have HF : Hid (∀ w', Ext w w' → Calls Try.prog 22 #[v] w' fun e w'' => e = .returned (.bool (fewM m)) ∧ Below w'.heap.size w' w'') := fun w' he => few_c m v w' (hv.ext he)
 have HV := Lib.hid hv
 obtain ⟨vg, vd, vp, rfl, hvg, hvd, hvp⟩ := hv
 have hvp' := hvp
 obtain ⟨ap, cp, rfl, hp1, hp2, -⟩ := hvp'
 unfold maxLen at hp2
 have HPS := Lib.hid (RdPrs.at6 hvp).2
 clear hvg hvd hvp
 obtain ⟨W0, hW0⟩ : ∃ W0, W0 = w.alloc (.cells #[vg, vd, .slice ap m.procs.length cp, .int .i64 m.main] 26) := ⟨_, rfl⟩
 have B0 : Hid (Below w.heap.size w W0) := by rw [hW0]; exact below_alloc w _
 have H0 := Lib.hid (heap_of_alloc w _ _ hW0)
 have HW0 := Lib.hid hW0
 clear hW0
 go_enter Try.func8, Try.ntmps8
 go_wp2_with fail
 rw [← HW0.out]
 refine (HF.out W0 (Ext.below B0.out)).mono ?_
 rintro e w1 ⟨rfl, hb1⟩
 have H0 := Lib.hid ((hb1.block w.heap.size (Array.getElem?_eq_some_iff.1 H0.out).1).trans H0.out)
 have BB := Lib.hid (B0.out.trans (hb1.mono B0.out.size))
 clear hb1 HF HW0 B0
 obtain ⟨y0, y1, y2, y3, l0⟩ := cl4 H0.out
 cases hfw : fewM m
 ·have hR : Hid (rightB m n = false) := by show _ = _; unfold rightB; rw [hfw]; rfl
  clear hfw
  go_wp2_with fail
  go_ret
  exact ⟨ret_b hR.out.symm, BB.out⟩
 ·by_cases h0 : 0 ≤ n
  ·obtain ⟨k, rfl⟩ := Int.eq_ofNat_of_zero_le h0
   have g0 : decide (0 ≤ (k : Int)) = true := decide_eq_true (by omega)
   by_cases h1 : k < m.procs.length
   ·have g1 : decide ((k : Int) < (m.procs.length : Int)) = true := decide_eq_true (by omega)
    have g2 : decide (k < m.procs.length) = true := decide_eq_true h1
    obtain ⟨bp, op, tnm, tvo, tvb, hap, hto, htb, t0, t1, t2, t3, t4, t5⟩ := HPS.out k h1
    subst hap
    have hE : Ext w w1 := Ext.below BB.out
    replace t3 := hE _ _ t3
    have lbp : bp < w1.heap.size := World.block_lt_of_cell? w1 _ t3
    clear hto htb t0 t1 t2 t4 t5 hE
    have HRG : Hid (rightB m (k : Int) = (decide ((m.procs.getD k default).regs ≤ 40) && okM m)) := by
     show _ = _
     unfold rightB
     rw [hfw, g0, g1, Int.toNat_natCast]; rfl
    have HSZ := Lib.hid (fewM_sz hfw)
    clear hfw HPS
    generalize (m.procs.getD k default).regs = rg at *
    by_cases h2 : rg ≤ 40
    ·have g3 : decide (rg ≤ 40) = true := decide_eq_true h2
     go_wp2_with fail
     refine (check_c m _ w1 (HV.out.ext (Ext.below BB.out)) HSZ.out).mono ?_
     rintro e w2 ⟨rfl, hb2⟩
     have BB := Lib.hid (BB.out.trans (hb2.mono BB.out.size))
     clear hb2
     cases hok : okM m
     ·have hR : Hid (rightB m (k : Int) = false) := by show _ = _; rw [HRG.out, g3, hok]; rfl
      have hk : okE m = 3 := by unfold okE; rw [hok]; rfl
      rw [hk]
      clear hok hk
      go_wp2_with fail
      go_ret
      exact ⟨ret_b hR.out.symm, BB.out⟩
     ·have hR : Hid (rightB m (k : Int) = true) := by show _ = _; rw [HRG.out, g3, hok]; rfl
      have hk : okE m = 0 := by unfold okE; rw [hok]; rfl
      rw [hk]
      clear hok hk
      go_wp2_with fail
      go_ret
      exact ⟨ret_b hR.out.symm, BB.out⟩
    ·have g3 : decide (rg ≤ 40) = false := decide_eq_false h2
     have hR : Hid (rightB m (k : Int) = false) := by show _ = _; rw [HRG.out, g3]; rfl
     go_wp2_with fail
     go_ret
     exact ⟨ret_b hR.out.symm, BB.out⟩
   ·have g1 : decide ((k : Int) < (m.procs.length : Int)) = false := decide_eq_false (by omega)
    have g2 : decide (k < m.procs.length) = false := decide_eq_false h1
    have hR : Hid (rightB m (k : Int) = false) := by show _ = _; unfold rightB; rw [hfw, g0, g1]; rfl
    clear hfw
    go_wp2_with fail
    go_ret
    exact ⟨ret_b hR.out.symm, BB.out⟩
  ·have g0 : decide (0 ≤ n) = false := decide_eq_false h0
   have hR : Hid (rightB m n = false) := by show _ = _; unfold rightB; rw [hfw, g0]; rfl
   clear hfw
   go_wp2_with fail
   go_ret
   exact ⟨ret_b hR.out.symm, BB.out⟩
theorem rightB_is {m : Md} {n : Int} (h : rightB m n = true) : fewM m = true ∧ ∃ k : Nat, n = (k : Int) ∧ k < m.procs.length ∧ (m.procs.getD k default).regs ≤ 40 ∧ okM m = true := by
 unfold rightB at h
 simp only [Bool.and_eq_true, decide_eq_true_eq] at h
 obtain ⟨h0, h1, h2, h3, h4⟩ := h
 exact ⟨h0, n.toNat, by omega, by omega, h3, h4⟩
end Go.Proofs.Ytobfpfjdkpaeiaa
