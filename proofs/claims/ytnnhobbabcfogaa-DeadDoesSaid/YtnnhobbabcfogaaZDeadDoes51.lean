/-
 dead.Drop.; What few modules are like: plain.; Procedures of which statements speak: their sizes.; Is a module right, and not too large: the walk of the statements' Right.; DeadDoes: the walk.; From a walk to a statement: what was read before a call that only makes new memory reads as before behind it.
-/
import Derived.Test.YtnnhobbabcfogaaZDeadDoes50
import Derived.Test.YtnnhobbabcfogaaZDeadDoes04
import Derived.Test.YtnnhobbabcfogaaZDeadDoes05
import Derived.Test.YtnnhobbabcfogaaZDeadDoes47
import Derived.Test.YtnnhobbabcfogaaZDeadDoes22
import Derived.Test.YtnnhobbabcfogaaZDeadDoes08
import Derived.Test.YtnnhobbabcfogaaZDeadDoes11
import Derived.Test.YtnnhobbabcfogaaZDeadDoes34
import Derived.Test.YtnnhobbabcfogaaZDeadDoes07
import Derived.Test.YtnnhobbabcfogaaRows
import Derived.WalkKit
import Derived.ProofKit
import Derived.OpenShut
import Derived.Lib.SmallJoins
import Derived.Deep.Slices
import Derived.Deep.Fields
import Derived.ChangeSame

set_option linter.all false
namespace Go.Proofs.Ytnnhobbabcfogaa
open Go.ChangeShapes Go.WideShapes Go.ChangeAt Go.RowKit
set_option maxHeartbeats 4000000
set_option maxRecDepth 100000
set_option linter.unusedVariables false

theorem drop2_c (p : Pr) (nm : ByteArray) (vo vb : Value) (w00 w : World) (he00 : Ext w00 w) (hvo : RdSls w00 vo p.objs) (hB : RdBks w vb p.blks) (hA : InsAt w00 w vb p.blks) (hok : DeadOk p) :
  Calls Try.prog 27 #[.agg #[.string nm, .bool p.void, .int .i64 p.params, .int .i64 p.regs, vo, vb]] w fun e w' =>
   ∃ vb', e = .returned (.agg #[.string nm, .bool p.void, .int .i64 p.params, .int .i64 p.regs, vo, vb']) ∧ OutB w00 w' w.heap.size vb' (dropP p).blks ∧ Below w.heap.size w w' := by
 have EDR : Hid (∀ w', Ext w w' → Calls Try.prog 63 #[.agg #[.string nm, .bool p.void, .int .i64 p.params, .int .i64 p.regs, vo, vb]] w' fun e w'' =>
    ∃ vb', e = .returned (.tuple #[.agg #[.string nm, .bool p.void, .int .i64 p.params, .int .i64 p.regs, vo, vb'], .int .i64 (goneP p p.blks.length : Int)]) ∧ OutB w00 w'' w'.heap.size vb' (dropP p).blks ∧ Below w'.heap.size w' w'') :=
  fun w' he => drop_c p nm vo vb w00 w' (he00.trans he) ⟨nm, vo, vb, rfl, (hvo.ext he00).ext he, hB.ext he⟩ (hA.ext he) hok
 obtain ⟨oa, oc, hvo', -⟩ := id hvo
 subst hvo'
 obtain ⟨a, c, rfl, -, -, -⟩ := id hB
 clear he00 hvo hB hA hok
 go_enter Try.func27, Try.ntmps27
 go_wp2_with fail
 obtain ⟨WA, hWA⟩ : ∃ WA, WA = (w.alloc (.cells #[.string nm, .bool p.void, .int .i64 p.params, .int .i64 p.regs, .slice oa p.objs.length oc, .slice a p.blks.length c] 32)).alloc (.cells zProc 32) := ⟨_, rfl⟩
 have BA : Hid (Below w.heap.size w WA) := by rw [hWA]; exact (below_alloc w _).alloc (by simp) _
 have H1 : Hid (WA.heap[w.heap.size + 1]? = some (.cells zProc 32)) := by
  rw [hWA]
  have := heap_alloc_new (w.alloc (.cells #[.string nm, .bool p.void, .int .i64 p.params, .int .i64 p.regs, .slice oa p.objs.length oc, .slice a p.blks.length c] 32)) (.cells zProc 32)
  rwa [World.size_alloc] at this
 unfold zProc at hWA
 rw [← hWA]
 clear hWA
 have l1 := (Array.getElem?_eq_some_iff.1 H1.out).1
 refine (EDR.out WA (Ext.below BA.out)).mono ?_
 rintro e w1 ⟨vb', rfl, hO1, hb1⟩
 obtain ⟨L1, hL1, hL2, hL3⟩ := id hO1
 obtain ⟨a1, c1, hv1⟩ := row_form hL1
 subst hv1
 have HO1 := Lib.hid hO1
 have BW1 := Lib.hid (BA.out.trans (hb1.mono BA.out.size))
 have H1 := Lib.hid ((hb1.block _ l1).trans H1.out)
 clear hO1 hb1 hL1 hL2 hL3 EDR
 have hWAz : w.heap.size + 1 < w1.heap.size := (Array.getElem?_eq_some_iff.1 H1.out).1
 generalize L1.length = n1 at *
 generalize goneP p p.blks.length = gn at *
 dsimp only
 have u0 := cell_of_heap H1.out 0
 have u1 := cell_of_heap H1.out 1
 have u2 := cell_of_heap H1.out 2
 have u3 := cell_of_heap H1.out 3
 have u4 := cell_of_heap H1.out 4
 have u5 := cell_of_heap H1.out 5
 unfold zProc at u0 u1 u2 u3 u4 u5
 simp only [List.getElem?_toArray, List.getElem?_cons_zero, List.getElem?_cons_succ] at u0 u1 u2 u3 u4 u5
 have k0 := frozen_of_heap H1.out 0
 have k1 := frozen_of_heap H1.out 1
 have k2 := frozen_of_heap H1.out 2
 have k3 := frozen_of_heap H1.out 3
 have k4 := frozen_of_heap H1.out 4
 have k5 := frozen_of_heap H1.out 5
 go_wp2_with fail
 obtain ⟨W8, hW8⟩ : ∃ W8, W8 = (((((w1.setCell ⟨w.heap.size + 1, 0, none⟩ (.string nm)).setCell ⟨w.heap.size + 1, 1, none⟩ (.bool p.void)).setCell ⟨w.heap.size + 1, 2, none⟩ (.int .i64 p.params)).setCell ⟨w.heap.size + 1, 3, none⟩ (.int .i64 p.regs)).setCell ⟨w.heap.size + 1, 4, none⟩ (.slice oa p.objs.length oc)).setCell ⟨w.heap.size + 1, 5, none⟩ (.slice a1 n1 c1) := ⟨_, rfl⟩
 rw [← hW8]
 have K8 : But (w.heap.size + 1) w1 W8 := by
  rw [hW8]
  exact (((((But.setCell _ _ w1 _).trans (But.setCell _ _ _ _)).trans (But.setCell _ _ _ _)).trans (But.setCell _ _ _ _)).trans (But.setCell _ _ _ _)).trans (But.setCell _ _ _ _)
 have g8 : W8.heap[w.heap.size + 1]? = some (.cells #[.string nm, .bool p.void, .int .i64 p.params, .int .i64 p.regs, .slice oa p.objs.length oc, .slice a1 n1 c1] 32) := by
  rw [hW8]
  exact heap_setCell_same _ _ 5 _ _ _ (heap_setCell_same _ _ 4 _ _ _ (heap_setCell_same _ _ 3 _ _ _ (heap_setCell_same _ _ 2 _ _ _ (heap_setCell_same _ _ 1 _ _ _ (heap_setCell_same w1 _ 0 _ _ _ H1.out)))))
 clear hW8 u0 u1 u2 u3 u4 u5 k0 k1 k2 k3 k4 k5
 have hO8 := HO1.out.turn (but_grown K8) (fun b e => by simp only [Option.some.injEq] at e; omega)
 have hb9 := below_alloc W8 (.cells #[.string nm, .bool p.void, .int .i64 p.params, .int .i64 p.regs, .slice oa p.objs.length oc, .slice a1 n1 c1] 32)
 have hO9 := hO8.below hb9
 have l8 : w.heap.size + 1 < W8.heap.size := Nat.lt_of_lt_of_le hWAz K8.size
 have g9 := (hb9.block (w.heap.size + 1) l8).trans g8
 obtain ⟨x0, x1, x2, x3, x4, x5, -⟩ := cl6 g9
 have B8 := BW1.out.trans (K8.toBelow (B := w.heap.size) (by omega) (by omega))
 have B9 := B8.trans (hb9.mono B8.size)
 refine bodyPost_ret (v := .agg #[.string nm, .bool p.void, .int .i64 p.params, .int .i64 p.regs, .slice oa p.objs.length oc, .slice a1 n1 c1]) (by simp [results, Try.results27, go_sem, x0, x1, x2, x3, x4, x5]) rfl ?_
 exact ⟨_, rfl, hO9.mono (by omega), B9⟩
end Go.Proofs.Ytnnhobbabcfogaa

set_option linter.all false
namespace Go.Proofs.Ytnnhobbabcfogaa
set_option linter.unusedVariables false

theorem fewM_sz {m : Md} (h : fewM m = true) : SzM m := by
 unfold fewM at h
 simp only [Bool.and_eq_true, List.all_eq_true] at h
 refine ⟨fun p hp => ?_⟩
 have h2 := h.2.2.2 p hp
 unfold prF at h2
 simp only [Bool.and_eq_true, decide_eq_true_eq, List.all_eq_true] at h2
 refine ⟨by omega, fun b hb => ?_⟩
 have h3 := h2.2.2 b hb
 unfold blkF at h3
 simp only [Bool.and_eq_true, decide_eq_true_eq] at h3
 omega
theorem fewM_pr {m : Md} (h : fewM m = true) {p : Pr} (hp : p ∈ m.procs) : p.blks.length ≤ 40 ∧ p.objs.length ≤ 20 ∧ ∀ b ∈ p.blks, b.ins.length ≤ 60 ∧ ∀ i ∈ b.ins, insF i = true := by
 unfold fewM at h
 simp only [Bool.and_eq_true, List.all_eq_true] at h
 have h2 := h.2.2.2 p hp
 unfold prF at h2
 simp only [Bool.and_eq_true, decide_eq_true_eq, List.all_eq_true] at h2
 refine ⟨h2.1, h2.2.1, fun b hb => ?_⟩
 have h3 := h2.2.2 b hb
 unfold blkF at h3
 simp only [Bool.and_eq_true, decide_eq_true_eq, List.all_eq_true] at h3
 exact h3
theorem insF_args {i : In} (h : insF i = true) : i.args.length ≤ 12 := by
 unfold insF at h
 simp only [Bool.and_eq_true, decide_eq_true_eq] at h
 exact h.2.2
end Go.Proofs.Ytnnhobbabcfogaa

set_option linter.all false
namespace Go.Proofs.Ytnnhobbabcfogaa
set_option linter.unusedVariables false

theorem dead_ok {m : Md} {p : Pr} (hf : fewM m = true) (hm : p ∈ m.procs) (hk : okP m p = true) (hr : p.regs ≤ 40) : DeadOk p := by
 have hpr := fewM_pr hf hm
 unfold okP okHead at hk
 simp only [Bool.and_eq_true, decide_eq_true_eq, List.all_eq_true] at hk
 obtain ⟨⟨h1, h2, h3, h4, h5, h6, h7, -, -⟩, hb⟩ := hk
 have hgb : ∀ n, n < p.blks.length → p.blks.getD n default ∈ p.blks := fun n hn => by simp [List.getD, hn]
 have hgi : ∀ (b : Bk) k, k < b.ins.length → b.ins.getD k default ∈ b.ins := fun b k hk => by simp [List.getD, hk]
 refine ⟨by omega, ⟨by unfold I64; omega, by omega⟩, fun n hn => ?_, fun n hn k hk hp => ?_⟩
 ·have h := hpr.2.2 _ (hgb n hn)
  refine ⟨by omega, fun k hk => ?_⟩
  have := insF_args (h.2 _ (hgi _ k hk))
  omega
 ·have h := hb _ (hgb n hn)
  unfold okB at h
  simp only [Bool.and_eq_true, List.all_eq_true] at h
  have hi := h.1 _ (hgi _ k hk)
  generalize (p.blks.getD n default).ins.getD k default = i at *
  unfold pureI at hp
  have hp := of_decide_eq_true hp
  unfold okI at hi
  have h9 : ¬ i.op = 9 := by omega
  have e1 : (i.op != 6 && (i.op != 10 && i.op != 12)) = true := by
   simp only [bne_iff_ne, ne_eq, Bool.and_eq_true]; omega
  rw [if_neg h9, e1] at hi
  simp only [Bool.and_eq_true, regF, if_true, decide_eq_true_eq] at hi
  exact hi.2.1.1
end Go.Proofs.Ytnnhobbabcfogaa

set_option linter.all false
namespace Go.Proofs.Ytnnhobbabcfogaa
open Go.ChangeShapes Go.WideShapes Go.ChangeAt Go.RowKit
set_option maxHeartbeats 4000000
set_option linter.unusedVariables false
set_option maxRecDepth 100000

def rightB (m : Md) (n : Int) : Bool := fewM m && (decide (0 ≤ n) && (decide (n < (m.procs.length : Int)) && (decide ((m.procs.getD n.toNat default).regs ≤ 40) && okM m)))
theorem rightM_c (m : Md) (v : Value) (n : Int) (w : World) (hv : MdV w v m) :
  Calls Try.prog 11 #[v, .int .i64 n] w fun e w' => e = .returned (.bool (rightB m n)) ∧ Below w.heap.size w w' := by
 have HF : Hid (∀ w', Ext w w' → Calls Try.prog 48 #[v] w' fun e w'' => e = .returned (.bool (fewM m)) ∧ Below w'.heap.size w' w'') := fun w' he => few_c m v w' (hv.ext he)
 have HV := Lib.hid hv
 obtain ⟨vg, vd, vp, rfl, hvg, hvd, hvp⟩ := hv
 have hvp' := hvp
 obtain ⟨ap, cp, rfl, hp1, hp2, -⟩ := hvp'
 unfold maxLen at hp2
 have HPS := Lib.hid (RdPrs.at6 hvp).2
 clear hvg hvd hvp
 obtain ⟨W0, hW0⟩ : ∃ W0, W0 = w.alloc (.cells #[vg, vd, .slice ap m.procs.length cp, .int .i64 m.main] 26) := ⟨_, rfl⟩
 have B0 : Hid (Below w.heap.size w W0) := by rw [hW0]; exact below_alloc w _
 have H0 := Lib.hid (heap_of_alloc w _ _ hW0)
 have HW0 := Lib.hid hW0
 clear hW0
 go_enter Try.func11, Try.ntmps11
 go_wp2_with fail
 rw [← HW0.out]
 refine (HF.out W0 (Ext.below B0.out)).mono ?_
 rintro e w1 ⟨rfl, hb1⟩
 have H0 := Lib.hid ((hb1.block w.heap.size (Array.getElem?_eq_some_iff.1 H0.out).1).trans H0.out)
 have BB := Lib.hid (B0.out.trans (hb1.mono B0.out.size))
 clear hb1 HF HW0 B0
 obtain ⟨y0, y1, y2, y3, l0⟩ := cl4 H0.out
 cases hfw : fewM m
 ·have hR : Hid (rightB m n = false) := by show _ = _; unfold rightB; rw [hfw]; rfl
  clear hfw
  go_wp2_with fail
  go_ret
  exact ⟨ret_b hR.out.symm, BB.out⟩
 ·by_cases h0 : 0 ≤ n
  ·obtain ⟨k, rfl⟩ := Int.eq_ofNat_of_zero_le h0
   have g0 : decide (0 ≤ (k : Int)) = true := decide_eq_true (by omega)
   by_cases h1 : k < m.procs.length
   ·have g1 : decide ((k : Int) < (m.procs.length : Int)) = true := decide_eq_true (by omega)
    have g2 : decide (k < m.procs.length) = true := decide_eq_true h1
    obtain ⟨bp, op, tnm, tvo, tvb, hap, hto, htb, t0, t1, t2, t3, t4, t5⟩ := HPS.out k h1
    subst hap
    have hE : Ext w w1 := Ext.below BB.out
    replace t3 := hE _ _ t3
    have lbp : bp < w1.heap.size := World.block_lt_of_cell? w1 _ t3
    clear hto htb t0 t1 t2 t4 t5 hE
    have HRG : Hid (rightB m (k : Int) = (decide ((m.procs.getD k default).regs ≤ 40) && okM m)) := by
     show _ = _
     unfold rightB
     rw [hfw, g0, g1, Int.toNat_natCast]; rfl
    have HSZ := Lib.hid (fewM_sz hfw)
    clear hfw HPS
    generalize (m.procs.getD k default).regs = rg at *
    by_cases h2 : rg ≤ 40
    ·have g3 : decide (rg ≤ 40) = true := decide_eq_true h2
     go_wp2_with fail
     refine (check_c m _ w1 (HV.out.ext (Ext.below BB.out)) HSZ.out).mono ?_
     rintro e w2 ⟨rfl, hb2⟩
     have BB := Lib.hid (BB.out.trans (hb2.mono BB.out.size))
     clear hb2
     cases hok : okM m
     ·have hR : Hid (rightB m (k : Int) = false) := by show _ = _; rw [HRG.out, g3, hok]; rfl
      have hk : okE m = 3 := by unfold okE; rw [hok]; rfl
      rw [hk]
      clear hok hk
      go_wp2_with fail
      go_ret
      exact ⟨ret_b hR.out.symm, BB.out⟩
     ·have hR : Hid (rightB m (k : Int) = true) := by show _ = _; rw [HRG.out, g3, hok]; rfl
      have hk : okE m = 0 := by unfold okE; rw [hok]; rfl
      rw [hk]
      clear hok hk
      go_wp2_with fail
      go_ret
      exact ⟨ret_b hR.out.symm, BB.out⟩
    ·have g3 : decide (rg ≤ 40) = false := decide_eq_false h2
     have hR : Hid (rightB m (k : Int) = false) := by show _ = _; rw [HRG.out, g3]; rfl
     go_wp2_with fail
     go_ret
     exact ⟨ret_b hR.out.symm, BB.out⟩
   ·have g1 : decide ((k : Int) < (m.procs.length : Int)) = false := decide_eq_false (by omega)
    have g2 : decide (k < m.procs.length) = false := decide_eq_false h1
    have hR : Hid (rightB m (k : Int) = false) := by show _ = _; unfold rightB; rw [hfw, g0, g1]; rfl
    clear hfw
    go_wp2_with fail
    go_ret
    exact ⟨ret_b hR.out.symm, BB.out⟩
  ·have g0 : decide (0 ≤ n) = false := decide_eq_false h0
   have hR : Hid (rightB m n = false) := by show _ = _; unfold rightB; rw [hfw, g0]; rfl
   clear hfw
   go_wp2_with fail
   go_ret
   exact ⟨ret_b hR.out.symm, BB.out⟩
theorem rightB_is {m : Md} {n : Int} (h : rightB m n = true) : fewM m = true ∧ ∃ k : Nat, n = (k : Int) ∧ k < m.procs.length ∧ (m.procs.getD k default).regs ≤ 40 ∧ okM m = true := by
 unfold rightB at h
 simp only [Bool.and_eq_true, decide_eq_true_eq] at h
 obtain ⟨h0, h1, h2, h3, h4⟩ := h
 exact ⟨h0, n.toNat, by omega, by omega, h3, h4⟩
end Go.Proofs.Ytnnhobbabcfogaa

set_option linter.all false
namespace Go.Proofs.Ytnnhobbabcfogaa
open Go.ChangeShapes Go.WideShapes Go.ChangeAt Go.RowKit
set_option maxHeartbeats 4000000
set_option linter.unusedVariables false
set_option maxRecDepth 100000

theorem does_good (m : Md) (q : Pr) (n : Nat) (vm vq vi : Value) (inp : List Int) (w : World) (G : Good m inp n q) (hok : okM m = true) (hf : fewM m = true) (hd : MdOk m) (hn : n < m.procs.length) (hil : inp.length ≤ 40) (hiw : ∀ x ∈ inp, 0 ≤ x ∧ x < 4294967296) (hm : MdV w vm m) (hq : PrV w vq q) (hi : RdW w vi inp) :
  Calls Try.prog 17 #[vm, .int .i64 (n : Int), vq, vi] w fun e w' => e = .returned (.bool true) ∧ Below w.heap.size w w' :=
 does_c m q n vm vq vi inp w hm hq hi hn (by have := (show m.procs.length ≤ 6 from by unfold fewM at hf; simp only [Bool.and_eq_true, decide_eq_true_eq] at hf; exact hf.1); omega) (by omega) hiw (few_sz hf) ((few_sz hf).with G.sz) hd (hd.with G.pr) (okM_with hn G.like hok G.ok) (fun he => G.same 3000 60000 (by decide) he)
theorem DeadDoes_w (m : Md) (v : Value) (n : Int) (inp : List Int) (vi : Value) (w : World) (hn : MdOk m) (hv : MdV w v m) (hiw : ∀ x ∈ inp, 0 ≤ x ∧ x < 4294967296) (hi : RdW w vi inp) :
  Calls Try.prog 5 #[v, .int .i64 n, vi] w fun e w' => e = .returned (.bool true) ∧ Below w.heap.size w w' := by
 have HR : Hid (∀ w', Ext w w' → Calls Try.prog 11 #[v, .int .i64 n] w' fun e w'' => e = .returned (.bool (rightB m n)) ∧ Below w'.heap.size w' w'') := fun w' he => rightM_c m v n w' (hv.ext he)
 have HV := Lib.hid hv
 have HI := Lib.hid hi
 obtain ⟨vg, vd, vp, rfl, hvg, hvd, hvp⟩ := hv
 have hvp' := hvp
 obtain ⟨ap, cp, rfl, hp1, hp2, -⟩ := hvp'
 obtain ⟨ai, ci, rfl, hi1, hi2, -⟩ := hi
 unfold maxLen at hp2 hi2
 have HPS := Lib.hid (RdPrs.at6 hvp).2
 have HN := Lib.hid hn
 clear hvg hvd hvp hn
 obtain ⟨W0, hW0⟩ : ∃ W0, W0 = w.alloc (.cells #[vg, vd, .slice ap m.procs.length cp, .int .i64 m.main] 26) := ⟨_, rfl⟩
 have B0 : Hid (Below w.heap.size w W0) := by rw [hW0]; exact below_alloc w _
 have H0 := Lib.hid (heap_of_alloc w _ _ hW0)
 have HW0 := Lib.hid hW0
 clear hW0
 go_enter Try.func5, Try.ntmps5
 go_wp2_with fail
 rw [← HW0.out]
 refine (HR.out W0 (Ext.below B0.out)).mono ?_
 rintro e w1 ⟨rfl, hb1⟩
 have H0 := Lib.hid ((hb1.block w.heap.size (Array.getElem?_eq_some_iff.1 H0.out).1).trans H0.out)
 have BB := Lib.hid (B0.out.trans (hb1.mono B0.out.size))
 clear hb1 HR HW0 B0
 obtain ⟨y0, y1, y2, y3, l0⟩ := cl4 H0.out
 cases hr : rightB m n
 ·clear hr
  go_wp2_with fail
  refine (awake18_c _).mono ?_
  rintro e w2 ⟨rfl, hb2⟩
  have BB := Lib.hid (BB.out.trans (hb2.mono BB.out.size))
  clear hb2
  go_wp2_with fail
  go_ret
  exact ⟨rfl, BB.out⟩
 ·obtain ⟨hfw, k, rfl, h1, h40, hokm⟩ := rightB_is hr
  clear hr
  by_cases k1 : 40 < inp.length
  ·have gi : decide ((40 : Int) < (inp.length : Int)) = true := decide_eq_true (by omega)
   clear hokm hfw
   go_wp2_with fail
   refine (awake18_c _).mono ?_
   rintro e w2 ⟨rfl, hb2⟩
   have BB := Lib.hid (BB.out.trans (hb2.mono BB.out.size))
   clear hb2
   go_wp2_with fail
   go_ret
   exact ⟨rfl, BB.out⟩
  ·have gi : decide ((40 : Int) < (inp.length : Int)) = false := decide_eq_false (by omega)
   have g1 : decide ((k : Int) < (m.procs.length : Int)) = true := decide_eq_true (by omega)
   have g2 : decide (k < m.procs.length) = true := decide_eq_true h1
   obtain ⟨bp, op, tnm, tvo, tvb, hap, hto, htb, t0, t1, t2, t3, t4, t5⟩ := HPS.out k h1
   subst hap
   have hmem : m.procs.getD k default ∈ m.procs := by simp [List.getD, h1]
   have hkp : okP m (m.procs.getD k default) = true := by
    have h := hokm
    unfold okM at h
    simp only [Bool.and_eq_true, List.all_eq_true] at h
    exact h.2.2.2 _ hmem
   have DOK := Lib.hid (dead_ok hfw hmem hkp h40)
   have GR : Good m inp k (m.procs.getD k default) := Good.refl hokm HN.out (few_sz hfw) h1
   have GD := Lib.hid (GR.drop hokm HN.out hiw h1)
   have GA : Hid (Good m inp k (deadP (m.procs.getD k default))) := Good.dead hokm HN.out hiw h1 _ _ GR
   have EDO : Hid (∀ (q : Pr) (vq : Value) w', Good m inp k q → Ext w w' → PrV w' vq q → Calls Try.prog 17 #[.agg #[vg, vd, .slice (some ⟨bp, op, none⟩) m.procs.length cp, .int .i64 m.main], .int .i64 (k : Int), vq, .slice ai inp.length ci] w' fun e w'' => e = .returned (.bool true) ∧ Below w'.heap.size w' w'') :=
    fun q vq w' G he hq => does_good m q k _ vq _ inp w' G hokm hfw HN.out h1 (by omega) hiw (HV.out.ext he) hq (HI.out.ext he)
   clear hkp hokm hfw hmem HPS HN h40 GR hiw
   generalize m.procs.getD k default = P at *
   have HTO := Lib.hid hto
   have HBK := Lib.hid htb
   obtain ⟨ao, co, rfl, -⟩ := hto
   obtain ⟨ab, cb, rfl, -⟩ := htb
   have hE1 : Ext w w1 := Ext.below BB.out
   replace t0 := hE1 _ _ t0
   replace t1 := hE1 _ _ t1
   replace t2 := hE1 _ _ t2
   replace t3 := hE1 _ _ t3
   replace t4 := hE1 _ _ t4
   replace t5 := hE1 _ _ t5
   clear hE1
   go_wp2_with fail
   obtain ⟨W2, hW2⟩ : ∃ W2, W2 = w1.alloc (.cells #[.string tnm, .bool P.void, .int .i64 P.params, .int .i64 P.regs, .slice ao P.objs.length co, .slice ab P.blks.length cb] 32) := ⟨_, rfl⟩
   have H2 : Hid (W2.heap[w1.heap.size]? = some (.cells #[.string tnm, .bool P.void, .int .i64 P.params, .int .i64 P.regs, .slice ao P.objs.length co, .slice ab P.blks.length cb] 32)) := by rw [hW2]; exact heap_alloc_new w1 _
   have B2 : Hid (Below w1.heap.size w1 W2) := by rw [hW2]; exact below_alloc w1 _
   have H0 := Lib.hid ((B2.out.block _ l0).trans H0.out)
   have BB := Lib.hid (BB.out.trans (B2.out.mono BB.out.size))
   rw [← hW2]
   clear hW2 t0 t1 t2 t3 t4 t5 y0 y1 y2 y3 l0 B2
   generalize w1.heap.size = b5 at *
   have l5 := (Array.getElem?_eq_some_iff.1 H2.out).1
   have l0 := (Array.getElem?_eq_some_iff.1 H0.out).1
   refine wp_region_junk (fun _ => True) (by kernel_rfl) ?_
   refine J_loud1 0 _ rfl (by kernel_rfl) ?_
   simp only [List.getElem_toArray, List.getElem_cons_succ, List.getElem_cons_zero]
   intro wj hj
   go_wp2_with fail
   refine (awake18_c wj).mono ?_
   rintro e w4 ⟨rfl, hb2⟩
   go_wp2_with fail
   refine ⟨KeepX.below hb2, ?_⟩
   have hb3 := Lib.hid (hj.trans (hb2.mono hj.size))
   have H2 := Lib.hid ((hb3.out.block _ l5).trans H2.out)
   have H0 := Lib.hid ((hb3.out.block _ l0).trans H0.out)
   have BB := Lib.hid (BB.out.trans (hb3.out.mono BB.out.size))
   clear hj hb2 l5 l0
   have l5 := (Array.getElem?_eq_some_iff.1 H2.out).1
   have l0 := (Array.getElem?_eq_some_iff.1 H0.out).1
   obtain ⟨x0, x1, x2, x3, x4, x5, -⟩ := cl6 H2.out
   obtain ⟨y0, y1, y2, y3, -⟩ := cl4 H0.out
   refine J_mobs [1, 2, 3, 4, 6] _ _ _ _ (by kernel_rfl) ?_
   simp only [List.map_cons, List.map_nil, List.getElem?_toArray, List.getElem?_cons_succ, List.getElem?_cons_zero, Option.getD_some, List.size_toArray, List.length_cons, List.length_nil, Nat.reduceAdd, Nat.reduceSub]
   repeat (go_big_quiet_step (fail))
   refine wpQuiet_nil ?_
   clear x0 x1 x2 x3 x4 x5 y0 y1 y2 y3
   refine J_loud1 5 _ rfl (by kernel_rfl) ?_
   simp only [List.getElem_toArray, List.getElem_cons_succ, List.getElem_cons_zero]
   intro wj hj
   go_wp2_with fail
   refine (drop2_c P tnm _ _ w wj (Ext.below (BB.out.trans (hj.mono BB.out.size))) HTO.out (HBK.out.ext (Ext.below (BB.out.trans (hj.mono BB.out.size)))) ((InsAt.of HBK.out).ext (Ext.below (BB.out.trans (hj.mono BB.out.size)))) DOK.out).mono ?_
   rintro e w5 ⟨vb5, rfl, ho5, hb2⟩
   have E5 : Ext w w5 := Ext.below ((BB.out.trans (hj.mono BB.out.size)).trans (hb2.mono (BB.out.trans (hj.mono BB.out.size)).size))
   have V5 : Hid (PrV w5 (.agg #[.string tnm, .bool P.void, .int .i64 P.params, .int .i64 P.regs, .slice ao P.objs.length co, vb5]) (dropP P)) := ⟨tnm, _, vb5, rfl, HTO.out.ext E5, ho5.rd E5⟩
   clear ho5 E5
   go_wp2_with fail
   refine ⟨KeepX.below hb2, ?_⟩
   have hb3 := Lib.hid (hj.trans (hb2.mono hj.size))
   have H2 := Lib.hid ((hb3.out.block _ l5).trans H2.out)
   have H0 := Lib.hid ((hb3.out.block _ l0).trans H0.out)
   have BB := Lib.hid (BB.out.trans (hb3.out.mono BB.out.size))
   clear hj hb2 l5 l0
   have l5 := (Array.getElem?_eq_some_iff.1 H2.out).1
   have l0 := (Array.getElem?_eq_some_iff.1 H0.out).1
   refine J_loud1 7 _ rfl (by kernel_rfl) ?_
   simp only [List.getElem_toArray, List.getElem_cons_succ, List.getElem_cons_zero]
   intro wj hj
   go_wp2_with fail
   refine (EDO.out _ _ wj GD.out (Ext.below (BB.out.trans (hj.mono BB.out.size))) (V5.out.ext (Ext.below hj))).mono ?_
   rintro e w6 ⟨rfl, hb2⟩
   clear V5 GD
   go_wp2_with fail
   refine ⟨KeepX.below hb2, ?_⟩
   have hb3 := Lib.hid (hj.trans (hb2.mono hj.size))
   have H2 := Lib.hid ((hb3.out.block _ l5).trans H2.out)
   have H0 := Lib.hid ((hb3.out.block _ l0).trans H0.out)
   have BB := Lib.hid (BB.out.trans (hb3.out.mono BB.out.size))
   clear hj hb2 l5 l0
   have l5 := (Array.getElem?_eq_some_iff.1 H2.out).1
   have l0 := (Array.getElem?_eq_some_iff.1 H0.out).1
   obtain ⟨x0, x1, x2, x3, x4, x5, -⟩ := cl6 H2.out
   obtain ⟨y0, y1, y2, y3, -⟩ := cl4 H0.out
   refine J_mobs [8, 9, 10, 11, 12, 14] _ _ _ _ (by kernel_rfl) ?_
   simp only [List.map_cons, List.map_nil, List.getElem?_toArray, List.getElem?_cons_succ, List.getElem?_cons_zero, Option.getD_some, List.size_toArray, List.length_cons, List.length_nil, Nat.reduceAdd, Nat.reduceSub]
   repeat (go_big_quiet_step (fail))
   refine wpQuiet_nil ?_
   clear x0 x1 x2 x3 x4 x5 y0 y1 y2 y3
   refine J_loud1 13 _ rfl (by kernel_rfl) ?_
   simp only [List.getElem_toArray, List.getElem_cons_succ, List.getElem_cons_zero]
   intro wj hj
   go_wp2_with fail
   refine (dead_c P tnm _ _ w wj (Ext.below (BB.out.trans (hj.mono BB.out.size))) HTO.out (HBK.out.ext (Ext.below (BB.out.trans (hj.mono BB.out.size)))) ((InsAt.of HBK.out).ext (Ext.below (BB.out.trans (hj.mono BB.out.size)))) DOK.out).mono ?_
   rintro e w7 ⟨vb7, rfl, ho7, hb2⟩
   have E7 : Ext w w7 := Ext.below ((BB.out.trans (hj.mono BB.out.size)).trans (hb2.mono (BB.out.trans (hj.mono BB.out.size)).size))
   have V7 : Hid (PrV w7 (.agg #[.string tnm, .bool P.void, .int .i64 P.params, .int .i64 P.regs, .slice ao P.objs.length co, vb7]) (deadP P)) := by
    have e := deadX_void (sizeL P.blks + 1) P
    have e2 : deadP P = ⟨P.void, P.params, P.regs, P.objs, (deadP P).blks⟩ := by
     show deadF _ _ = _
     rw [← e.1, ← e.2.1, ← e.2.2.1, ← e.2.2.2]; rfl
    rw [e2]
    exact ⟨tnm, _, vb7, rfl, HTO.out.ext E7, ho7.rd E7⟩
   clear ho7 E7
   go_wp2_with fail
   refine ⟨KeepX.below hb2, ?_⟩
   have hb3 := Lib.hid (hj.trans (hb2.mono hj.size))
   have H2 := Lib.hid ((hb3.out.block _ l5).trans H2.out)
   have H0 := Lib.hid ((hb3.out.block _ l0).trans H0.out)
   have BB := Lib.hid (BB.out.trans (hb3.out.mono BB.out.size))
   clear hj hb2 l5 l0
   have l5 := (Array.getElem?_eq_some_iff.1 H2.out).1
   have l0 := (Array.getElem?_eq_some_iff.1 H0.out).1
   refine J_loud1 15 _ rfl (by kernel_rfl) ?_
   simp only [List.getElem_toArray, List.getElem_cons_succ, List.getElem_cons_zero]
   intro wj hj
   go_wp2_with fail
   refine (EDO.out _ _ wj GA.out (Ext.below (BB.out.trans (hj.mono BB.out.size))) (V7.out.ext (Ext.below hj))).mono ?_
   rintro e w8 ⟨rfl, hb2⟩
   clear V7 GA
   go_wp2_with fail
   refine ⟨KeepX.below hb2, ?_⟩
   have hb3 := Lib.hid (hj.trans (hb2.mono hj.size))
   have H2 := Lib.hid ((hb3.out.block _ l5).trans H2.out)
   have H0 := Lib.hid ((hb3.out.block _ l0).trans H0.out)
   have BB := Lib.hid (BB.out.trans (hb3.out.mono BB.out.size))
   clear hj hb2 l5 l0
   have l5 := (Array.getElem?_eq_some_iff.1 H2.out).1
   have l0 := (Array.getElem?_eq_some_iff.1 H0.out).1
   refine J_mobs [16, 17] _ _ _ _ (by kernel_rfl) ?_
   simp only [List.map_cons, List.map_nil, List.getElem?_toArray, List.getElem?_cons_succ, List.getElem?_cons_zero, Option.getD_some, List.size_toArray, List.length_cons, List.length_nil, Nat.reduceAdd, Nat.reduceSub]
   repeat (go_big_quiet_step (fail))
   refine wpQuiet_nil ?_
   refine J_done (by kernel_rfl) (fun wm hm => ?_) _
   have BB := Lib.hid (BB.out.trans (hm.mono BB.out.size))
   go_wp2_with fail
   go_ret
   exact ⟨rfl, BB.out⟩
end Go.Proofs.Ytnnhobbabcfogaa

set_option linter.all false
namespace Go.Proofs.Ytnnhobbabcfogaa
open Go.ChangeShapes Go.WideShapes Go.ChangeAt Go.RowKit

theorem ownKnob_none : ownKnob Try.prog.godebug = none := by kernel_rfl
theorem laidOut_prog : laidOutB Try.prog = true := by kernel_rfl

section
variable {H : Type} {enc : TypeId × Value → H} {P : Program}
theorem trodAll_stays (hl : laidOutB P = true) {W W' : World} (hb : Below W.heap.size W W') : ∀ (ts : List TypeId) (vs : List Value) (ds : List (DataW H)) (ps : List MemPlace),
  ts.all (fun t => P.readableRec t && decide (t < P.types.size)) = true → (∀ p ∈ ps, p.block < W.heap.size) → DataW.TrodAll enc P W 0 (fun _ => true) true ts vs ds ps →
  DataW.TrodAll enc P W' 0 (fun b => decide (b < W.heap.size)) true ts vs ds ps := by
 intro ts
 induction ts with
 | nil =>
  intro vs ds ps _ _ h
  obtain ⟨rfl, rfl, rfl⟩ := trodAll_nil h
  exact trodAll_mk0
 | cons t ts ih =>
  intro vs ds ps hr hlt h
  obtain ⟨v, vs', d, ds', p, q, rfl, rfl, rfl, h0, r0⟩ := trodAll_cons h
  simp only [List.all_cons, Bool.and_eq_true, decide_eq_true_eq] at hr
  refine trodAll_cons_mk ?_ (ih _ _ _ hr.2 (fun x hx => hlt x (List.mem_append_right _ hx)) r0)
  exact Below.trod hl hr.1.1 hr.1.2 h0 hb (fun x hx => hlt x (List.mem_append_left _ hx))
end
end Go.Proofs.Ytnnhobbabcfogaa
