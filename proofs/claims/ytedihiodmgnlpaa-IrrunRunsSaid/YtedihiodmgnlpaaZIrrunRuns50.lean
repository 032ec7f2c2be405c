/-
 IrrunRuns: the walk.; From a walk to a statement: what was read before a call that only makes new memory reads as before behind it.
-/
import Derived.Test.YtedihiodmgnlpaaZIrrunRuns48
import Derived.Test.YtedihiodmgnlpaaZIrrunRuns31
import Derived.Test.YtedihiodmgnlpaaZIrrunRuns49
import Derived.Test.YtedihiodmgnlpaaZIrrunRuns12
import Derived.Test.YtedihiodmgnlpaaRows
import Derived.WalkKit
import Derived.ProofKit
import Derived.OpenShut
import Derived.Lib.SmallJoins
import Derived.Deep.Slices
import Derived.Deep.Fields
import Derived.ChangeSame

set_option linter.all false
namespace Go.Proofs.Ytedihiodmgnlpaa
open Go.ChangeShapes Go.WideShapes Go.ChangeAt Go.RowKit
set_option maxHeartbeats 4000000
set_option linter.unusedVariables false
set_option maxRecDepth 20000

theorem clamp_nat (fuel : Int) (h : fuel ≤ 3000) : (clampF fuel).toNat = fuel.toNat := by unfold clampF; omega
theorem IrrunRuns_w (m : Md) (v : Value) (inp : List Int) (vi : Value) (fuel : Int) (w : World) (hn : MdOk m) (hv : MdV w v m) (hiw : ∀ x ∈ inp, 0 ≤ x ∧ x < 4294967296) (hi : RdW w vi inp) :
  Calls Try.prog 8 #[v, vi, .int .i64 fuel] w fun e w' => e = .returned (.bool true) ∧ Below w.heap.size w w' := by
 have HA := Lib.hid awake14_c
 have HF : Hid (∀ w', Ext w w' → Calls Try.prog 30 #[v] w' fun e w'' => e = .returned (.bool (fewM m)) ∧ Below w'.heap.size w' w'') := fun w' he => few_c m v w' (hv.ext he)
 have HV := Lib.hid hv
 obtain ⟨vg, vd, vp, rfl, -⟩ := hv
 have HI := Lib.hid hi
 obtain ⟨ai, ci, rfl, hi1, hi2, -⟩ := hi
 unfold maxLen at hi2
 have HRU := Lib.hid (fun w' (he : Below w.heap.size w w') (hs : SzM m) (hil : inp.length ≤ 1000000) => run_c m _ _ inp fuel w' (HV.out.ext (Ext.below he)) (HI.out.ext (Ext.below he)) hs hn hil hiw)
 have HPL := Lib.hid (fun w' (he : Below w.heap.size w w') (hs : SzM m) (hil : inp.length ≤ 1000000) (hfu : fuel ≤ 3000) => play_c m _ _ inp fuel w' (HV.out.ext (Ext.below he)) (HI.out.ext (Ext.below he)) hs hn hil hiw hfu)
 obtain ⟨W0, hW0⟩ : ∃ W0, W0 = w.alloc (.cells #[vg, vd, vp, .int .i64 m.main] 66) := ⟨_, rfl⟩
 have B0 : Hid (Below w.heap.size w W0) := by rw [hW0]; exact below_alloc w _
 have H0 := Lib.hid (heap_of_alloc w _ _ hW0)
 have HW0 := Lib.hid hW0
 clear hW0 hn hiw
 go_enter Try.func8, Try.ntmps8
 go_wp2_with fail
 have hf := HF.out W0 (Ext.below B0.out)
 rw [HW0.out] at hf
 refine Calls.mono hf ?_
 clear hf
 rw [← HW0.out]
 rintro e w1 ⟨rfl, hb1⟩
 have H0 := Lib.hid ((hb1.block w.heap.size (Array.getElem?_eq_some_iff.1 H0.out).1).trans H0.out)
 have B1 := Lib.hid (B0.out.trans (hb1.mono B0.out.size))
 have y := fun j => cell_of_heap H0.out j
 have y0 := y 0
 have y1 := y 1
 have y2 := y 2
 have y3 := y 3
 simp only [List.getElem?_toArray, List.getElem?_cons_zero, List.getElem?_cons_succ] at y0 y1 y2 y3
 have l0 : w.heap.size < w1.heap.size := (Array.getElem?_eq_some_iff.1 H0.out).1
 have hBO : Hid (∀ w5, Below w1.heap.size w1 w5 → Below w.heap.size w w5) := fun w5 hb => B1.out.trans (hb.mono B1.out.size)
 clear y hb1
 cases hfw : fewM m
 ·go_wp2_with (go_at_call 31; refine (HA.out _).mono ?_; rintro e w5 ⟨rfl, hb5⟩)
  go_ret
  exact ⟨rfl, hBO.out _ hb5⟩
 ·have HSZ := Lib.hid (few_sz hfw)
  clear hfw
  by_cases k1 : 40 < inp.length
  ·have g1 : decide ((40 : Int) < (inp.length : Int)) = true := decide_eq_true (by omega)
   go_wp2_with (go_at_call 31; refine (HA.out _).mono ?_; rintro e w5 ⟨rfl, hb5⟩)
   go_ret
   exact ⟨rfl, hBO.out _ hb5⟩
  ·have g1 : decide ((40 : Int) < (inp.length : Int)) = false := decide_eq_false (by omega)
   by_cases k2 : 3000 < fuel
   ·have g2 := decide_eq_true k2
    go_wp2_with (go_at_call 31; refine (HA.out _).mono ?_; rintro e w5 ⟨rfl, hb5⟩)
    go_ret
    exact ⟨rfl, hBO.out _ hb5⟩
   ·have g2 := decide_eq_false k2
    have hil : inp.length ≤ 1000000 := by omega
    have hfu : fuel ≤ 3000 := by omega
    have HR0 := Lib.hid (fun w' he => HRU.out w' he HSZ.out hil)
    have HP0 := Lib.hid (fun w' he => HPL.out w' he HSZ.out hil hfu)
    have HCL := Lib.hid (clamp_nat fuel hfu)
    obtain ⟨PO, hPO0⟩ : ∃ PO, playM m inp fuel.toNat = PO := ⟨_, rfl⟩
    have HPO := Lib.hid hPO0
    clear hPO0
    clear HRU HPL hfu hil
    go_wp2_with fail
    refine wp_region_junk (fun _ => True) (by kernel_rfl) ?_
    refine J_loud1 0 _ rfl (by kernel_rfl) ?_
    simp only [List.getElem_toArray, List.getElem_cons_succ, List.getElem_cons_zero]
    intro wj hj
    go_wp2_with fail
    refine (HA.out wj).mono ?_
    rintro e w2 ⟨rfl, hb2⟩
    go_wp2_with fail
    refine ⟨KeepX.below hb2, ?_⟩
    have hb3 := Lib.hid (hj.trans (hb2.mono hj.size))
    have l2 : w.heap.size < w2.heap.size := by have := hb3.out.size; omega
    have H0 := Lib.hid ((hb3.out.block w.heap.size l0).trans H0.out)
    have B2 := Lib.hid (B1.out.trans (hb3.out.mono B1.out.size))
    have y := fun j => cell_of_heap H0.out j
    have y0 := y 0
    have y1 := y 1
    have y2 := y 2
    have y3 := y 3
    simp only [List.getElem?_toArray, List.getElem?_cons_zero, List.getElem?_cons_succ] at y0 y1 y2 y3
    clear y hj hb2
    refine J_mobs [1, 2, 3, 4, 6, 7, 8] _ _ _ _ (by kernel_rfl) ?_
    simp only [List.map_cons, List.map_nil, List.getElem?_toArray, List.getElem?_cons_succ, List.getElem?_cons_zero, Option.getD_some, List.size_toArray, List.length_cons, List.length_nil, Nat.reduceAdd, Nat.reduceSub]
    repeat (go_big_quiet_step (fail))
    refine wpQuiet_nil ?_
    refine J_loud1 5 _ rfl (by kernel_rfl) ?_
    simp only [List.getElem_toArray, List.getElem_cons_succ, List.getElem_cons_zero]
    intro wj hj
    have BJ := Lib.hid (B2.out.trans (hj.mono B2.out.size))
    clear hj
    go_wp2_with fail
    refine (HR0.out wj BJ.out).mono ?_
    rintro e wn ⟨vn, rfl, hon, hbn⟩
    try rw [HCL.out] at hon
    rw [HPO.out] at hon
    obtain ⟨aA, cA, rfl, hrd⟩ := hon.rd (Below.refl _ _)
    have RA := Lib.hid hrd
    have BJ := Lib.hid (BJ.out.trans (hbn.mono BJ.out.size))
    clear hrd hon
    go_wp2_with fail
    refine ⟨KeepX.below hbn, ?_⟩
    try simp only [Act.put, List.setIfInBounds_toArray, List.set_cons_succ, List.set_cons_zero]
    clear hbn
    refine J_loud1 9 _ rfl (by kernel_rfl) ?_
    simp only [List.getElem_toArray, List.getElem_cons_succ, List.getElem_cons_zero]
    intro wj hj
    have RA := Lib.hid (RA.out.ext (Ext.below hj))
    have BJ := Lib.hid (BJ.out.trans (hj.mono BJ.out.size))
    clear hj
    go_wp2_with fail
    refine (HP0.out wj BJ.out).mono ?_
    rintro e wn ⟨vn, rfl, hon, hbn⟩
    try rw [HCL.out] at hon
    rw [HPO.out] at hon
    obtain ⟨aB, cB, rfl, hrd⟩ := hon.rd (Below.refl _ _)
    have RB := Lib.hid hrd
    have RA := Lib.hid (RA.out.ext (Ext.below hbn))
    have BJ := Lib.hid (BJ.out.trans (hbn.mono BJ.out.size))
    clear hrd hon
    go_wp2_with fail
    refine ⟨KeepX.below hbn, ?_⟩
    try simp only [Act.put, List.setIfInBounds_toArray, List.set_cons_succ, List.set_cons_zero]
    clear hbn
    refine J_loud1 10 _ rfl (by kernel_rfl) ?_
    simp only [List.getElem_toArray, List.getElem_cons_succ, List.getElem_cons_zero]
    intro wj hj
    have HSM := Lib.hid (same_yes PO aA aB cA cB wj (RA.out.ext (Ext.below hj)) (RB.out.ext (Ext.below hj)))
    have BJ := Lib.hid (BJ.out.trans (hj.mono BJ.out.size))
    clear hj
    go_wp2_with fail
    refine HSM.out.mono ?_
    rintro e wn ⟨rfl, hbn⟩
    have BJ := Lib.hid (BJ.out.trans (hbn.mono BJ.out.size))
    go_wp2_with fail
    refine ⟨KeepX.below hbn, ?_⟩
    clear hbn
    refine J_mobs [11, 12] _ _ _ _ (by kernel_rfl) ?_
    simp only [List.map_cons, List.map_nil, List.getElem?_toArray, List.getElem?_cons_succ, List.getElem?_cons_zero, Option.getD_some, List.size_toArray, List.length_cons, List.length_nil, Nat.reduceAdd, Nat.reduceSub]
    repeat (go_big_quiet_step (fail))
    refine wpQuiet_nil ?_
    refine J_done (by kernel_rfl) (fun wk hk => ?_) _
    have BJ := Lib.hid (BJ.out.trans (hk.mono BJ.out.size))
    clear hk
    go_wp2_with fail
    go_ret
    exact ⟨rfl, BJ.out⟩
end Go.Proofs.Ytedihiodmgnlpaa

set_option linter.all false
namespace Go.Proofs.Ytedihiodmgnlpaa
open Go.ChangeShapes Go.WideShapes Go.ChangeAt Go.RowKit

theorem ownKnob_none : ownKnob Try.prog.godebug = none := by kernel_rfl
theorem laidOut_prog : laidOutB Try.prog = true := by kernel_rfl

section
variable {H : Type} {enc : TypeId × Value → H} {P : Program}
theorem trodAll_stays (hl : laidOutB P = true) {W W' : World} (hb : Below W.heap.size W W') : ∀ (ts : List TypeId) (vs : List Value) (ds : List (DataW H)) (ps : List MemPlace),
  ts.all (fun t => P.readableRec t && decide (t < P.types.size)) = true → (∀ p ∈ ps, p.block < W.heap.size) → DataW.TrodAll enc P W 0 (fun _ => true) true ts vs ds ps →
  DataW.TrodAll enc P W' 0 (fun b => decide (b < W.heap.size)) true ts vs ds ps := by
 intro ts
 induction ts with
 | nil =>
  intro vs ds ps _ _ h
  obtain ⟨rfl, rfl, rfl⟩ := trodAll_nil h
  exact trodAll_mk0
 | cons t ts ih =>
  intro vs ds ps hr hlt h
  obtain ⟨v, vs', d, ds', p, q, rfl, rfl, rfl, h0, r0⟩ := trodAll_cons h
  simp only [List.all_cons, Bool.and_eq_true, decide_eq_true_eq] at hr
  refine trodAll_cons_mk ?_ (ih _ _ _ hr.2 (fun x hx => hlt x (List.mem_append_right _ hx)) r0)
  exact Below.trod hl hr.1.1 hr.1.2 h0 hb (fun x hx => hlt x (List.mem_append_left _ hx))
end
end Go.Proofs.Ytedihiodmgnlpaa
