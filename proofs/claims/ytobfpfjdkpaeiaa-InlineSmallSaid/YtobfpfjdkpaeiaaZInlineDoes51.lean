/-
 InlineSmall and InlineDoes: the walks.; From a walk to a statement: what was read before a call that only makes new memory reads as before behind it.
-/
import Derived.Test.YtobfpfjdkpaeiaaZInlineDoes50
import Derived.Test.YtobfpfjdkpaeiaaZInlineDoes08
import Derived.Test.YtobfpfjdkpaeiaaRows
import Derived.WalkKit
import Derived.ProofKit
import Derived.OpenShut
import Derived.Lib.SmallJoins
import Derived.Deep.Slices
import Derived.Deep.Fields
import Derived.ChangeSame

set_option linter.all false
namespace Go.Proofs.Ytobfpfjdkpaeiaa
open Go.ChangeShapes Go.WideShapes Go.ChangeAt Go.RowKit
set_option maxHeartbeats 4000000
set_option linter.unusedVariables false
set_option maxRecDepth 100000

theorem InlineDoes_w (m : Md) (v : Value) (n : Int) (inp : List Int) (vi : Value) (w : World) (hn : MdOk m) (hv : MdV w v m) (hiw : ∀ x ∈ inp, 0 ≤ x ∧ x < 4294967296) (hi : RdW w vi inp) :
  Calls Try.prog 4 #[v, .int .i64 n, vi] w fun e w' => e = .returned (.bool true) ∧ Below w.heap.size w w' := by
 have HR : Hid (∀ w', Ext w w' → Calls Try.prog 8 #[v, .int .i64 n] w' fun e w'' => e = .returned (.bool (rightB m n)) ∧ Below w'.heap.size w' w'') := fun w' he => rightM_c m v n w' (hv.ext he)
 have HV := Lib.hid hv
 have HI := Lib.hid hi
 obtain ⟨vg, vd, vp, rfl, hvg, hvd, hvp⟩ := hv
 have hvp' := hvp
 obtain ⟨ap, cp, rfl, hp1, hp2, -⟩ := hvp'
 obtain ⟨ai, ci, rfl, hi1, hi2, -⟩ := hi
 unfold maxLen at hp2 hi2
 have HN := Lib.hid hn
 clear hvg hvd hvp hn
 obtain ⟨W0, hW0⟩ : ∃ W0, W0 = w.alloc (.cells #[vg, vd, .slice ap m.procs.length cp, .int .i64 m.main] 26) := ⟨_, rfl⟩
 have B0 : Hid (Below w.heap.size w W0) := by
  show Below _ _ _
  rw [hW0]; exact below_alloc w _
 have H0 := Lib.hid (heap_of_alloc w _ _ hW0)
 have HW0 := Lib.hid hW0
 clear hW0
 go_enter Try.func4, Try.ntmps4
 go_wp2_with fail
 rw [← HW0.out]
 refine (HR.out W0 (Ext.below B0.out)).mono ?_
 rintro e w1 ⟨rfl, hb1⟩
 have H0 := Lib.hid ((hb1.block w.heap.size (Array.getElem?_eq_some_iff.1 H0.out).1).trans H0.out)
 have BB := Lib.hid (B0.out.trans (hb1.mono B0.out.size))
 clear hb1 HR HW0 B0
 obtain ⟨y0, y1, y2, y3, l0⟩ := cl4 H0.out
 cases hr : rightB m n
 ·clear hr
  go_wp2_with fail
  refine (awake20_c _).mono ?_
  rintro e w2 ⟨rfl, hb2⟩
  have BB := Lib.hid (BB.out.trans (hb2.mono BB.out.size))
  clear hb2
  go_wp2_with fail
  go_ret
  exact ⟨rfl, BB.out⟩
 ·obtain ⟨hfw, k, rfl, h1, h40, hokm⟩ := rightB_is hr
  clear hr
  by_cases k1 : 40 < inp.length
  ·have gi : decide ((40 : Int) < (inp.length : Int)) = true := decide_eq_true (by omega)
   clear hokm hfw
   go_wp2_with fail
   refine (awake20_c _).mono ?_
   rintro e w2 ⟨rfl, hb2⟩
   have BB := Lib.hid (BB.out.trans (hb2.mono BB.out.size))
   clear hb2
   go_wp2_with fail
   go_ret
   exact ⟨rfl, BB.out⟩
  ·have gi : decide ((40 : Int) < (inp.length : Int)) = false := decide_eq_false (by omega)
   have hmem : m.procs.getD k default ∈ m.procs := by simp [List.getD, h1]
   have hI0 : InlI m (pk m k) (pk m k) := InlI.start (okM_proc hokm h1) (HN.out.procs _ hmem) (few_size hfw hmem)
   have hI1 := inlP_ok hokm HN.out hI0
   obtain ⟨hokq, hsame⟩ := inl_same (inp := inp) hokm HN.out h1 hiw hI1
   have hpl : m.procs.length ≤ 6 := by unfold fewM at hfw; simp only [Bool.and_eq_true, decide_eq_true_eq] at hfw; exact hfw.1
   have EIN : Hid (∀ w', Ext w w' → Calls Try.prog 13 #[.agg #[vg, vd, .slice ap m.procs.length cp, .int .i64 m.main], .int .i64 (k : Int)] w' (InlQ m (pk m k) w')) :=
    fun w' he => inline_c m _ k w' h1 (HV.out.ext he) hokm HN.out (few_sz hfw) hI0
   have EDO : Hid (∀ (vq : Value) w', Ext w w' → PrV w' vq (inlP m (pk m k)) → Calls Try.prog 12 #[.agg #[vg, vd, .slice ap m.procs.length cp, .int .i64 m.main], .int .i64 (k : Int), vq, .slice ai inp.length ci] w' fun e w'' => e = .returned (.bool true) ∧ Below w'.heap.size w' w'') :=
    fun vq w' he hq => does_c m _ k _ vq _ inp w' (HV.out.ext he) hq (HI.out.ext he) h1 (by omega) (by omega) hiw (few_sz hfw) ((few_sz hfw).with hI1.szP) HN.out (HN.out.with hI1.pr) hokq hsame
   clear hokm hfw hmem hI0 hI1 hokq hsame hpl HV HI HN hiw
   go_wp2_with fail
   refine wp_region_junk (fun _ => True) (by kernel_rfl) ?_
   clear y0 y1 y2 y3
   refine J_loud1 0 _ rfl (by kernel_rfl) ?_
   simp only [List.getElem_toArray, List.getElem_cons_succ, List.getElem_cons_zero]
   intro wj hj
   go_wp2_with fail
   refine (awake20_c wj).mono ?_
   rintro e w4 ⟨rfl, hb2⟩
   go_wp2_with fail
   refine ⟨KeepX.below hb2, ?_⟩
   have hb3 := Lib.hid (hj.trans (hb2.mono hj.size))
   have H0 := Lib.hid ((hb3.out.block _ l0).trans H0.out)
   have BB := Lib.hid (BB.out.trans (hb3.out.mono BB.out.size))
   clear hj hb2 l0
   have l0 := (Array.getElem?_eq_some_iff.1 H0.out).1
   obtain ⟨y0, y1, y2, y3, -⟩ := cl4 H0.out
   refine J_mobs [1, 2, 3, 4, 5, 7] _ _ _ _ (by kernel_rfl) ?_
   simp only [List.map_cons, List.map_nil, List.getElem?_toArray, List.getElem?_cons_succ, List.getElem?_cons_zero, Option.getD_some, List.size_toArray, List.length_cons, List.length_nil, Nat.reduceAdd, Nat.reduceSub]
   repeat (go_big_quiet_step (fail))
   refine wpQuiet_nil ?_
   clear y0 y1 y2 y3
   refine J_loud1 6 _ rfl (by kernel_rfl) ?_
   simp only [List.getElem_toArray, List.getElem_cons_succ, List.getElem_cons_zero]
   intro wj hj
   go_wp2_with fail
   refine (EIN.out wj (Ext.below (BB.out.trans (hj.mono BB.out.size)))).mono ?_
   rintro e w5 ⟨v5, rfl, hq5, hb2⟩
   have V5 := Lib.hid hq5
   clear hq5
   go_wp2_with fail
   refine ⟨KeepX.below hb2, ?_⟩
   have hb3 := Lib.hid (hj.trans (hb2.mono hj.size))
   have H0 := Lib.hid ((hb3.out.block _ l0).trans H0.out)
   have BB := Lib.hid (BB.out.trans (hb3.out.mono BB.out.size))
   clear hj hb2 l0
   have l0 := (Array.getElem?_eq_some_iff.1 H0.out).1
   refine J_loud1 8 _ rfl (by kernel_rfl) ?_
   simp only [List.getElem_toArray, List.getElem_cons_succ, List.getElem_cons_zero]
   intro wj hj
   go_wp2_with fail
   refine (EDO.out _ wj (Ext.below (BB.out.trans (hj.mono BB.out.size))) (V5.out.ext (Ext.below hj))).mono ?_
   rintro e w6 ⟨rfl, hb2⟩
   clear V5
   go_wp2_with fail
   refine ⟨KeepX.below hb2, ?_⟩
   have hb3 := Lib.hid (hj.trans (hb2.mono hj.size))
   have H0 := Lib.hid ((hb3.out.block _ l0).trans H0.out)
   have BB := Lib.hid (BB.out.trans (hb3.out.mono BB.out.size))
   clear hj hb2 l0
   have l0 := (Array.getElem?_eq_some_iff.1 H0.out).1
   refine J_mobs [9, 10] _ _ _ _ (by kernel_rfl) ?_
   simp only [List.map_cons, List.map_nil, List.getElem?_toArray, List.getElem?_cons_succ, List.getElem?_cons_zero, Option.getD_some, List.size_toArray, List.length_cons, List.length_nil, Nat.reduceAdd, Nat.reduceSub]
   repeat (go_big_quiet_step (fail))
   refine wpQuiet_nil ?_
   refine J_done (by kernel_rfl) (fun wm hm => ?_) _
   have BB := Lib.hid (BB.out.trans (hm.mono BB.out.size))
   go_wp2_with fail
   go_ret
   exact ⟨rfl, BB.out⟩
theorem InlineSmall_w (m : Md) (v : Value) (n : Int) (w : World) (hn : MdOk m) (hv : MdV w v m) :
  Calls Try.prog 3 #[v, .int .i64 n] w fun e w' => e = .returned (.bool true) ∧ Below w.heap.size w w' := by
 have HR : Hid (∀ w', Ext w w' → Calls Try.prog 8 #[v, .int .i64 n] w' fun e w'' => e = .returned (.bool (rightB m n)) ∧ Below w'.heap.size w' w'') := fun w' he => rightM_c m v n w' (hv.ext he)
 have HV := Lib.hid hv
 obtain ⟨vg, vd, vp, rfl, hvg, hvd, hvp⟩ := hv
 have hvp' := hvp
 obtain ⟨ap, cp, rfl, hp1, hp2, -⟩ := hvp'
 unfold maxLen at hp2
 have HPS := Lib.hid (RdPrs.at6 hvp).2
 have HN := Lib.hid hn
 clear hvg hvd hvp hn
 obtain ⟨W0, hW0⟩ : ∃ W0, W0 = w.alloc (.cells #[vg, vd, .slice ap m.procs.length cp, .int .i64 m.main] 26) := ⟨_, rfl⟩
 have B0 : Hid (Below w.heap.size w W0) := by
  show Below _ _ _
  rw [hW0]; exact below_alloc w _
 have H0 := Lib.hid (heap_of_alloc w _ _ hW0)
 have HW0 := Lib.hid hW0
 clear hW0
 go_enter Try.func3, Try.ntmps3
 go_wp2_with fail
 rw [← HW0.out]
 refine (HR.out W0 (Ext.below B0.out)).mono ?_
 rintro e w1 ⟨rfl, hb1⟩
 have H0 := Lib.hid ((hb1.block w.heap.size (Array.getElem?_eq_some_iff.1 H0.out).1).trans H0.out)
 have BB := Lib.hid (B0.out.trans (hb1.mono B0.out.size))
 clear hb1 HR HW0 B0
 obtain ⟨y0, y1, y2, y3, l0⟩ := cl4 H0.out
 cases hr : rightB m n
 ·clear hr
  go_wp2_with fail
  refine (awake20_c _).mono ?_
  rintro e w2 ⟨rfl, hb2⟩
  have BB := Lib.hid (BB.out.trans (hb2.mono BB.out.size))
  clear hb2
  go_wp2_with fail
  go_ret
  exact ⟨rfl, BB.out⟩
 ·obtain ⟨hfw, k, rfl, h1, h40, hokm⟩ := rightB_is hr
  clear hr
  have g1 : decide ((k : Int) < (m.procs.length : Int)) = true := decide_eq_true (by omega)
  have g2 : decide (k < m.procs.length) = true := decide_eq_true h1
  obtain ⟨bp, op, tnm, tvo, tvb, hap, hto, htb, t0, t1, t2, t3, t4, t5⟩ := HPS.out k h1
  subst hap
  have hmem : m.procs.getD k default ∈ m.procs := by simp [List.getD, h1]
  have HSZ := Lib.hid ((few_sz hfw).procs _ hmem)
  have HQ : Hid (PrV w (.agg #[.string tnm, .bool (m.procs.getD k default).void, .int .i64 (m.procs.getD k default).params, .int .i64 (m.procs.getD k default).regs, tvo, tvb]) (m.procs.getD k default)) := ⟨tnm, tvo, tvb, rfl, hto, htb⟩
  clear hokm hfw hmem HPS HN h40 HV
  generalize m.procs.getD k default = P at *
  obtain ⟨ao, co, rfl, -⟩ := hto
  obtain ⟨ab, cb, rfl, -⟩ := htb
  have lbp := World.block_lt_of_cell? w _ t0
  have HSM := Lib.hid (fun (W : World) (hE : Ext w W) => small_c P _ W (HQ.out.ext hE) HSZ.out)
  have HRS := Lib.hid (fun (W : World) (hE : Ext w W) => rsmall_c P _ W (HQ.out.ext hE) HSZ.out)
  clear HQ HSZ y0 y1 y2 y3
  go_wp2_with fail
  refine wp_region_junk (fun _ => True) (by kernel_rfl) ?_
  refine J_loud1 0 _ rfl (by kernel_rfl) ?_
  simp only [List.getElem_toArray, List.getElem_cons_succ, List.getElem_cons_zero]
  intro wj hj
  go_wp2_with fail
  refine (awake20_c wj).mono ?_
  rintro e w4 ⟨rfl, hb2⟩
  go_wp2_with fail
  refine ⟨KeepX.below hb2, ?_⟩
  have hb3 := Lib.hid (hj.trans (hb2.mono hj.size))
  have H0 := Lib.hid ((hb3.out.block _ l0).trans H0.out)
  have BB := Lib.hid (BB.out.trans (hb3.out.mono BB.out.size))
  clear hj hb2 l0
  have l0 := (Array.getElem?_eq_some_iff.1 H0.out).1
  obtain ⟨y0, y1, y2, y3, -⟩ := cl4 H0.out
  have T0 := Ext.below BB.out _ _ t0
  have T1 := Ext.below BB.out _ _ t1
  have T2 := Ext.below BB.out _ _ t2
  have T3 := Ext.below BB.out _ _ t3
  have T4 := Ext.below BB.out _ _ t4
  have T5 := Ext.below BB.out _ _ t5
  refine J_mobs [1, 2, 3, 4, 5, 6, 8, 9, 10, 11, 12] _ _ _ _ (by kernel_rfl) ?_
  simp only [List.map_cons, List.map_nil, List.getElem?_toArray, List.getElem?_cons_succ, List.getElem?_cons_zero, Option.getD_some, List.size_toArray, List.length_cons, List.length_nil, Nat.reduceAdd, Nat.reduceSub]
  repeat (go_big_quiet_step (fail))
  refine wpQuiet_nil ?_
  clear y0 y1 y2 y3 T0 T1 T2 T3 T4 T5 t0 t1 t2 t3 t4 t5
  refine J_loud1 7 _ rfl (by kernel_rfl) ?_
  simp only [List.getElem_toArray, List.getElem_cons_succ, List.getElem_cons_zero]
  intro wj hj
  go_wp2_with fail
  refine (HSM.out wj (Ext.below (BB.out.trans (hj.mono BB.out.size)))).mono ?_
  rintro e w5 ⟨rfl, hb2⟩
  go_wp2_with fail
  refine ⟨KeepX.below hb2, ?_⟩
  have hb3 := Lib.hid (hj.trans (hb2.mono hj.size))
  have H0 := Lib.hid ((hb3.out.block _ l0).trans H0.out)
  have BB := Lib.hid (BB.out.trans (hb3.out.mono BB.out.size))
  clear hj hb2 l0
  have l0 := (Array.getElem?_eq_some_iff.1 H0.out).1
  refine J_loud1 13 _ rfl (by kernel_rfl) ?_
  simp only [List.getElem_toArray, List.getElem_cons_succ, List.getElem_cons_zero]
  intro wj hj
  go_wp2_with fail
  refine (HRS.out wj (Ext.below (BB.out.trans (hj.mono BB.out.size)))).mono ?_
  rintro e w6 ⟨rfl, hb2⟩
  go_wp2_with fail
  refine ⟨KeepX.below hb2, ?_⟩
  have hb3 := Lib.hid (hj.trans (hb2.mono hj.size))
  have H0 := Lib.hid ((hb3.out.block _ l0).trans H0.out)
  have BB := Lib.hid (BB.out.trans (hb3.out.mono BB.out.size))
  clear hj hb2 l0
  have l0 := (Array.getElem?_eq_some_iff.1 H0.out).1
  generalize smallP P = SP at *
  cases SP
  ·refine J_mobs [14, 15, 16] _ _ _ _ (by kernel_rfl) ?_
   simp only [List.map_cons, List.map_nil, List.getElem?_toArray, List.getElem?_cons_succ, List.getElem?_cons_zero, Option.getD_some, List.size_toArray, List.length_cons, List.length_nil, Nat.reduceAdd, Nat.reduceSub]
   repeat (go_big_quiet_step (fail))
   refine wpQuiet_nil ?_
   refine J_done (by kernel_rfl) (fun wm hm => ?_) _
   have BB := Lib.hid (BB.out.trans (hm.mono BB.out.size))
   go_wp2_with fail
   go_ret
   exact ⟨rfl, BB.out⟩
  ·refine J_mobs [14, 15, 16] _ _ _ _ (by kernel_rfl) ?_
   simp only [List.map_cons, List.map_nil, List.getElem?_toArray, List.getElem?_cons_succ, List.getElem?_cons_zero, Option.getD_some, List.size_toArray, List.length_cons, List.length_nil, Nat.reduceAdd, Nat.reduceSub]
   repeat (go_big_quiet_step (fail))
   refine wpQuiet_nil ?_
   refine J_done (by kernel_rfl) (fun wm hm => ?_) _
   have BB := Lib.hid (BB.out.trans (hm.mono BB.out.size))
   go_wp2_with fail
   go_ret
   exact ⟨rfl, BB.out⟩
end Go.Proofs.Ytobfpfjdkpaeiaa

set_option linter.all false
namespace Go.Proofs.Ytobfpfjdkpaeiaa
open Go.ChangeShapes Go.WideShapes Go.ChangeAt Go.RowKit

theorem ownKnob_none : ownKnob Try.prog.godebug = none := by kernel_rfl
theorem laidOut_prog : laidOutB Try.prog = true := by kernel_rfl

section
variable {H : Type} {enc : TypeId × Value → H} {P : Program}
theorem trodAll_stays (hl : laidOutB P = true) {W W' : World} (hb : Below W.heap.size W W') : ∀ (ts : List TypeId) (vs : List Value) (ds : List (DataW H)) (ps : List MemPlace),
  ts.all (fun t => P.readableRec t && decide (t < P.types.size)) = true → (∀ p ∈ ps, p.block < W.heap.size) → DataW.TrodAll enc P W 0 (fun _ => true) true ts vs ds ps →
  DataW.TrodAll enc P W' 0 (fun b => decide (b < W.heap.size)) true ts vs ds ps := by
 intro ts
 induction ts with
 | nil =>
  intro vs ds ps _ _ h
  obtain ⟨rfl, rfl, rfl⟩ := trodAll_nil h
  exact trodAll_mk0
 | cons t ts ih =>
  intro vs ds ps hr hlt h
  obtain ⟨v, vs', d, ds', p, q, rfl, rfl, rfl, h0, r0⟩ := trodAll_cons h
  simp only [List.all_cons, Bool.and_eq_true, decide_eq_true_eq] at hr
  refine trodAll_cons_mk ?_ (ih _ _ _ hr.2 (fun x hx => hlt x (List.mem_append_right _ hx)) r0)
  exact Below.trod hl hr.1.1 hr.1.2 h0 hb (fun x hx => hlt x (List.mem_append_left _ hx))
end
end Go.Proofs.Ytobfpfjdkpaeiaa
