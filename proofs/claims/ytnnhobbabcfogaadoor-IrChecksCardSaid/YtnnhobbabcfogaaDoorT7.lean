/-
  IrChecks: the walk.
-/
import Derived.Test.YtnnhobbabcfogaaDoorT6
import Derived.Test.YtnnhobbabcfogaaDoorP0
import Derived.Test.YtnnhobbabcfogaaDoorR26
import Derived.Test.YtnnhobbabcfogaaDoorN2
import Derived.Test.YtnnhobbabcfogaaDoorJ
set_option linter.all false
namespace Go.Proofs.YtnnhobbabcfogaaDoor
open Go.ChangeShapes Go.WideShapes Go.ChangeAt Go.RowKit
set_option maxHeartbeats 4000000
set_option linter.unusedVariables false
set_option maxRecDepth 100000

theorem IrChecks_w (m : Md) (v : Value) (n : Int) (w : World) (hn : MdOk m) (hv : MdV w v m) (hpw : Pow w) (hg : 2 < w.heap.size) :
    Calls Tryd.prog 3 #[v, .int .i64 n] w fun e w' => e = .returned (.bool true) ∧ Below w.heap.size w w' := by
  have HA : Hid (∀ w', Below w.heap.size w w' → Calls Tryd.prog 10 #[] w' fun e w'' => e = .returned (.bool true) ∧ Below w'.heap.size w' w'') := fun w' hb => awake13_c w' (Go.Joins.var_stays pow_named hpw hb (Nat.le_refl _)) (Nat.lt_of_lt_of_le hg hb.size)
  have HF : Hid (∀ w', Ext w w' → Calls Tryd.prog 9 #[v] w' fun e w'' => e = .returned (.bool (fewM m)) ∧ Below w'.heap.size w' w'') := fun w' he => few_c m v w' (hv.ext he)
  have HV := Lib.hid hv
  clear hpw
  obtain ⟨vg, vd, vp, rfl, -⟩ := hv
  obtain ⟨W0, hW0⟩ : ∃ W0, W0 = w.alloc (.cells #[vg, vd, vp, .int .i64 m.main] 26) := ⟨_, rfl⟩
  have B0 : Hid (Below w.heap.size w W0) := by rw [hW0]; exact below_alloc w _
  have H0 := Lib.hid (heap_of_alloc w _ _ hW0)
  have HW0 := Lib.hid hW0
  clear hW0 hn
  go_enter Tryd.func3, Tryd.ntmps3
  go_wp2_with fail
  have hf := HF.out W0 (Ext.below B0.out)
  rw [HW0.out] at hf
  refine Calls.mono hf ?_
  clear hf
  rw [← HW0.out]
  rintro e w1 ⟨rfl, hb1⟩
  have H0 := Lib.hid ((hb1.block w.heap.size (Array.getElem?_eq_some_iff.1 H0.out).1).trans H0.out)
  have BB := Lib.hid (B0.out.trans (hb1.mono B0.out.size))
  clear hb1 HF HW0 B0
  obtain ⟨y0, y1, y2, y3, l0⟩ := cl4 H0.out
  cases hfw : fewM m
  · go_wp2_with fail
    refine (HA.out _ BB.out).mono ?_
    rintro e w2 ⟨rfl, hb2⟩
    have BB := Lib.hid (BB.out.trans (hb2.mono BB.out.size))
    clear hb2
    go_wp2_with fail
    go_ret
    exact ⟨rfl, BB.out⟩
  · have HSZ := Lib.hid (fewM_sz hfw)
    clear hfw
    go_wp2_with fail
    refine wp_region_junk (fun _ => True) (by kernel_rfl) ?_
    refine J_loud1 0 _ rfl (by kernel_rfl) ?_
    simp only [List.getElem_toArray, List.getElem_cons_succ, List.getElem_cons_zero]
    intro wj hj
    go_wp2_with fail
    refine (HA.out wj (BB.out.trans (hj.mono BB.out.size))).mono ?_
    rintro e w2 ⟨rfl, hb2⟩
    go_wp2_with fail
    refine ⟨KeepX.below hb2, ?_⟩
    have hb3 := Lib.hid (hj.trans (hb2.mono hj.size))
    have H0 := Lib.hid ((hb3.out.block w.heap.size l0).trans H0.out)
    have BB := Lib.hid (BB.out.trans (hb3.out.mono BB.out.size))
    clear y0 y1 y2 y3 l0 hj hb2 hb3
    obtain ⟨y0, y1, y2, y3, l0⟩ := cl4 H0.out
    refine J_mobs [1, 2, 4] _ _ _ _ (by kernel_rfl) ?_
    simp only [List.map_cons, List.map_nil, List.getElem?_toArray, List.getElem?_cons_succ, List.getElem?_cons_zero, Option.getD_some, List.size_toArray, List.length_cons, List.length_nil, Nat.reduceAdd, Nat.reduceSub]
    repeat (go_big_quiet_step (fail))
    refine wpQuiet_nil ?_
    refine J_loud1 3 _ rfl (by kernel_rfl) ?_
    simp only [List.getElem_toArray, List.getElem_cons_succ, List.getElem_cons_zero]
    intro wj hj
    go_wp2_with fail
    refine (check_c m _ wj (HV.out.ext (Ext.below (BB.out.trans (hj.mono BB.out.size)))) HSZ.out).mono ?_
    rintro e w3 ⟨rfl, hb2⟩
    go_wp2_with fail
    refine ⟨KeepX.below hb2, ?_⟩
    have hb3 := Lib.hid (hj.trans (hb2.mono hj.size))
    have H0 := Lib.hid ((hb3.out.block w.heap.size l0).trans H0.out)
    have BB := Lib.hid (BB.out.trans (hb3.out.mono BB.out.size))
    clear y0 y1 y2 y3 l0 hj hb2 hb3
    obtain ⟨y0, y1, y2, y3, l0⟩ := cl4 H0.out
    refine J_loud1 5 _ rfl (by kernel_rfl) ?_
    simp only [List.getElem_toArray, List.getElem_cons_succ, List.getElem_cons_zero]
    intro wj hj
    go_wp2_with fail
    refine (rcheck_c m _ wj (HV.out.ext (Ext.below (BB.out.trans (hj.mono BB.out.size)))) HSZ.out).mono ?_
    rintro e w4 ⟨rfl, hb2⟩
    go_wp2_with fail
    refine ⟨KeepX.below hb2, ?_⟩
    have hb3 := Lib.hid (hj.trans (hb2.mono hj.size))
    have H0 := Lib.hid ((hb3.out.block w.heap.size l0).trans H0.out)
    have BB := Lib.hid (BB.out.trans (hb3.out.mono BB.out.size))
    clear y0 y1 y2 y3 l0 hj hb2 hb3
    obtain ⟨y0, y1, y2, y3, l0⟩ := cl4 H0.out
    refine J_mobs [6, 7, 8, 9, 10, 12, 13] _ _ _ _ (by kernel_rfl) ?_
    simp only [List.map_cons, List.map_nil, List.getElem?_toArray, List.getElem?_cons_succ, List.getElem?_cons_zero, Option.getD_some, List.size_toArray, List.length_cons, List.length_nil, Nat.reduceAdd, Nat.reduceSub]
    repeat (go_big_quiet_step (fail))
    refine wpQuiet_nil ?_
    refine J_loud1 11 _ rfl (by kernel_rfl) ?_
    simp only [List.getElem_toArray, List.getElem_cons_succ, List.getElem_cons_zero]
    intro wj hj
    go_wp2_with fail
    refine (procN_c m _ n wj (HV.out.ext (Ext.below (BB.out.trans (hj.mono BB.out.size)))) HSZ.out).mono ?_
    rintro e w5 ⟨rfl, hb2⟩
    go_wp2_with fail
    refine ⟨KeepX.below hb2, ?_⟩
    have hb3 := Lib.hid (hj.trans (hb2.mono hj.size))
    have H0 := Lib.hid ((hb3.out.block w.heap.size l0).trans H0.out)
    have BB := Lib.hid (BB.out.trans (hb3.out.mono BB.out.size))
    clear y0 y1 y2 y3 l0 hj hb2 hb3
    obtain ⟨y0, y1, y2, y3, l0⟩ := cl4 H0.out
    refine J_loud1 14 _ rfl (by kernel_rfl) ?_
    simp only [List.getElem_toArray, List.getElem_cons_succ, List.getElem_cons_zero]
    intro wj hj
    go_wp2_with fail
    refine (rprocN_c m _ n wj (HV.out.ext (Ext.below (BB.out.trans (hj.mono BB.out.size)))) HSZ.out).mono ?_
    rintro e w6 ⟨rfl, hb2⟩
    go_wp2_with fail
    refine ⟨KeepX.below hb2, ?_⟩
    have hb3 := Lib.hid (hj.trans (hb2.mono hj.size))
    have H0 := Lib.hid ((hb3.out.block w.heap.size l0).trans H0.out)
    have BB := Lib.hid (BB.out.trans (hb3.out.mono BB.out.size))
    clear y0 y1 y2 y3 l0 hj hb2 hb3
    obtain ⟨y0, y1, y2, y3, l0⟩ := cl4 H0.out
    refine J_mobs [15, 16, 17] _ _ _ _ (by kernel_rfl) ?_
    simp only [List.map_cons, List.map_nil, List.getElem?_toArray, List.getElem?_cons_succ, List.getElem?_cons_zero, Option.getD_some, List.size_toArray, List.length_cons, List.length_nil, Nat.reduceAdd, Nat.reduceSub]
    repeat (go_big_quiet_step (fail))
    refine wpQuiet_nil ?_
    refine J_done (by kernel_rfl) (fun wk hk => ?_) _
    have BB := Lib.hid (BB.out.trans (hk.mono BB.out.size))
    clear hk
    go_wp2_with fail
    go_ret
    exact ⟨rfl, BB.out⟩
end Go.Proofs.YtnnhobbabcfogaaDoor
