/-
  ShapeThreads, ShapePrunes: the walks.; From a walk to a statement: what was read before a call that only makes new memory reads as before behind it.
-/
import Derived.Test.YtnnhobbabcfogaaDoorZShapeThreads50
import Derived.Test.YtnnhobbabcfogaaDoorZShapeThreads09
import Derived.Test.YtnnhobbabcfogaaDoorZShapeThreads10
import Derived.Test.YtnnhobbabcfogaaDoorRows
import Derived.WalkKit
import Derived.ProofKit
import Derived.OpenShut
import Derived.Lib.SmallJoins
import Derived.Deep.Slices
import Derived.Deep.Fields
import Derived.ChangeSame

set_option linter.all false
namespace Go.Proofs.YtnnhobbabcfogaaDoor
open Go.ChangeShapes Go.WideShapes Go.ChangeAt Go.RowKit
set_option maxHeartbeats 4000000
set_option linter.unusedVariables false
set_option maxRecDepth 100000

theorem ShapeThreads_w (m : Md) (v : Value) (n : Int) (w : World) (hn : MdOk m) (hv : MdV w v m) (hpw : Pow w) (hg : 2 < w.heap.size) :
    Calls Tryd.prog 6 #[v, .int .i64 n] w fun e w' => e = .returned (.bool true) ∧ Below w.heap.size w w' := by
  have HT : Hid (∀ (p : Pr) (vp : Value) w', Below w.heap.size w w' → PrV w' vp p → PrOk p → SzT p → Calls Tryd.prog 16 #[vp] w' fun e w'' => e = .returned (.string ⟨(textF p).toArray⟩) ∧ Below w'.heap.size w' w'') := fun p vp w' hb hp hok hs => text_c p vp w' (Go.Joins.var_stays pow_named hpw hb (Nat.le_refl _)) (Nat.lt_of_lt_of_le hg hb.size) hp hok hs
  have HR : Hid (∀ w', Ext w w' → Calls Tryd.prog 27 #[v, .int .i64 n] w' fun e w'' => e = .returned (.bool (rightB m n)) ∧ Below w'.heap.size w' w'') := fun w' he => rightM_c m v n w' (hv.ext he)
  have HV := Lib.hid hv
  clear hpw
  obtain ⟨vg, vd, vp, rfl, hvg, hvd, hvp⟩ := hv
  have hvp' := hvp
  obtain ⟨ap, cp, rfl, hp1, hp2, -⟩ := hvp'
  unfold maxLen at hp2
  have HPS := Lib.hid (RdPrs.at6 hvp).2
  have HN := Lib.hid hn
  clear hvg hvd hvp hn
  obtain ⟨W0, hW0⟩ : ∃ W0, W0 = w.alloc (.cells #[vg, vd, .slice ap m.procs.length cp, .int .i64 m.main] 26) := ⟨_, rfl⟩
  have B0 : Hid (Below w.heap.size w W0) := by rw [hW0]; exact below_alloc w _
  have H0 := Lib.hid (heap_of_alloc w _ _ hW0)
  have HW0 := Lib.hid hW0
  clear hW0
  go_enter Tryd.func6, Tryd.ntmps6
  go_wp2_with fail
  rw [← HW0.out]
  refine (HR.out W0 (Ext.below B0.out)).mono ?_
  rintro e w1 ⟨rfl, hb1⟩
  have H0 := Lib.hid ((hb1.block w.heap.size (Array.getElem?_eq_some_iff.1 H0.out).1).trans H0.out)
  have BB := Lib.hid (B0.out.trans (hb1.mono B0.out.size))
  clear hb1 HR HW0 B0
  obtain ⟨y0, y1, y2, y3, l0⟩ := cl4 H0.out
  cases hr : rightB m n
  · clear hr
    go_wp2_with fail
    refine (awake19_c _).mono ?_
    rintro e w2 ⟨rfl, hb2⟩
    have BB := Lib.hid (BB.out.trans (hb2.mono BB.out.size))
    clear hb2
    go_wp2_with fail
    go_ret
    exact ⟨rfl, BB.out⟩
  · obtain ⟨hfw, k, rfl, h1, -, hokm⟩ := rightB_is hr
    clear hr
    have g1 : decide ((k : Int) < (m.procs.length : Int)) = true := decide_eq_true (by omega)
    have g2 : decide (k < m.procs.length) = true := decide_eq_true h1
    obtain ⟨bp, op, tnm, tvo, tvb, hap, hto, htb, t0, t1, t2, t3, t4, t5⟩ := HPS.out k h1
    subst hap
    have hmem : m.procs.getD k default ∈ m.procs := by simp [List.getD, h1]
    have hkp : okP m (m.procs.getD k default) = true := by
      unfold okM at hokm
      simp only [Bool.and_eq_true, List.all_eq_true] at hokm
      exact hokm.2.2.2 _ hmem
    have HJ := Lib.hid (jmp_of hkp)
    have HF := Lib.hid (fin_of hkp)
    have HOK := Lib.hid (HN.out.procs _ hmem)
    have HSZ := Lib.hid (few_szT hfw hmem)
    have hpl := (fewM_pr hfw hmem).1
    clear hkp hokm hfw hmem HPS HN
    generalize m.procs.getD k default = P at *
    have HPV : Hid (PrV w (.agg #[.string tnm, .bool P.void, .int .i64 P.params, .int .i64 P.regs, tvo, tvb]) P) := ⟨tnm, tvo, tvb, rfl, hto, htb⟩
    obtain ⟨ao, co, rfl, -⟩ := hto
    obtain ⟨ab, cb, rfl, -⟩ := htb
    have HC0 := Lib.hid t0
    have HC1 := Lib.hid t1
    have HC2 := Lib.hid t2
    have HC3 := Lib.hid t3
    have HC4 := Lib.hid t4
    have HC5 := Lib.hid t5
    clear t0 t1 t2 t3 t4 t5
    go_wp2_with fail
    refine wp_region_junk (fun _ => True) (by kernel_rfl) ?_
    refine J_loud1 0 _ rfl (by kernel_rfl) ?_
    simp only [List.getElem_toArray, List.getElem_cons_succ, List.getElem_cons_zero]
    intro wj hj
    go_wp2_with fail
    refine (awake19_c wj).mono ?_
    rintro e w2 ⟨rfl, hb2⟩
    go_wp2_with fail
    refine ⟨KeepX.below hb2, ?_⟩
    have hb3 := Lib.hid (hj.trans (hb2.mono hj.size))
    have H0 := Lib.hid ((hb3.out.block w.heap.size l0).trans H0.out)
    have BB := Lib.hid (BB.out.trans (hb3.out.mono BB.out.size))
    clear y0 y1 y2 y3 l0 hj hb2 hb3
    obtain ⟨y0, y1, y2, y3, l0⟩ := cl4 H0.out
    have hE2 : Ext w w2 := Ext.below BB.out
    have t0 := hE2 _ _ HC0.out
    have t1 := hE2 _ _ HC1.out
    have t2 := hE2 _ _ HC2.out
    have t3 := hE2 _ _ HC3.out
    have t4 := hE2 _ _ HC4.out
    have t5 := hE2 _ _ HC5.out
    have lbp : bp < w2.heap.size := World.block_lt_of_cell? w2 _ t0
    clear hE2
    refine J_mobs [1, 2, 3, 4, 5, 6, 9, 10, 11, 12, 13] _ _ _ _ (by kernel_rfl) ?_
    simp only [List.map_cons, List.map_nil, List.getElem?_toArray, List.getElem?_cons_succ, List.getElem?_cons_zero, Option.getD_some, List.size_toArray, List.length_cons, List.length_nil, Nat.reduceAdd, Nat.reduceSub]
    repeat (go_big_quiet_step (fail))
    refine wpQuiet_nil ?_
    clear t0 t1 t2 t3 t4 t5 lbp HC0 HC1 HC2 HC3 HC4 HC5
    refine J_loud1 7 _ rfl (by kernel_rfl) ?_
    simp only [List.getElem_toArray, List.getElem_cons_succ, List.getElem_cons_zero]
    intro wj hj
    go_wp2_with fail
    refine (thread_c P _ wj (HPV.out.ext (Ext.below (BB.out.trans (hj.mono BB.out.size)))) HJ.out (by omega)).mono ?_
    rintro e w3 ⟨v3, rfl, hp3, hb2⟩
    go_wp2_with fail
    refine ⟨KeepX.below hb2, ?_⟩
    have hb3 := Lib.hid (hj.trans (hb2.mono hj.size))
    have H0 := Lib.hid ((hb3.out.block w.heap.size l0).trans H0.out)
    have BB := Lib.hid (BB.out.trans (hb3.out.mono BB.out.size))
    clear y0 y1 y2 y3 l0 hj hb2 hb3
    obtain ⟨y0, y1, y2, y3, l0⟩ := cl4 H0.out
    refine J_loud1 8 _ rfl (by kernel_rfl) ?_
    simp only [List.getElem_toArray, List.getElem_cons_succ, List.getElem_cons_zero]
    intro wj hj
    go_wp2_with fail
    refine (HT.out _ v3 wj (BB.out.trans (hj.mono BB.out.size)) (hp3.ext (Ext.below hj)) (thP_ok HOK.out HJ.out (by omega)) (thP_sz HSZ.out)).mono ?_
    rintro e w4 ⟨rfl, hb2⟩
    go_wp2_with fail
    refine ⟨KeepX.below hb2, ?_⟩
    have hb3 := Lib.hid (hj.trans (hb2.mono hj.size))
    have H0 := Lib.hid ((hb3.out.block w.heap.size l0).trans H0.out)
    have BB := Lib.hid (BB.out.trans (hb3.out.mono BB.out.size))
    clear hp3
    clear y0 y1 y2 y3 l0 hj hb2 hb3
    obtain ⟨y0, y1, y2, y3, l0⟩ := cl4 H0.out
    refine J_loud1 14 _ rfl (by kernel_rfl) ?_
    simp only [List.getElem_toArray, List.getElem_cons_succ, List.getElem_cons_zero]
    intro wj hj
    go_wp2_with fail
    refine (rthread_c P _ wj (HPV.out.ext (Ext.below (BB.out.trans (hj.mono BB.out.size)))) HJ.out (by omega)).mono ?_
    rintro e w5 ⟨v5, rfl, hp5, hb2⟩
    go_wp2_with fail
    refine ⟨KeepX.below hb2, ?_⟩
    have hb3 := Lib.hid (hj.trans (hb2.mono hj.size))
    have H0 := Lib.hid ((hb3.out.block w.heap.size l0).trans H0.out)
    have BB := Lib.hid (BB.out.trans (hb3.out.mono BB.out.size))
    clear y0 y1 y2 y3 l0 hj hb2 hb3
    obtain ⟨y0, y1, y2, y3, l0⟩ := cl4 H0.out
    refine J_loud1 15 _ rfl (by kernel_rfl) ?_
    simp only [List.getElem_toArray, List.getElem_cons_succ, List.getElem_cons_zero]
    intro wj hj
    go_wp2_with fail
    refine (HT.out _ v5 wj (BB.out.trans (hj.mono BB.out.size)) (hp5.ext (Ext.below hj)) (thP_ok HOK.out HJ.out (by omega)) (thP_sz HSZ.out)).mono ?_
    rintro e w6 ⟨rfl, hb2⟩
    go_wp2_with fail
    refine ⟨KeepX.below hb2, ?_⟩
    have hb3 := Lib.hid (hj.trans (hb2.mono hj.size))
    have H0 := Lib.hid ((hb3.out.block w.heap.size l0).trans H0.out)
    have BB := Lib.hid (BB.out.trans (hb3.out.mono BB.out.size))
    clear hp5
    clear y0 y1 y2 y3 l0 hj hb2 hb3
    obtain ⟨y0, y1, y2, y3, l0⟩ := cl4 H0.out
    refine J_mobs [16, 17, 18] _ _ _ _ (by kernel_rfl) ?_
    simp only [List.map_cons, List.map_nil, List.getElem?_toArray, List.getElem?_cons_succ, List.getElem?_cons_zero, Option.getD_some, List.size_toArray, List.length_cons, List.length_nil, Nat.reduceAdd, Nat.reduceSub]
    repeat (go_big_quiet_step (fail))
    refine wpQuiet_nil ?_
    refine J_done (by kernel_rfl) (fun wk hk => ?_) _
    have BB := Lib.hid (BB.out.trans (hk.mono BB.out.size))
    clear hk
    go_wp2_with fail
    go_ret
    exact ⟨rfl, BB.out⟩
theorem ShapePrunes_w (m : Md) (v : Value) (n : Int) (w : World) (hn : MdOk m) (hv : MdV w v m) (hpw : Pow w) (hg : 2 < w.heap.size) :
    Calls Tryd.prog 7 #[v, .int .i64 n] w fun e w' => e = .returned (.bool true) ∧ Below w.heap.size w w' := by
  have HT : Hid (∀ (p : Pr) (vp : Value) w', Below w.heap.size w w' → PrV w' vp p → PrOk p → SzT p → Calls Tryd.prog 16 #[vp] w' fun e w'' => e = .returned (.string ⟨(textF p).toArray⟩) ∧ Below w'.heap.size w' w'') := fun p vp w' hb hp hok hs => text_c p vp w' (Go.Joins.var_stays pow_named hpw hb (Nat.le_refl _)) (Nat.lt_of_lt_of_le hg hb.size) hp hok hs
  have HR : Hid (∀ w', Ext w w' → Calls Tryd.prog 27 #[v, .int .i64 n] w' fun e w'' => e = .returned (.bool (rightB m n)) ∧ Below w'.heap.size w' w'') := fun w' he => rightM_c m v n w' (hv.ext he)
  have HV := Lib.hid hv
  clear hpw
  obtain ⟨vg, vd, vp, rfl, hvg, hvd, hvp⟩ := hv
  have hvp' := hvp
  obtain ⟨ap, cp, rfl, hp1, hp2, -⟩ := hvp'
  unfold maxLen at hp2
  have HPS := Lib.hid (RdPrs.at6 hvp).2
  have HN := Lib.hid hn
  clear hvg hvd hvp hn
  obtain ⟨W0, hW0⟩ : ∃ W0, W0 = w.alloc (.cells #[vg, vd, .slice ap m.procs.length cp, .int .i64 m.main] 26) := ⟨_, rfl⟩
  have B0 : Hid (Below w.heap.size w W0) := by rw [hW0]; exact below_alloc w _
  have H0 := Lib.hid (heap_of_alloc w _ _ hW0)
  have HW0 := Lib.hid hW0
  clear hW0
  go_enter Tryd.func7, Tryd.ntmps7
  go_wp2_with fail
  rw [← HW0.out]
  refine (HR.out W0 (Ext.below B0.out)).mono ?_
  rintro e w1 ⟨rfl, hb1⟩
  have H0 := Lib.hid ((hb1.block w.heap.size (Array.getElem?_eq_some_iff.1 H0.out).1).trans H0.out)
  have BB := Lib.hid (B0.out.trans (hb1.mono B0.out.size))
  clear hb1 HR HW0 B0
  obtain ⟨y0, y1, y2, y3, l0⟩ := cl4 H0.out
  cases hr : rightB m n
  · clear hr
    go_wp2_with fail
    refine (awake19_c _).mono ?_
    rintro e w2 ⟨rfl, hb2⟩
    have BB := Lib.hid (BB.out.trans (hb2.mono BB.out.size))
    clear hb2
    go_wp2_with fail
    go_ret
    exact ⟨rfl, BB.out⟩
  · obtain ⟨hfw, k, rfl, h1, -, hokm⟩ := rightB_is hr
    clear hr
    have g1 : decide ((k : Int) < (m.procs.length : Int)) = true := decide_eq_true (by omega)
    have g2 : decide (k < m.procs.length) = true := decide_eq_true h1
    obtain ⟨bp, op, tnm, tvo, tvb, hap, hto, htb, t0, t1, t2, t3, t4, t5⟩ := HPS.out k h1
    subst hap
    have hmem : m.procs.getD k default ∈ m.procs := by simp [List.getD, h1]
    have hkp : okP m (m.procs.getD k default) = true := by
      unfold okM at hokm
      simp only [Bool.and_eq_true, List.all_eq_true] at hokm
      exact hokm.2.2.2 _ hmem
    have HJ := Lib.hid (jmp_of hkp)
    have HF := Lib.hid (fin_of hkp)
    have HOK := Lib.hid (HN.out.procs _ hmem)
    have HSZ := Lib.hid (few_szT hfw hmem)
    have hpl := (fewM_pr hfw hmem).1
    clear hkp hokm hfw hmem HPS HN
    generalize m.procs.getD k default = P at *
    have HPV : Hid (PrV w (.agg #[.string tnm, .bool P.void, .int .i64 P.params, .int .i64 P.regs, tvo, tvb]) P) := ⟨tnm, tvo, tvb, rfl, hto, htb⟩
    obtain ⟨ao, co, rfl, -⟩ := hto
    obtain ⟨ab, cb, rfl, -⟩ := htb
    have HC0 := Lib.hid t0
    have HC1 := Lib.hid t1
    have HC2 := Lib.hid t2
    have HC3 := Lib.hid t3
    have HC4 := Lib.hid t4
    have HC5 := Lib.hid t5
    clear t0 t1 t2 t3 t4 t5
    go_wp2_with fail
    refine wp_region_junk (fun _ => True) (by kernel_rfl) ?_
    refine J_loud1 0 _ rfl (by kernel_rfl) ?_
    simp only [List.getElem_toArray, List.getElem_cons_succ, List.getElem_cons_zero]
    intro wj hj
    go_wp2_with fail
    refine (awake19_c wj).mono ?_
    rintro e w2 ⟨rfl, hb2⟩
    go_wp2_with fail
    refine ⟨KeepX.below hb2, ?_⟩
    have hb3 := Lib.hid (hj.trans (hb2.mono hj.size))
    have H0 := Lib.hid ((hb3.out.block w.heap.size l0).trans H0.out)
    have BB := Lib.hid (BB.out.trans (hb3.out.mono BB.out.size))
    clear y0 y1 y2 y3 l0 hj hb2 hb3
    obtain ⟨y0, y1, y2, y3, l0⟩ := cl4 H0.out
    have hE2 : Ext w w2 := Ext.below BB.out
    have t0 := hE2 _ _ HC0.out
    have t1 := hE2 _ _ HC1.out
    have t2 := hE2 _ _ HC2.out
    have t3 := hE2 _ _ HC3.out
    have t4 := hE2 _ _ HC4.out
    have t5 := hE2 _ _ HC5.out
    have lbp : bp < w2.heap.size := World.block_lt_of_cell? w2 _ t0
    clear hE2
    refine J_mobs [1, 2, 3, 4, 5, 6, 9, 10, 11, 12, 13] _ _ _ _ (by kernel_rfl) ?_
    simp only [List.map_cons, List.map_nil, List.getElem?_toArray, List.getElem?_cons_succ, List.getElem?_cons_zero, Option.getD_some, List.size_toArray, List.length_cons, List.length_nil, Nat.reduceAdd, Nat.reduceSub]
    repeat (go_big_quiet_step (fail))
    refine wpQuiet_nil ?_
    clear t0 t1 t2 t3 t4 t5 lbp HC0 HC1 HC2 HC3 HC4 HC5
    refine J_loud1 7 _ rfl (by kernel_rfl) ?_
    simp only [List.getElem_toArray, List.getElem_cons_succ, List.getElem_cons_zero]
    intro wj hj
    go_wp2_with fail
    refine (prune_c P _ wj (HPV.out.ext (Ext.below (BB.out.trans (hj.mono BB.out.size)))) HJ.out HF.out (by omega)).mono ?_
    rintro e w3 ⟨v3, rfl, hp3, hb2⟩
    go_wp2_with fail
    refine ⟨KeepX.below hb2, ?_⟩
    have hb3 := Lib.hid (hj.trans (hb2.mono hj.size))
    have H0 := Lib.hid ((hb3.out.block w.heap.size l0).trans H0.out)
    have BB := Lib.hid (BB.out.trans (hb3.out.mono BB.out.size))
    clear y0 y1 y2 y3 l0 hj hb2 hb3
    obtain ⟨y0, y1, y2, y3, l0⟩ := cl4 H0.out
    refine J_loud1 8 _ rfl (by kernel_rfl) ?_
    simp only [List.getElem_toArray, List.getElem_cons_succ, List.getElem_cons_zero]
    intro wj hj
    go_wp2_with fail
    refine (HT.out _ v3 wj (BB.out.trans (hj.mono BB.out.size)) (hp3.ext (Ext.below hj)) (pnP_ok HOK.out (by omega)) (pnP_sz HSZ.out)).mono ?_
    rintro e w4 ⟨rfl, hb2⟩
    go_wp2_with fail
    refine ⟨KeepX.below hb2, ?_⟩
    have hb3 := Lib.hid (hj.trans (hb2.mono hj.size))
    have H0 := Lib.hid ((hb3.out.block w.heap.size l0).trans H0.out)
    have BB := Lib.hid (BB.out.trans (hb3.out.mono BB.out.size))
    clear hp3
    clear y0 y1 y2 y3 l0 hj hb2 hb3
    obtain ⟨y0, y1, y2, y3, l0⟩ := cl4 H0.out
    refine J_loud1 14 _ rfl (by kernel_rfl) ?_
    simp only [List.getElem_toArray, List.getElem_cons_succ, List.getElem_cons_zero]
    intro wj hj
    go_wp2_with fail
    refine (rprune_c P _ wj (HPV.out.ext (Ext.below (BB.out.trans (hj.mono BB.out.size)))) HJ.out (by omega)).mono ?_
    rintro e w5 ⟨v5, rfl, hp5, hb2⟩
    go_wp2_with fail
    refine ⟨KeepX.below hb2, ?_⟩
    have hb3 := Lib.hid (hj.trans (hb2.mono hj.size))
    have H0 := Lib.hid ((hb3.out.block w.heap.size l0).trans H0.out)
    have BB := Lib.hid (BB.out.trans (hb3.out.mono BB.out.size))
    clear y0 y1 y2 y3 l0 hj hb2 hb3
    obtain ⟨y0, y1, y2, y3, l0⟩ := cl4 H0.out
    refine J_loud1 15 _ rfl (by kernel_rfl) ?_
    simp only [List.getElem_toArray, List.getElem_cons_succ, List.getElem_cons_zero]
    intro wj hj
    go_wp2_with fail
    refine (HT.out _ v5 wj (BB.out.trans (hj.mono BB.out.size)) (hp5.ext (Ext.below hj)) (pnP_ok HOK.out (by omega)) (pnP_sz HSZ.out)).mono ?_
    rintro e w6 ⟨rfl, hb2⟩
    go_wp2_with fail
    refine ⟨KeepX.below hb2, ?_⟩
    have hb3 := Lib.hid (hj.trans (hb2.mono hj.size))
    have H0 := Lib.hid ((hb3.out.block w.heap.size l0).trans H0.out)
    have BB := Lib.hid (BB.out.trans (hb3.out.mono BB.out.size))
    clear hp5
    clear y0 y1 y2 y3 l0 hj hb2 hb3
    obtain ⟨y0, y1, y2, y3, l0⟩ := cl4 H0.out
    refine J_mobs [16, 17, 18] _ _ _ _ (by kernel_rfl) ?_
    simp only [List.map_cons, List.map_nil, List.getElem?_toArray, List.getElem?_cons_succ, List.getElem?_cons_zero, Option.getD_some, List.size_toArray, List.length_cons, List.length_nil, Nat.reduceAdd, Nat.reduceSub]
    repeat (go_big_quiet_step (fail))
    refine wpQuiet_nil ?_
    refine J_done (by kernel_rfl) (fun wk hk => ?_) _
    have BB := Lib.hid (BB.out.trans (hk.mono BB.out.size))
    clear hk
    go_wp2_with fail
    go_ret
    exact ⟨rfl, BB.out⟩
end Go.Proofs.YtnnhobbabcfogaaDoor

set_option linter.all false
namespace Go.Proofs.YtnnhobbabcfogaaDoor
open Go.ChangeShapes Go.WideShapes Go.ChangeAt Go.RowKit

theorem ownKnob_none : ownKnob Tryd.prog.godebug = none := by kernel_rfl
theorem laidOut_prog : laidOutB Tryd.prog = true := by kernel_rfl

section
variable {H : Type} {enc : TypeId × Value → H} {P : Program}
theorem trodAll_stays (hl : laidOutB P = true) {W W' : World} (hb : Below W.heap.size W W') : ∀ (ts : List TypeId) (vs : List Value) (ds : List (DataW H)) (ps : List MemPlace),
    ts.all (fun t => P.readableRec t && decide (t < P.types.size)) = true → (∀ p ∈ ps, p.block < W.heap.size) → DataW.TrodAll enc P W 0 (fun _ => true) true ts vs ds ps →
    DataW.TrodAll enc P W' 0 (fun b => decide (b < W.heap.size)) true ts vs ds ps := by
  intro ts
  induction ts with
  | nil =>
    intro vs ds ps _ _ h
    obtain ⟨rfl, rfl, rfl⟩ := trodAll_nil h
    exact trodAll_mk0
  | cons t ts ih =>
    intro vs ds ps hr hlt h
    obtain ⟨v, vs', d, ds', p, q, rfl, rfl, rfl, h0, r0⟩ := trodAll_cons h
    simp only [List.all_cons, Bool.and_eq_true, decide_eq_true_eq] at hr
    refine trodAll_cons_mk ?_ (ih _ _ _ hr.2 (fun x hx => hlt x (List.mem_append_right _ hx)) r0)
    exact Below.trod hl hr.1.1 hr.1.2 h0 hb (fun x hx => hlt x (List.mem_append_left _ hx))
end
end Go.Proofs.YtnnhobbabcfogaaDoor
