/-
 FoldTwice: the walk.
-/
import Derived.Test.YtkhfddodmjnecaaDoorZFoldTwice50
import Derived.Test.YtkhfddodmjnecaaDoorZFoldTwice47
import Derived.Test.YtkhfddodmjnecaaDoorZFoldTwice09
import Derived.Test.YtkhfddodmjnecaaDoorZFoldTwice10
set_option linter.all false
namespace Go.Proofs.YtkhfddodmjnecaaDoor
open Go.ChangeShapes Go.WideShapes Go.ChangeAt Go.RowKit
set_option maxHeartbeats 16000000
set_option linter.unusedVariables false
set_option maxRecDepth 100000

theorem FoldTwice_w (m : Md) (v : Value) (n : Int) (w : World) (hn : MdOk m) (hv : MdV w v m) (hpw : Pow w) (hg : 2 < w.heap.size) :
  Calls Tryd.prog 3 #[v, .int .i64 n] w fun e w' => e = .returned (.bool true) ∧ Below w.heap.size w w' := by
 have HR : Hid (∀ w', Ext w w' → Calls Tryd.prog 4 #[v, .int .i64 n] w' fun e w'' => e = .returned (.bool (rightB m n)) ∧ Below w'.heap.size w' w'') := fun w' he => rightM_c m v n w' (hv.ext he)
 have HPW : Hid (∀ w', Below w.heap.size w w' → Pow w' ∧ 2 < w'.heap.size) := fun w' hb => ⟨Go.Joins.var_stays pow_named hpw hb (Nat.le_refl _), Nat.lt_of_lt_of_le hg hb.size⟩
 have HT : Hid (∀ (p : Pr) (vp : Value) w', Below w.heap.size w w' → PrV w' vp p → FInv m p → Calls Tryd.prog 9 #[vp] w' fun e w'' => e = .returned (.string ⟨(textF p).toArray⟩) ∧ Below w'.heap.size w' w'') := fun p vp w' hb hp hI => text_c p vp w' (Go.Joins.var_stays pow_named hpw hb (Nat.le_refl _)) (Nat.lt_of_lt_of_le hg hb.size) hp hI.pr hI.szT
 clear hpw hg
 obtain ⟨vg, vd, vp, rfl, hvg, hvd, hvp⟩ := hv
 have hvp' := hvp
 obtain ⟨ap, cp, rfl, hp1, hp2, -⟩ := hvp'
 unfold maxLen at hp2
 have HPS := Lib.hid (RdPrs.at6 hvp).2
 have HN := Lib.hid hn
 clear hvg hvd hvp hn
 obtain ⟨W0, hW0⟩ : ∃ W0, W0 = w.alloc (.cells #[vg, vd, .slice ap m.procs.length cp, .int .i64 m.main] 26) := ⟨_, rfl⟩
 have B0 : Hid (Below w.heap.size w W0) := by rw [hW0]; exact below_alloc w _
 have H0 := Lib.hid (heap_of_alloc w _ _ hW0)
 have HW0 := Lib.hid hW0
 clear hW0
 go_enter Tryd.func3, Tryd.ntmps3
 go_wp2_with fail
 rw [← HW0.out]
 refine (HR.out W0 (Ext.below B0.out)).mono ?_
 rintro e w1 ⟨rfl, hb1⟩
 have H0 := Lib.hid ((hb1.block w.heap.size (Array.getElem?_eq_some_iff.1 H0.out).1).trans H0.out)
 have BB := Lib.hid (B0.out.trans (hb1.mono B0.out.size))
 clear hb1 HR HW0 B0
 obtain ⟨y0, y1, y2, y3, l0⟩ := cl4 H0.out
 cases hr : rightB m n
 ·clear hr
  go_wp2_with fail
  refine (awake17_c _).mono ?_
  rintro e w2 ⟨rfl, hb2⟩
  have BB := Lib.hid (BB.out.trans (hb2.mono BB.out.size))
  clear hb2
  go_wp2_with fail
  go_ret
  exact ⟨rfl, BB.out⟩
 ·obtain ⟨hfw, k, rfl, h1, h40, hokm⟩ := rightB_is hr
  clear hr
  have g1 : decide ((k : Int) < (m.procs.length : Int)) = true := decide_eq_true (by omega)
  have g2 : decide (k < m.procs.length) = true := decide_eq_true h1
  obtain ⟨bp, op, tnm, tvo, tvb, hap, hto, htb, t0, t1, t2, t3, t4, t5⟩ := HPS.out k h1
  subst hap
  have hmem : m.procs.getD k default ∈ m.procs := by simp [List.getD, h1]
  have hkp : okP m (m.procs.getD k default) = true := by
   have h := hokm
   unfold okM at h
   simp only [Bool.and_eq_true, List.all_eq_true] at h
   exact h.2.2.2 _ hmem
  have FI := Lib.hid (few_inv2 hfw hmem hkp h40 (HN.out.procs _ hmem))
  clear hkp hokm hfw hmem HPS HN h40
  generalize m.procs.getD k default = P at *
  have HTO := Lib.hid hto
  have HBK := Lib.hid htb
  obtain ⟨ao, co, rfl, -⟩ := hto
  obtain ⟨ab, cb, rfl, -⟩ := htb
  have hE1 : Ext w w1 := Ext.below BB.out
  replace t0 := hE1 _ _ t0
  replace t1 := hE1 _ _ t1
  replace t2 := hE1 _ _ t2
  replace t3 := hE1 _ _ t3
  replace t4 := hE1 _ _ t4
  replace t5 := hE1 _ _ t5
  have HPV : Hid (PrV w1 (.agg #[.string tnm, .bool P.void, .int .i64 P.params, .int .i64 P.regs, .slice ao P.objs.length co, .slice ab P.blks.length cb]) P) := ⟨tnm, _, _, rfl, HTO.out.ext hE1, HBK.out.ext hE1⟩
  clear hE1 HTO HBK
  go_wp2_with fail
  refine (fold_c m P _ w1 (HPW.out w1 BB.out).1 (HPW.out w1 BB.out).2 HPV.out FI.out).mono ?_
  rintro e w3 ⟨v3, p, rfl, hp3, hr3, hb3⟩
  have FP := Lib.hid (hr3.inv FI.out)
  have BB := Lib.hid (BB.out.trans (hb3.mono BB.out.size))
  clear hr3 hb3 FI HPV t0 t1 t2 t3 t4 t5 y0 y1 y2 y3 l0 H0 g1 g2
  obtain ⟨nm, vo, vb, rfl, hvo, hvb⟩ := hp3
  have HVO := Lib.hid hvo
  have HVB := Lib.hid hvb
  obtain ⟨ao, co, rfl, -⟩ := hvo
  obtain ⟨ab, cb, rfl, -⟩ := hvb
  obtain ⟨W4, hW4⟩ : ∃ W4, W4 = w3.alloc (.cells #[.string nm, .bool p.void, .int .i64 p.params, .int .i64 p.regs, .slice ao p.objs.length co, .slice ab p.blks.length cb] 31) := ⟨_, rfl⟩
  have H4 : Hid (W4.heap[w3.heap.size]? = some (.cells #[.string nm, .bool p.void, .int .i64 p.params, .int .i64 p.regs, .slice ao p.objs.length co, .slice ab p.blks.length cb] 31)) := by rw [hW4]; exact heap_alloc_new w3 _
  have B4 : Hid (Below w3.heap.size w3 W4) := by rw [hW4]; exact below_alloc w3 _
  have HVO := Lib.hid (HVO.out.ext (Ext.below B4.out))
  have HVB := Lib.hid (HVB.out.ext (Ext.below B4.out))
  have BB := Lib.hid (BB.out.trans (B4.out.mono BB.out.size))
  go_wp2_with fail
  rw [← hW4]
  clear hW4 B4
  generalize w3.heap.size = b5 at *
  have l5 := (Array.getElem?_eq_some_iff.1 H4.out).1
  refine (known2_o m p nm _ _ W4 HVO.out HVB.out FP.out).mono ?_
  rintro e w5 ⟨vb5, X, rfl, hr5, hx5, hb5⟩
  have HVO5 := Lib.hid (HVO.out.ext (Ext.below hb5))
  have FK : Hid (FInv m (knwX p X)) := FP.out.knwX hx5
  have HX := Lib.hid hx5
  have H4 := Lib.hid ((hb5.block _ l5).trans H4.out)
  have BB := Lib.hid (BB.out.trans (hb5.mono BB.out.size))
  have HVO := HVO5
  have HVB := Lib.hid (HVB.out.ext (Ext.below hb5))
  clear hb5 l5 hx5
  have l5 := (Array.getElem?_eq_some_iff.1 H4.out).1
  go_wp2_with fail
  refine (values2_o m (knwX p X) nm _ vb5 w5 HVO.out hr5 FK.out).mono ?_
  rintro e w6 ⟨vb6, rfl, hr6, hb6⟩
  rw [show (knwX p X).void = p.void from rfl, show (knwX p X).params = p.params from rfl, show (knwX p X).regs = p.regs from rfl]
  have hr6' : RdBks w6 vb6 (fold1 p X).blks := hr6 w6 fun _ _ _ => rfl
  have VQ : Hid (PrV w6 (.agg #[.string nm, .bool p.void, .int .i64 p.params, .int .i64 p.regs, .slice ao p.objs.length co, vb6]) (fold1 p X)) := ⟨nm, _, vb6, rfl, HVO.out.ext (Ext.below hb6), hr6'⟩
  have HVB := Lib.hid (HVB.out.ext (Ext.below hb6))
  have HVO := Lib.hid (HVO.out.ext (Ext.below hb6))
  obtain ⟨a6, c6, rfl, -⟩ := hr6'
  have FQ : Hid (FInv m (fold1 p X)) := FK.out.vals
  have H4 := Lib.hid ((hb6.block _ l5).trans H4.out)
  have BB := Lib.hid (BB.out.trans (hb6.mono BB.out.size))
  have HTW : Hid (textF (fold1 p X) = textF p → ∀ q, FoldT 8 p q → textF q = textF p) := fun he q hq => FoldT.twice (k := 7) FP.out HX.out he hq
  clear hb6 hr6 hr5 l5 FK HX
  generalize fold1 p X = Q at *
  have l5 := (Array.getElem?_eq_some_iff.1 H4.out).1
  obtain ⟨W7, hW7⟩ : ∃ W7, W7 = w6.alloc (.cells #[.string nm, .bool p.void, .int .i64 p.params, .int .i64 p.regs, .slice ao p.objs.length co, .slice a6 Q.blks.length c6] 31) := ⟨_, rfl⟩
  have H7 : Hid (W7.heap[w6.heap.size]? = some (.cells #[.string nm, .bool p.void, .int .i64 p.params, .int .i64 p.regs, .slice ao p.objs.length co, .slice a6 Q.blks.length c6] 31)) := by rw [hW7]; exact heap_alloc_new w6 _
  have B7 : Hid (Below w6.heap.size w6 W7) := by rw [hW7]; exact below_alloc w6 _
  go_wp2_with fail
  rw [← hW7]
  clear hW7
  have VQ := Lib.hid (VQ.out.ext (Ext.below B7.out))
  have HVB := Lib.hid (HVB.out.ext (Ext.below B7.out))
  have HVO := Lib.hid (HVO.out.ext (Ext.below B7.out))
  have H4 := Lib.hid ((B7.out.block _ l5).trans H4.out)
  have BB := Lib.hid (BB.out.trans (B7.out.mono BB.out.size))
  generalize w6.heap.size = b6 at *
  clear B7 l5
  have HPP : Hid (PrV W7 (.agg #[.string nm, .bool p.void, .int .i64 p.params, .int .i64 p.regs, .slice ao p.objs.length co, .slice ab p.blks.length cb]) p) := ⟨nm, _, _, rfl, HVO.out, HVB.out⟩
  clear HVB HVO
  obtain ⟨x0, x1, x2, x3, x4, x5, l5⟩ := cl6 H4.out
  obtain ⟨y0, y1, y2, y3, y4, y5, l6⟩ := cl6 H7.out
  refine wp_region_junk (fun _ => True) (by kernel_rfl) ?_
  refine J_mobs [0, 2] _ _ _ _ (by kernel_rfl) ?_
  simp only [List.map_cons, List.map_nil, List.getElem?_toArray, List.getElem?_cons_succ, List.getElem?_cons_zero, Option.getD_some, List.size_toArray, List.length_cons, List.length_nil, Nat.reduceAdd, Nat.reduceSub]
  repeat (go_big_quiet_step (fail))
  refine wpQuiet_nil ?_
  clear x0 x1 x2 x3 x4 x5 y0 y1 y2 y3 y4 y5 l6 H7
  by_cases heq : textF Q = textF p
  ·have HTW := Lib.hid (HTW.out heq)
   have ETQ : Hid (∀ w', Below w.heap.size w w' → PrV w' _ Q → _) := fun w' h1 h2 => HT.out Q (.agg #[.string nm, .bool p.void, .int .i64 p.params, .int .i64 p.regs, .slice ao p.objs.length co, .slice a6 Q.blks.length c6]) w' h1 h2 FQ.out
   rw [heq] at ETQ
   clear heq
   refine J_loud1 1 _ rfl (by kernel_rfl) ?_
   simp only [List.getElem_toArray, List.getElem_cons_succ, List.getElem_cons_zero]
   intro wj hj
   go_wp2_with fail
   refine (ETQ.out wj (BB.out.trans (hj.mono BB.out.size)) (VQ.out.ext (Ext.below hj))).mono ?_
   rintro e w8 ⟨rfl, hb2⟩
   go_wp2_with fail
   refine ⟨KeepX.below hb2, ?_⟩
   have hb3 := Lib.hid (hj.trans (hb2.mono hj.size))
   have HPP := Lib.hid (HPP.out.ext (Ext.below hb3.out))
   have H4 := Lib.hid ((hb3.out.block _ l5).trans H4.out)
   have BB := Lib.hid (BB.out.trans (hb3.out.mono BB.out.size))
   clear hj hb2 hb3 l5 ETQ VQ FQ
   have l5 := (Array.getElem?_eq_some_iff.1 H4.out).1
   refine J_loud1 3 _ rfl (by kernel_rfl) ?_
   simp only [List.getElem_toArray, List.getElem_cons_succ, List.getElem_cons_zero]
   intro wj hj
   go_wp2_with fail
   refine (HT.out p _ wj (BB.out.trans (hj.mono BB.out.size)) (HPP.out.ext (Ext.below hj)) FP.out).mono ?_
   rintro e w9 ⟨rfl, hb2⟩
   go_wp2_with fail
   refine ⟨KeepX.below hb2, ?_⟩
   have hb3 := Lib.hid (hj.trans (hb2.mono hj.size))
   have HPP := Lib.hid (HPP.out.ext (Ext.below hb3.out))
   have H4 := Lib.hid ((hb3.out.block _ l5).trans H4.out)
   have BB := Lib.hid (BB.out.trans (hb3.out.mono BB.out.size))
   clear hj hb2 hb3 l5
   refine J_mobs [4] _ _ _ _ (by kernel_rfl) ?_
   simp only [List.map_cons, List.map_nil, List.getElem?_toArray, List.getElem?_cons_succ, List.getElem?_cons_zero, Option.getD_some, List.size_toArray, List.length_cons, List.length_nil, Nat.reduceAdd, Nat.reduceSub]
   repeat (go_big_quiet_step (fail))
   refine wpQuiet_nil ?_
   refine J_done (by kernel_rfl) (fun wm hm => ?_) _
   have HPP := Lib.hid (HPP.out.ext (Ext.below hm))
   have H4 := Lib.hid ((hm.block _ (Array.getElem?_eq_some_iff.1 H4.out).1).trans H4.out)
   have BB := Lib.hid (BB.out.trans (hm.mono BB.out.size))
   clear hm
   go_wp2_with fail
   refine wp_region_junk (fun _ => True) (by kernel_rfl) ?_
   have l5 := (Array.getElem?_eq_some_iff.1 H4.out).1
   refine J_loud1 0 _ rfl (by kernel_rfl) ?_
   simp only [List.getElem_toArray, List.getElem_cons_succ, List.getElem_cons_zero]
   intro wj hj
   go_wp2_with fail
   refine (awake17_c wj).mono ?_
   rintro e w10 ⟨rfl, hb2⟩
   go_wp2_with fail
   refine ⟨KeepX.below hb2, ?_⟩
   have hb3 := Lib.hid (hj.trans (hb2.mono hj.size))
   have HPP := Lib.hid (HPP.out.ext (Ext.below hb3.out))
   have H4 := Lib.hid ((hb3.out.block _ l5).trans H4.out)
   have BB := Lib.hid (BB.out.trans (hb3.out.mono BB.out.size))
   clear hj hb2 hb3 l5
   obtain ⟨x0, x1, x2, x3, x4, x5, l5⟩ := cl6 H4.out
   refine J_mobs [1, 2, 5] _ _ _ _ (by kernel_rfl) ?_
   simp only [List.map_cons, List.map_nil, List.getElem?_toArray, List.getElem?_cons_succ, List.getElem?_cons_zero, Option.getD_some, List.size_toArray, List.length_cons, List.length_nil, Nat.reduceAdd, Nat.reduceSub]
   repeat (go_big_quiet_step (fail))
   refine wpQuiet_nil ?_
   clear x0 x1 x2 x3 x4 x5
   refine J_loud1 3 _ rfl (by kernel_rfl) ?_
   simp only [List.getElem_toArray, List.getElem_cons_succ, List.getElem_cons_zero]
   intro wj hj
   go_wp2_with fail
   refine (fold_c m p _ wj (HPW.out wj (BB.out.trans (hj.mono BB.out.size))).1 (HPW.out wj (BB.out.trans (hj.mono BB.out.size))).2 (HPP.out.ext (Ext.below hj)) FP.out).mono ?_
   rintro e w11 ⟨v11, q11, rfl, hp11, hr11, hb2⟩
   have V11 := Lib.hid hp11
   have F11 := Lib.hid (hr11.inv FP.out)
   have E11 := Lib.hid (HTW.out q11 hr11)
   go_wp2_with fail
   refine ⟨KeepX.below hb2, ?_⟩
   have hb3 := Lib.hid (hj.trans (hb2.mono hj.size))
   have HPP := Lib.hid (HPP.out.ext (Ext.below hb3.out))
   have BB := Lib.hid (BB.out.trans (hb3.out.mono BB.out.size))
   clear hj hb2 hb3 hp11 hr11 HTW
   have ETQ : Hid (∀ w', Below w.heap.size w w' → PrV w' v11 q11 → _) := fun w' h1 h2 => HT.out q11 v11 w' h1 h2 F11.out
   rw [E11.out] at ETQ
   refine J_loud1 4 _ rfl (by kernel_rfl) ?_
   simp only [List.getElem_toArray, List.getElem_cons_succ, List.getElem_cons_zero]
   intro wj hj
   go_wp2_with fail
   refine (ETQ.out wj (BB.out.trans (hj.mono BB.out.size)) (V11.out.ext (Ext.below hj))).mono ?_
   rintro e w12 ⟨rfl, hb2⟩
   go_wp2_with fail
   refine ⟨KeepX.below hb2, ?_⟩
   have hb3 := Lib.hid (hj.trans (hb2.mono hj.size))
   have HPP := Lib.hid (HPP.out.ext (Ext.below hb3.out))
   have BB := Lib.hid (BB.out.trans (hb3.out.mono BB.out.size))
   clear hj hb2 hb3 ETQ V11 E11 F11
   refine J_loud1 6 _ rfl (by kernel_rfl) ?_
   simp only [List.getElem_toArray, List.getElem_cons_succ, List.getElem_cons_zero]
   intro wj hj
   go_wp2_with fail
   refine (HT.out p _ wj (BB.out.trans (hj.mono BB.out.size)) (HPP.out.ext (Ext.below hj)) FP.out).mono ?_
   rintro e w13 ⟨rfl, hb2⟩
   go_wp2_with fail
   refine ⟨KeepX.below hb2, ?_⟩
   have hb3 := Lib.hid (hj.trans (hb2.mono hj.size))
   have BB := Lib.hid (BB.out.trans (hb3.out.mono BB.out.size))
   clear hj hb2 hb3
   refine J_mobs [7, 8, 9] _ _ _ _ (by kernel_rfl) ?_
   simp only [List.map_cons, List.map_nil, List.getElem?_toArray, List.getElem?_cons_succ, List.getElem?_cons_zero, Option.getD_some, List.size_toArray, List.length_cons, List.length_nil, Nat.reduceAdd, Nat.reduceSub]
   repeat (go_big_quiet_step (fail))
   refine wpQuiet_nil ?_
   refine J_done (by kernel_rfl) (fun wm hm => ?_) _
   have BB := Lib.hid (BB.out.trans (hm.mono BB.out.size))
   go_wp2_with fail
   go_ret
   exact ⟨rfl, BB.out⟩
  ·have g3 : (textF Q == textF p) = false := beq_eq_false_iff_ne.2 heq
   have g4 : (textF Q != textF p) = true := by simpa using heq
   clear heq HTW
   refine J_loud1 1 _ rfl (by kernel_rfl) ?_
   simp only [List.getElem_toArray, List.getElem_cons_succ, List.getElem_cons_zero]
   intro wj hj
   go_wp2_with fail
   refine (HT.out Q _ wj (BB.out.trans (hj.mono BB.out.size)) (VQ.out.ext (Ext.below hj)) FQ.out).mono ?_
   rintro e w8 ⟨rfl, hb2⟩
   go_wp2_with fail
   refine ⟨KeepX.below hb2, ?_⟩
   have hb3 := Lib.hid (hj.trans (hb2.mono hj.size))
   have HPP := Lib.hid (HPP.out.ext (Ext.below hb3.out))
   have BB := Lib.hid (BB.out.trans (hb3.out.mono BB.out.size))
   clear hj hb2 hb3 l5 VQ FQ
   refine J_loud1 3 _ rfl (by kernel_rfl) ?_
   simp only [List.getElem_toArray, List.getElem_cons_succ, List.getElem_cons_zero]
   intro wj hj
   go_wp2_with fail
   refine (HT.out p _ wj (BB.out.trans (hj.mono BB.out.size)) (HPP.out.ext (Ext.below hj)) FP.out).mono ?_
   rintro e w9 ⟨rfl, hb2⟩
   go_wp2_with fail
   refine ⟨KeepX.below hb2, ?_⟩
   have hb3 := Lib.hid (hj.trans (hb2.mono hj.size))
   have BB := Lib.hid (BB.out.trans (hb3.out.mono BB.out.size))
   clear hj hb2 hb3
   refine J_mobs [4] _ _ _ _ (by kernel_rfl) ?_
   simp only [List.map_cons, List.map_nil, List.getElem?_toArray, List.getElem?_cons_succ, List.getElem?_cons_zero, Option.getD_some, List.size_toArray, List.length_cons, List.length_nil, Nat.reduceAdd, Nat.reduceSub]
   repeat (go_big_quiet_step (fail))
   refine wpQuiet_nil ?_
   refine J_done (by kernel_rfl) (fun wm hm => ?_) _
   have BB := Lib.hid (BB.out.trans (hm.mono BB.out.size))
   clear hm
   go_wp2_with fail
   refine (awake17_c _).mono ?_
   rintro e w10 ⟨rfl, hb2⟩
   have BB := Lib.hid (BB.out.trans (hb2.mono BB.out.size))
   clear hb2
   go_wp2_with fail
   go_ret
   exact ⟨rfl, BB.out⟩
end Go.Proofs.YtkhfddodmjnecaaDoor
