/-
 DeadDrops: the walk.
-/
import Derived.Test.YtnnhobbabcfogaaDoorZDeadDrops41
import Derived.Test.YtnnhobbabcfogaaDoorZDeadDrops44
import Derived.Test.YtnnhobbabcfogaaDoorZDeadDrops50
import Derived.Test.YtnnhobbabcfogaaDoorZDeadDrops17
import Derived.Test.YtnnhobbabcfogaaDoorZDeadDrops19
set_option linter.all false
namespace Go.Proofs.YtnnhobbabcfogaaDoor
open Go.ChangeShapes Go.WideShapes Go.ChangeAt Go.RowKit
set_option maxHeartbeats 4000000
set_option linter.unusedVariables false
set_option maxRecDepth 100000

theorem deadF_void : ∀ (f : Nat) (p : Pr), (deadF f p).void = p.void ∧ (deadF f p).params = p.params ∧ (deadF f p).regs = p.regs ∧ (deadF f p).objs = p.objs
 | 0, p => ⟨rfl, rfl, rfl, rfl⟩
 | f + 1, p => by
  unfold deadF
  split
  ·exact ⟨rfl, rfl, rfl, rfl⟩
  ·exact deadF_void f (dropP p)
theorem withoutL_nil (l : List In) : withoutL l [] = l := by
 unfold withoutL
 have : (List.range l.length).filter (fun t : Nat => !hasL [] (t : Int)) = List.range l.length := List.filter_eq_self.2 fun t _ => by simp [hasL]
 rw [this]
 apply List.ext_getElem
 ·simp
 ·intro i h1 h2
  simp [List.getD, h2]
theorem dropP_idle {p : Pr} (h : goneP p p.blks.length = 0) : dropP p = p := by
 have key : ∀ k, goneP p k = 0 → ∀ n, n < k → placesL p n = [] := fun k => by
  induction k with
  | zero => intro _ n hn; omega
  | succ k ih =>
   intro h n hn
   rw [goneP_succ] at h
   by_cases e : n = k
   ·subst e; exact List.eq_nil_of_length_eq_zero (by omega)
   ·exact ih (by omega) n (by omega)
 have hb : (dropP p).blks = p.blks := by
  apply List.ext_getElem
  ·rw [dropP_len]
  ·intro i h1 h2
   have e := dropP_at p h2
   rw [key _ h i h2, withoutL_nil] at e
   simpa [List.getD, h1, h2] using e
 show { p with blks := (dropP p).blks } = p
 rw [hb]
theorem DeadDrops_w (m : Md) (v : Value) (n : Int) (w : World) (hn : MdOk m) (hv : MdV w v m) (hpw : Pow w) (hg : 2 < w.heap.size) :
  Calls Tryd.prog 8 #[v, .int .i64 n] w fun e w' => e = .returned (.bool true) ∧ Below w.heap.size w w' := by
 have HT : Hid (∀ (p : Pr) (vp : Value) w', Below w.heap.size w w' → PrV w' vp p → PrOk p → SzT p → Calls Tryd.prog 16 #[vp] w' fun e w'' => e = .returned (.string ⟨(textF p).toArray⟩) ∧ Below w'.heap.size w' w'') := fun p vp w' hb hp hok hs => text_c p vp w' (Go.Joins.var_stays pow_named hpw hb (Nat.le_refl _)) (Nat.lt_of_lt_of_le hg hb.size) hp hok hs
 have HR : Hid (∀ w', Ext w w' → Calls Tryd.prog 27 #[v, .int .i64 n] w' fun e w'' => e = .returned (.bool (rightB m n)) ∧ Below w'.heap.size w' w'') := fun w' he => rightM_c m v n w' (hv.ext he)
 have HV := Lib.hid hv
 clear hpw hg
 obtain ⟨vg, vd, vp, rfl, hvg, hvd, hvp⟩ := hv
 have hvp' := hvp
 obtain ⟨ap, cp, rfl, hp1, hp2, -⟩ := hvp'
 unfold maxLen at hp2
 have HPS := Lib.hid (RdPrs.at6 hvp).2
 have HN := Lib.hid hn
 clear hvg hvd hvp hn
 obtain ⟨W0, hW0⟩ : ∃ W0, W0 = w.alloc (.cells #[vg, vd, .slice ap m.procs.length cp, .int .i64 m.main] 26) := ⟨_, rfl⟩
 have B0 : Hid (Below w.heap.size w W0) := by rw [hW0]; exact below_alloc w _
 have H0 := Lib.hid (heap_of_alloc w _ _ hW0)
 have HW0 := Lib.hid hW0
 clear hW0
 go_enter Tryd.func8, Tryd.ntmps8
 go_wp2_with fail
 rw [← HW0.out]
 refine (HR.out W0 (Ext.below B0.out)).mono ?_
 rintro e w1 ⟨rfl, hb1⟩
 have H0 := Lib.hid ((hb1.block w.heap.size (Array.getElem?_eq_some_iff.1 H0.out).1).trans H0.out)
 have BB := Lib.hid (B0.out.trans (hb1.mono B0.out.size))
 clear hb1 HR HW0 B0
 obtain ⟨y0, y1, y2, y3, l0⟩ := cl4 H0.out
 cases hr : rightB m n
 ·clear hr
  go_wp2_with fail
  refine (awake18_c _).mono ?_
  rintro e w2 ⟨rfl, hb2⟩
  have BB := Lib.hid (BB.out.trans (hb2.mono BB.out.size))
  clear hb2
  go_wp2_with fail
  go_ret
  exact ⟨rfl, BB.out⟩
 ·obtain ⟨hfw, k, rfl, h1, h40, hokm⟩ := rightB_is hr
  clear hr
  have g1 : decide ((k : Int) < (m.procs.length : Int)) = true := decide_eq_true (by omega)
  have g2 : decide (k < m.procs.length) = true := decide_eq_true h1
  obtain ⟨bp, op, tnm, tvo, tvb, hap, hto, htb, t0, t1, t2, t3, t4, t5⟩ := HPS.out k h1
  subst hap
  have hmem : m.procs.getD k default ∈ m.procs := by simp [List.getD, h1]
  have hkp : okP m (m.procs.getD k default) = true := by
   unfold okM at hokm
   simp only [Bool.and_eq_true, List.all_eq_true] at hokm
   exact hokm.2.2.2 _ hmem
  have DOK := Lib.hid (dead_ok hfw hmem hkp h40)
  have POK := Lib.hid (HN.out.procs _ hmem)
  have PSZ := Lib.hid (few_szD hfw hmem)
  have PLE := Lib.hid (few_sizeL hfw hmem)
  clear hkp hokm hfw hmem HPS HN h40
  generalize m.procs.getD k default = P at *
  have HTO := Lib.hid hto
  have HBK := Lib.hid htb
  obtain ⟨ao, co, rfl, -⟩ := hto
  obtain ⟨ab, cb, rfl, -⟩ := htb
  have hE1 : Ext w w1 := Ext.below BB.out
  replace t0 := hE1 _ _ t0
  replace t1 := hE1 _ _ t1
  replace t2 := hE1 _ _ t2
  replace t3 := hE1 _ _ t3
  replace t4 := hE1 _ _ t4
  replace t5 := hE1 _ _ t5
  clear hE1
  go_wp2_with fail
  obtain ⟨W2, hW2⟩ : ∃ W2, W2 = w1.alloc (.cells #[.string tnm, .bool P.void, .int .i64 P.params, .int .i64 P.regs, .slice ao P.objs.length co, .slice ab P.blks.length cb] 37) := ⟨_, rfl⟩
  have H2 : Hid (W2.heap[w1.heap.size]? = some (.cells #[.string tnm, .bool P.void, .int .i64 P.params, .int .i64 P.regs, .slice ao P.objs.length co, .slice ab P.blks.length cb] 37)) := by rw [hW2]; exact heap_alloc_new w1 _
  have BB : Hid (Below w.heap.size w W2) := by rw [hW2]; exact BB.out.trans ((below_alloc w1 _).mono BB.out.size)
  have h5w : w.heap.size ≤ w1.heap.size := by have := (Array.getElem?_eq_some_iff.1 H0.out).1; omega
  rw [← hW2]
  clear hW2 t0 t1 t2 t3 t4 t5 y0 y1 y2 y3 l0 H0
  generalize w1.heap.size = b5 at *
  obtain ⟨x0, x1, x2, x3, x4, x5, l5⟩ := cl6 H2.out
  refine wp_region_junk (fun _ => True) (by kernel_rfl) ?_
  refine J_mobs [0, 3] _ _ _ _ (by kernel_rfl) ?_
  simp only [List.map_cons, List.map_nil, List.getElem?_toArray, List.getElem?_cons_succ, List.getElem?_cons_zero, Option.getD_some, List.size_toArray, List.length_cons, List.length_nil, Nat.reduceAdd, Nat.reduceSub]
  repeat (go_big_quiet_step (fail))
  refine wpQuiet_nil ?_
  clear x0 x1 x2 x3 x4 x5
  refine J_loud1 1 _ rfl (by kernel_rfl) ?_
  simp only [List.getElem_toArray, List.getElem_cons_succ, List.getElem_cons_zero]
  intro wj hj
  go_wp2_with fail
  refine (drop2_c P tnm _ _ w wj (Ext.below (BB.out.trans (hj.mono BB.out.size))) HTO.out (HBK.out.ext (Ext.below (BB.out.trans (hj.mono BB.out.size)))) ((InsAt.of HBK.out).ext (Ext.below (BB.out.trans (hj.mono BB.out.size)))) DOK.out).mono ?_
  rintro e w3 ⟨vb3, rfl, ho3, hb2⟩
  go_wp2_with fail
  refine ⟨KeepX.below hb2, ?_⟩
  have hb3 := Lib.hid (hj.trans (hb2.mono hj.size))
  have H2 := Lib.hid ((hb3.out.block _ l5).trans H2.out)
  have BB := Lib.hid (BB.out.trans (hb3.out.mono BB.out.size))
  have l5 := (Array.getElem?_eq_some_iff.1 H2.out).1
  have V3 : Hid (PrV w3 (.agg #[.string tnm, .bool P.void, .int .i64 P.params, .int .i64 P.regs, .slice ao P.objs.length co, vb3]) (dropP P)) := ⟨tnm, _, vb3, rfl, HTO.out.ext (Ext.below BB.out), ho3.rd (Ext.below BB.out)⟩
  clear hj hb2 hb3 ho3
  refine J_loud1 2 _ rfl (by kernel_rfl) ?_
  simp only [List.getElem_toArray, List.getElem_cons_succ, List.getElem_cons_zero]
  intro wj hj
  go_wp2_with fail
  refine (HT.out _ _ wj (BB.out.trans (hj.mono BB.out.size)) (V3.out.ext (Ext.below hj)) (dropP_ok POK.out) (dropP_sz PSZ.out)).mono ?_
  rintro e w4 ⟨rfl, hb2⟩
  go_wp2_with fail
  refine ⟨KeepX.below hb2, ?_⟩
  have hb3 := Lib.hid (hj.trans (hb2.mono hj.size))
  have H2 := Lib.hid ((hb3.out.block _ l5).trans H2.out)
  have BB := Lib.hid (BB.out.trans (hb3.out.mono BB.out.size))
  have l5 := (Array.getElem?_eq_some_iff.1 H2.out).1
  clear hj hb2 hb3 V3
  refine J_loud1 4 _ rfl (by kernel_rfl) ?_
  simp only [List.getElem_toArray, List.getElem_cons_succ, List.getElem_cons_zero]
  intro wj hj
  go_wp2_with fail
  refine (rdrop_c P tnm _ _ wj wj (Ext.refl _) (HTO.out.ext (Ext.below (BB.out.trans (hj.mono BB.out.size)))) (HBK.out.ext (Ext.below (BB.out.trans (hj.mono BB.out.size)))) (InsAt.of (HBK.out.ext (Ext.below (BB.out.trans (hj.mono BB.out.size))))) DOK.out).mono ?_
  rintro e w5 ⟨vb5, rfl, ho5, hb2⟩
  go_wp2_with fail
  refine ⟨KeepX.below hb2, ?_⟩
  have hb3 := Lib.hid (hj.trans (hb2.mono hj.size))
  have H2 := Lib.hid ((hb3.out.block _ l5).trans H2.out)
  have BB := Lib.hid (BB.out.trans (hb3.out.mono BB.out.size))
  have l5 := (Array.getElem?_eq_some_iff.1 H2.out).1
  have V5 : Hid (PrV w5 (.agg #[.string tnm, .bool P.void, .int .i64 P.params, .int .i64 P.regs, .slice ao P.objs.length co, vb5]) (dropP P)) := ⟨tnm, _, vb5, rfl, HTO.out.ext (Ext.below BB.out), ho5.rd (Ext.below hb2)⟩
  clear hj hb2 hb3 ho5
  refine J_loud1 5 _ rfl (by kernel_rfl) ?_
  simp only [List.getElem_toArray, List.getElem_cons_succ, List.getElem_cons_zero]
  intro wj hj
  go_wp2_with fail
  refine (HT.out _ _ wj (BB.out.trans (hj.mono BB.out.size)) (V5.out.ext (Ext.below hj)) (dropP_ok POK.out) (dropP_sz PSZ.out)).mono ?_
  rintro e w6 ⟨rfl, hb2⟩
  go_wp2_with fail
  refine ⟨KeepX.below hb2, ?_⟩
  have hb3 := Lib.hid (hj.trans (hb2.mono hj.size))
  have H2 := Lib.hid ((hb3.out.block _ l5).trans H2.out)
  have BB := Lib.hid (BB.out.trans (hb3.out.mono BB.out.size))
  have l5 := (Array.getElem?_eq_some_iff.1 H2.out).1
  clear hj hb2 hb3 V5
  refine J_mobs [6] _ _ _ _ (by kernel_rfl) ?_
  simp only [List.map_cons, List.map_nil, List.getElem?_toArray, List.getElem?_cons_succ, List.getElem?_cons_zero, Option.getD_some, List.size_toArray, List.length_cons, List.length_nil, Nat.reduceAdd, Nat.reduceSub]
  repeat (go_big_quiet_step (fail))
  refine wpQuiet_nil ?_
  refine J_done (by kernel_rfl) (fun wk hk => ?_) _
  have H2 := Lib.hid ((hk.block _ l5).trans H2.out)
  have BB := Lib.hid (BB.out.trans (hk.mono BB.out.size))
  have BBk := BB
  clear hk l5
  obtain ⟨x0, x1, x2, x3, x4, x5, l5⟩ := cl6 H2.out
  go_wp2_with fail
  obtain ⟨W6, hW6⟩ : ∃ W6, W6 = wk.alloc (.cells #[.string tnm, .bool P.void, .int .i64 P.params, .int .i64 P.regs, .slice ao P.objs.length co, .slice ab P.blks.length cb] 37) := ⟨_, rfl⟩
  have H6 : Hid (W6.heap[wk.heap.size]? = some (.cells #[.string tnm, .bool P.void, .int .i64 P.params, .int .i64 P.regs, .slice ao P.objs.length co, .slice ab P.blks.length cb] 37)) := by rw [hW6]; exact heap_alloc_new wk _
  have H2 : Hid (W6.heap[b5]? = some (.cells #[.string tnm, .bool P.void, .int .i64 P.params, .int .i64 P.regs, .slice ao P.objs.length co, .slice ab P.blks.length cb] 37)) := by rw [hW6]; exact ((below_alloc wk _).block _ l5).trans H2.out
  have BB : Hid (Below w.heap.size w W6) := by rw [hW6]; exact BB.out.trans ((below_alloc wk _).mono BB.out.size)
  have h6w : b5 < wk.heap.size := l5
  have hw6w : w.heap.size ≤ wk.heap.size := BBk.out.size
  rw [← hW6]
  clear hW6 x0 x1 x2 x3 x4 x5 l5
  generalize wk.heap.size = b6 at *
  go_loopw [7] (fun i wr => ∃ (k : Nat) (bq : List Bk) (aq : Option Addr) (cq : Nat), i = .int .i64 (k : Int) ∧ Hid (k + sizeL bq ≤ 2400) ∧ Hid (DeadOk { P with blks := bq }) ∧ Hid (PrOk { P with blks := bq }) ∧ Hid (SzT { P with blks := bq }) ∧ Hid (deadF (sizeL bq + 1) { P with blks := bq } = deadP P) ∧
   Hid (RdBks wr (.slice aq bq.length cq) bq) ∧ Hid (InsAt w wr (.slice aq bq.length cq) bq) ∧ Hid (wr.heap[b6]? = some (.cells #[.string tnm, .bool P.void, .int .i64 P.params, .int .i64 P.regs, .slice ao P.objs.length co, .slice aq bq.length cq] 37)) ∧
   Hid (wr.heap[b5]? = some (.cells #[.string tnm, .bool P.void, .int .i64 P.params, .int .i64 P.regs, .slice ao P.objs.length co, .slice ab P.blks.length cb] 37)) ∧ Hid (Below w.heap.size w wr)) (fun i _ => 3000 - (intOf i).toNat)
  case atStart => exact ⟨0, P.blks, ab, cb, rfl, by show _ ≤ _; rw [Nat.zero_add]; exact PLE.out, DOK.out, POK.out, PSZ.out, rfl, HBK.out.ext (Ext.below BB.out), (InsAt.of HBK.out).ext (Ext.below BB.out), H6, H2, BB⟩
  case round =>
   clear H6 H2 BB
   obtain ⟨k, bq, aq, cq, rfl, HK, DQ, OQ, ZQ, FQ, BQ, AQ, H6, H2, BB⟩ := hrel
   have hk25 : k ≤ 2400 := by have := HK.out; omega
   have hkd : decide ((k : Int) ≤ 2500) = true := decide_eq_true (by omega)
   have hkd2 : decide (k ≤ 2500) = true := decide_eq_true (by omega)
   obtain ⟨x0, x1, x2, x3, x4, x5, l6⟩ := cl6 H6.out
   have l5 := (Array.getElem?_eq_some_iff.1 H2.out).1
   have VQ : Hid (∀ w', Ext wr w' → PrV w' (.agg #[.string tnm, .bool P.void, .int .i64 P.params, .int .i64 P.regs, .slice ao P.objs.length co, .slice aq bq.length cq]) { P with blks := bq }) := fun w' he => ⟨tnm, _, _, rfl, (HTO.out.ext (Ext.below BB.out)).ext he, BQ.out.ext he⟩
   have RQ : Hid (∀ w', Ext wr w' → Calls Tryd.prog 35 #[.agg #[.string tnm, .bool P.void, .int .i64 P.params, .int .i64 P.regs, .slice ao P.objs.length co, .slice aq bq.length cq]] w' fun e w'' => ∃ vb', e = .returned (.agg #[.string tnm, .bool P.void, .int .i64 P.params, .int .i64 P.regs, .slice ao P.objs.length co, vb']) ∧ OutB w w'' w'.heap.size vb' (dropP { P with blks := bq }).blks ∧ Below w'.heap.size w' w'') :=
    fun w' he => rdrop_c { P with blks := bq } tnm _ _ w w' ((Ext.below BB.out).trans he) ((HTO.out.ext (Ext.below BB.out)).ext he) (BQ.out.ext he) (AQ.out.ext he) DQ.out
   have BX : Hid (Below wr.heap.size wr wr) := Below.refl _ _
   go_wp2_with fail
   refine wp_region_junk (fun _ => True) (by kernel_rfl) ?_
   refine J_mobs [0, 1, 2, 3, 5] _ _ _ _ (by kernel_rfl) ?_
   simp only [List.map_cons, List.map_nil, List.getElem?_toArray, List.getElem?_cons_succ, List.getElem?_cons_zero, Option.getD_some, List.size_toArray, List.length_cons, List.length_nil, Nat.reduceAdd, Nat.reduceSub]
   repeat (go_big_quiet_step (fail))
   refine wpQuiet_nil ?_
   clear x0 x1 x2 x3 x4 x5
   obtain ⟨sA, hsA⟩ : ∃ sA, textF { P with blks := bq } = sA := ⟨_, rfl⟩
   obtain ⟨sB, hsB⟩ : ∃ sB, textF (dropP { P with blks := bq }) = sB := ⟨_, rfl⟩
   have HSA := Lib.hid hsA
   have HSB := Lib.hid hsB
   have HNO : Hid (sA = sB → goneP { P with blks := bq } bq.length = 0) := fun e => by
    rw [← hsA, ← hsB] at e
    by_cases h : goneP { P with blks := bq } bq.length = 0
    ·exact h
    ·have := textF_less (p := { P with blks := bq }) h
     rw [e] at this
     exact absurd this (Nat.lt_irrefl _)
   have HYE : Hid (sA ≠ sB → goneP { P with blks := bq } bq.length ≠ 0) := fun hne h => hne (by
    rw [← hsA, ← hsB, dropP_idle (p := { P with blks := bq }) h])
   clear hsA hsB
   refine J_loud1 4 _ rfl (by kernel_rfl) ?_
   simp only [List.getElem_toArray, List.getElem_cons_succ, List.getElem_cons_zero]
   intro wj hj
   go_wp2_with fail
   refine (HT.out _ _ wj (BB.out.trans ((BX.out.trans (hj.mono BX.out.size)).mono BB.out.size)) (VQ.out wj (Ext.below (BX.out.trans (hj.mono BX.out.size)))) OQ.out ZQ.out).mono ?_
   rintro e w4 ⟨rfl, hb2⟩
   rw [HSA.out]
   go_wp2_with fail
   refine ⟨KeepX.below hb2, ?_⟩
   have BX := Lib.hid (BX.out.trans ((hj.trans (hb2.mono hj.size)).mono BX.out.size))
   clear hj hb2
   refine J_loud1 6 _ rfl (by kernel_rfl) ?_
   simp only [List.getElem_toArray, List.getElem_cons_succ, List.getElem_cons_zero]
   intro wj hj
   go_wp2_with fail
   refine (RQ.out wj (Ext.below (BX.out.trans (hj.mono BX.out.size)))).mono ?_
   rintro e w5 ⟨vb5, rfl, ho5, hb2⟩
   have V5 : Hid (PrV w5 (.agg #[.string tnm, .bool P.void, .int .i64 P.params, .int .i64 P.regs, .slice ao P.objs.length co, vb5]) (dropP { P with blks := bq })) := ⟨tnm, _, vb5, rfl, ((HTO.out.ext (Ext.below BB.out)).ext (Ext.below (BX.out.trans (hj.mono BX.out.size)))).ext (Ext.below hb2), ho5.rd ((Ext.below BB.out).trans ((Ext.below (BX.out.trans (hj.mono BX.out.size))).trans (Ext.below hb2)))⟩
   clear ho5
   go_wp2_with fail
   refine ⟨KeepX.below hb2, ?_⟩
   have BX := Lib.hid (BX.out.trans ((hj.trans (hb2.mono hj.size)).mono BX.out.size))
   clear hj hb2
   refine J_loud1 7 _ rfl (by kernel_rfl) ?_
   simp only [List.getElem_toArray, List.getElem_cons_succ, List.getElem_cons_zero]
   intro wj hj
   go_wp2_with fail
   refine (HT.out _ _ wj (BB.out.trans ((BX.out.trans (hj.mono BX.out.size)).mono BB.out.size)) (V5.out.ext (Ext.below hj)) (dropP_ok OQ.out) (dropP_sz ZQ.out)).mono ?_
   rintro e w6 ⟨rfl, hb2⟩
   rw [HSB.out]
   clear V5
   go_wp2_with fail
   refine ⟨KeepX.below hb2, ?_⟩
   have BX := Lib.hid (BX.out.trans ((hj.trans (hb2.mono hj.size)).mono BX.out.size))
   clear hj hb2
   by_cases hab : sA = sB
   ·have HG := Lib.hid (HNO.out hab)
    clear HSB HNO HYE
    subst hab
    refine J_mobs [8, 9] _ _ _ _ (by kernel_rfl) ?_
    simp only [List.map_cons, List.map_nil, List.getElem?_toArray, List.getElem?_cons_succ, List.getElem?_cons_zero, Option.getD_some, List.size_toArray, List.length_cons, List.length_nil, Nat.reduceAdd, Nat.reduceSub]
    repeat (go_big_quiet_step (fail))
    refine wpQuiet_nil ?_
    refine J_done (by kernel_rfl) (fun wm hm => ?_) _
    have BX := Lib.hid (BX.out.trans (hm.mono BX.out.size))
    have H6 := Lib.hid ((BX.out.block _ l6).trans H6.out)
    have H2 := Lib.hid ((BX.out.block _ l5).trans H2.out)
    clear hm l6 l5
    obtain ⟨x0, x1, x2, x3, x4, x5, l6⟩ := cl6 H6.out
    have l5 := (Array.getElem?_eq_some_iff.1 H2.out).1
    have BB := Lib.hid (BB.out.trans (BX.out.mono BB.out.size))
    have FD : Hid (deadP P = dropP { P with blks := bq }) := by show _ = _; rw [← FQ.out, deadF_stop HG.out]
    have HDD : Hid (∀ w', Ext w w' → Calls Tryd.prog 36 #[.agg #[.string tnm, .bool P.void, .int .i64 P.params, .int .i64 P.regs, .slice ao P.objs.length co, .slice ab P.blks.length cb]] w' fun e w'' =>
      ∃ vb', e = .returned (.agg #[.string tnm, .bool P.void, .int .i64 P.params, .int .i64 P.regs, .slice ao P.objs.length co, vb']) ∧ OutB w w'' w'.heap.size vb' (deadP P).blks ∧ Below w'.heap.size w' w'') :=
     fun w' he => dead_c P tnm _ _ w w' he HTO.out (HBK.out.ext he) ((InsAt.of HBK.out).ext he) DOK.out
    have HFB : Hid (dropP { P with blks := bq } = { P with blks := bq }) := dropP_idle (p := { P with blks := bq }) HG.out
    have VQ2 : Hid (∀ w', Ext wm w' → PrV w' (.agg #[.string tnm, .bool P.void, .int .i64 P.params, .int .i64 P.regs, .slice ao P.objs.length co, .slice aq bq.length cq]) { P with blks := bq }) := fun w' he => VQ.out w' ((Ext.below BX.out).trans he)
    have BX : Hid (Below wm.heap.size wm wm) := Below.refl _ _
    clear VQ RQ BQ FQ HK hk25 hkd hkd2
    have t0 := x0
    have t1 := x1
    have t2 := x2
    have t3 := x3
    have t4 := x4
    have t5 := x5
    clear x0 x1 x2 x3 x4 x5
    go_wp2_with fail
    refine wp_region_junk (fun _ => True) (by kernel_rfl) ?_
    refine J_loud1 0 _ rfl (by kernel_rfl) ?_
    simp only [List.getElem_toArray, List.getElem_cons_succ, List.getElem_cons_zero]
    intro wj hj
    go_wp2_with fail
    refine (awake18_c wj).mono ?_
    rintro e w4 ⟨rfl, hb2⟩
    go_wp2_with fail
    refine ⟨KeepX.below hb2, ?_⟩
    have BX := Lib.hid (BX.out.trans ((hj.trans (hb2.mono hj.size)).mono BX.out.size))
    clear hj hb2
    have H6 := Lib.hid ((BX.out.block _ l6).trans H6.out)
    have H2 := Lib.hid ((BX.out.block _ l5).trans H2.out)
    clear t0 t1 t2 t3 t4 t5
    obtain ⟨x0, x1, x2, x3, x4, x5, -⟩ := cl6 H6.out
    obtain ⟨y0, y1, y2, y3, y4, y5, -⟩ := cl6 H2.out
    refine J_mobs [1, 2, 5] _ _ _ _ (by kernel_rfl) ?_
    simp only [List.map_cons, List.map_nil, List.getElem?_toArray, List.getElem?_cons_succ, List.getElem?_cons_zero, Option.getD_some, List.size_toArray, List.length_cons, List.length_nil, Nat.reduceAdd, Nat.reduceSub]
    repeat (go_big_quiet_step (fail))
    refine wpQuiet_nil ?_
    clear x0 x1 x2 x3 x4 x5 y0 y1 y2 y3 y4 y5
    refine J_loud1 3 _ rfl (by kernel_rfl) ?_
    simp only [List.getElem_toArray, List.getElem_cons_succ, List.getElem_cons_zero]
    intro wj hj
    go_wp2_with fail
    refine (HDD.out wj (Ext.below (BB.out.trans ((BX.out.trans (hj.mono BX.out.size)).mono BB.out.size)))).mono ?_
    rintro e w5 ⟨vb5, rfl, ho5, hb2⟩
    have E5 : Ext w w5 := Ext.below ((BB.out.trans ((BX.out.trans (hj.mono BX.out.size)).mono BB.out.size)).trans (hb2.mono (BB.out.trans ((BX.out.trans (hj.mono BX.out.size)).mono BB.out.size)).size))
    have V5 : Hid (PrV w5 (.agg #[.string tnm, .bool P.void, .int .i64 P.params, .int .i64 P.regs, .slice ao P.objs.length co, vb5]) { P with blks := bq }) := ⟨tnm, _, vb5, rfl, HTO.out.ext E5, by have h := ho5.rd E5; rw [FD.out, HFB.out] at h; exact h⟩
    clear ho5 E5
    go_wp2_with fail
    refine ⟨KeepX.below hb2, ?_⟩
    have BX := Lib.hid (BX.out.trans ((hj.trans (hb2.mono hj.size)).mono BX.out.size))
    clear hj hb2
    refine J_loud1 4 _ rfl (by kernel_rfl) ?_
    simp only [List.getElem_toArray, List.getElem_cons_succ, List.getElem_cons_zero]
    intro wj hj
    go_wp2_with fail
    refine (HT.out _ _ wj (BB.out.trans ((BX.out.trans (hj.mono BX.out.size)).mono BB.out.size)) (V5.out.ext (Ext.below hj)) OQ.out ZQ.out).mono ?_
    rintro e w6 ⟨rfl, hb2⟩
    rw [HSA.out]
    clear V5
    go_wp2_with fail
    refine ⟨KeepX.below hb2, ?_⟩
    have BX := Lib.hid (BX.out.trans ((hj.trans (hb2.mono hj.size)).mono BX.out.size))
    clear hj hb2
    refine J_loud1 6 _ rfl (by kernel_rfl) ?_
    simp only [List.getElem_toArray, List.getElem_cons_succ, List.getElem_cons_zero]
    intro wj hj
    go_wp2_with fail
    refine (HT.out _ _ wj (BB.out.trans ((BX.out.trans (hj.mono BX.out.size)).mono BB.out.size)) (VQ2.out wj (Ext.below (BX.out.trans (hj.mono BX.out.size)))) OQ.out ZQ.out).mono ?_
    rintro e w7 ⟨rfl, hb2⟩
    rw [HSA.out]
    go_wp2_with fail
    refine ⟨KeepX.below hb2, ?_⟩
    have BX := Lib.hid (BX.out.trans ((hj.trans (hb2.mono hj.size)).mono BX.out.size))
    clear hj hb2
    refine J_mobs [7, 8, 9] _ _ _ _ (by kernel_rfl) ?_
    simp only [List.map_cons, List.map_nil, List.getElem?_toArray, List.getElem?_cons_succ, List.getElem?_cons_zero, Option.getD_some, List.size_toArray, List.length_cons, List.length_nil, Nat.reduceAdd, Nat.reduceSub]
    repeat (go_big_quiet_step (fail))
    refine wpQuiet_nil ?_
    refine J_done (by kernel_rfl) (fun wn hn => ?_) _
    have BX := Lib.hid (BX.out.trans (hn.mono BX.out.size))
    have BB := Lib.hid (BB.out.trans (BX.out.mono BB.out.size))
    clear hn
    go_wp2_with fail
    go_ret
    exact ⟨rfl, BB.out⟩
   ·have HG := Lib.hid (HYE.out hab)
    have hne : (sA == sB) = false := beq_eq_false_iff_ne.2 hab
    clear HSB HNO HYE hab
    refine J_mobs [8, 9] _ _ _ _ (by kernel_rfl) ?_
    simp only [List.map_cons, List.map_nil, List.getElem?_toArray, List.getElem?_cons_succ, List.getElem?_cons_zero, Option.getD_some, List.size_toArray, List.length_cons, List.length_nil, Nat.reduceAdd, Nat.reduceSub]
    repeat (go_big_quiet_step (fail))
    refine wpQuiet_nil ?_
    refine J_done (by kernel_rfl) (fun wm hm => ?_) _
    have BX := Lib.hid (BX.out.trans (hm.mono BX.out.size))
    have H6 := Lib.hid ((BX.out.block _ l6).trans H6.out)
    have H2 := Lib.hid ((BX.out.block _ l5).trans H2.out)
    clear hm l6 l5
    obtain ⟨x0, x1, x2, x3, x4, x5, l6⟩ := cl6 H6.out
    have l5 := (Array.getElem?_eq_some_iff.1 H2.out).1
    go_wp2_with fail
    have hwm : b6 < wm.heap.size := l6
    have hw6 : w.heap.size ≤ b6 := hw6w
    refine (RQ.out wm (Ext.below BX.out)).mono ?_
    rintro e w7 ⟨vb7, rfl, ho7, hb7⟩
    have BX := Lib.hid (BX.out.trans (hb7.mono BX.out.size))
    have BB7 := Lib.hid (BB.out.trans (BX.out.mono BB.out.size))
    have H6 := Lib.hid ((hb7.block _ l6).trans H6.out)
    have H2 := Lib.hid ((hb7.block _ l5).trans H2.out)
    clear x0 x1 x2 x3 x4 x5 hb7 l6 l5
    obtain ⟨x0, x1, x2, x3, x4, x5, l6⟩ := cl6 H6.out
    have zf := frozen_of_heap H6.out
    have zf0 := zf 0
    have zf1 := zf 1
    have zf2 := zf 2
    have zf3 := zf 3
    have zf4 := zf 4
    have zf5 := zf 5
    clear zf
    obtain ⟨L7, q1, q2, -⟩ := id ho7
    have hL7 : L7.length = bq.length := by
     have := congrArg List.length q2
     rw [List.length_map, dropP_len] at this
     exact this
    obtain ⟨a7, c7, hv7⟩ := row_form q1
    rw [hL7] at hv7
    subst hv7
    have HO7 := Lib.hid ho7
    clear ho7 q1 q2 hL7
    go_wp2_with fail
    obtain ⟨W8, hW8⟩ : ∃ W8, W8 = (((((w7.setCell ⟨b6, 0, none⟩ (.string tnm)).setCell ⟨b6, 1, none⟩ (.bool P.void)).setCell ⟨b6, 2, none⟩ (.int .i64 P.params)).setCell ⟨b6, 3, none⟩ (.int .i64 P.regs)).setCell ⟨b6, 4, none⟩ (.slice ao P.objs.length co)).setCell ⟨b6, 5, none⟩ (.slice a7 bq.length c7) := ⟨_, rfl⟩
    rw [← hW8]
    have K8 : But b6 w7 W8 := by
     rw [hW8]
     exact (((((But.setCell _ _ w7 _).trans (But.setCell _ _ _ _)).trans (But.setCell _ _ _ _)).trans (But.setCell _ _ _ _)).trans (But.setCell _ _ _ _)).trans (But.setCell _ _ _ _)
    have g8 : W8.heap[b6]? = some (.cells #[.string tnm, .bool P.void, .int .i64 P.params, .int .i64 P.regs, .slice ao P.objs.length co, .slice a7 bq.length c7] 37) := by
     rw [hW8]
     exact heap_setCell_same _ _ 5 _ _ _ (heap_setCell_same _ _ 4 _ _ _ (heap_setCell_same _ _ 3 _ _ _ (heap_setCell_same _ _ 2 _ _ _ (heap_setCell_same _ _ 1 _ _ _ (heap_setCell_same w7 _ 0 _ _ _ H6.out)))))
    clear hW8 zf0 zf1 zf2 zf3 zf4 zf5 x0 x1 x2 x3 x4 x5
    have hO8 := HO7.out.turn (but_grown K8) (fun b e => by simp only [Option.some.injEq] at e; omega)
    have B8 : Below w.heap.size w W8 := BB7.out.trans (K8.toBelow hw6 (Nat.le_of_lt (Nat.lt_of_le_of_lt hw6 l6)))
    have g2 : W8.heap[b5]? = some (.cells #[.string tnm, .bool P.void, .int .i64 P.params, .int .i64 P.regs, .slice ao P.objs.length co, .slice ab P.blks.length cb] 37) := (K8.block b5 (Array.getElem?_eq_some_iff.1 H2.out).1 (by omega)).trans H2.out
    have hless := dropP_less (p := { P with blks := bq }) HG.out
    have hlen : (dropP { P with blks := bq }).blks.length = bq.length := dropP_len _
    have hD : Hid (DeadOk { P with blks := (dropP { P with blks := bq }).blks }) := DQ.out.drop
    have hO : Hid (PrOk { P with blks := (dropP { P with blks := bq }).blks }) := dropP_ok OQ.out
    have hZ : Hid (SzT { P with blks := (dropP { P with blks := bq }).blks }) := dropP_sz ZQ.out
    have hF : Hid (deadF (sizeL (dropP { P with blks := bq }).blks + 1) { P with blks := (dropP { P with blks := bq }).blks } = deadP P) := by
     show _ = _
     rw [← FQ.out]
     exact (deadF_go (q := { P with blks := bq }) HG.out).symm
    have hK : Hid (k + 1 + sizeL (dropP { P with blks := bq }).blks ≤ 2400) := by
     show _ ≤ _
     have := HK.out
     have h2 : sizeL (dropP { P with blks := bq }).blks < sizeL bq := hless
     omega
    have hR := hO8.rd (Ext.below B8)
    have hI := hO8.ins
    clear hless HO7 hO8
    generalize (dropP { P with blks := bq }).blks = bn at *
    rw [← hlen] at g8 hR hI
    try rw [← hlen]
    go_wp2_with fail
    go_roundw
    case rel => exact ⟨k + 1, bn, a7, c7, by go_num, hK, hD, hO, hZ, hF, hR, hI, g8, g2, B8⟩
    case measure => simp [intOf]; omega
end Go.Proofs.YtnnhobbabcfogaaDoor
