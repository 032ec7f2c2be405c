/-
 AliasThings: the walk.
-/
import Derived.Test.YtkhfddodmjnecaaZAliasThings50
import Derived.Test.YtkhfddodmjnecaaZAliasThings16
import Derived.Test.YtkhfddodmjnecaaZAliasThings17
set_option linter.all false
namespace Go.Proofs.Ytkhfddodmjnecaa
open Go.ChangeShapes Go.WideShapes Go.ChangeAt Go.RowKit
set_option maxHeartbeats 4000000
set_option linter.unusedVariables false
set_option maxRecDepth 100000

theorem AliasThings_w (m : Md) (v : Value) (n : Int) (w : World) (hn : MdOk m) (hv : MdV w v m) :
  Calls Try.prog 4 #[v, .int .i64 n] w fun e w' => e = .returned (.bool true) ∧ Below w.heap.size w w' := by
 have HR : Hid (∀ w', Ext w w' → Calls Try.prog 12 #[v, .int .i64 n] w' fun e w'' => e = .returned (.bool (rightB m n)) ∧ Below w'.heap.size w' w'') := fun w' he => rightM_c m v n w' (hv.ext he)
 have HV := Lib.hid hv
 obtain ⟨vg, vd, vp, rfl, hvg, hvd, hvp⟩ := hv
 have hvp' := hvp
 obtain ⟨ap, cp, rfl, hp1, hp2, -⟩ := hvp'
 unfold maxLen at hp2
 have HPS := Lib.hid (RdPrs.at6 hvp).2
 have HN := Lib.hid hn
 clear hvg hvd hvp hn
 obtain ⟨W0, hW0⟩ : ∃ W0, W0 = w.alloc (.cells #[vg, vd, .slice ap m.procs.length cp, .int .i64 m.main] 26) := ⟨_, rfl⟩
 have B0 : Hid (Below w.heap.size w W0) := by rw [hW0]; exact below_alloc w _
 have H0 := Lib.hid (heap_of_alloc w _ _ hW0)
 have HW0 := Lib.hid hW0
 clear hW0
 go_enter Try.func4, Try.ntmps4
 go_wp2_with fail
 rw [← HW0.out]
 refine (HR.out W0 (Ext.below B0.out)).mono ?_
 rintro e w1 ⟨rfl, hb1⟩
 have H0 := Lib.hid ((hb1.block w.heap.size (Array.getElem?_eq_some_iff.1 H0.out).1).trans H0.out)
 have BB := Lib.hid (B0.out.trans (hb1.mono B0.out.size))
 clear hb1 HR HW0 B0
 obtain ⟨y0, y1, y2, y3, l0⟩ := cl4 H0.out
 cases hr : rightB m n
 ·clear hr
  go_wp2_with fail
  refine (new_no n _).mono ?_
  rintro e w2 ⟨rfl, hb2⟩
  have BB := Lib.hid (BB.out.trans (hb2.mono BB.out.size))
  clear hb2
  go_wp2_with fail
  refine (awake21_c _).mono ?_
  rintro e w3 ⟨rfl, hb3⟩
  have BB := Lib.hid (BB.out.trans (hb3.mono BB.out.size))
  clear hb3
  go_wp2_with fail
  refine (things_nil 0 _).mono ?_
  rintro e w4 ⟨rfl, rfl⟩
  go_wp2_with fail
  refine (out_nil _).mono ?_
  rintro e w5 ⟨rfl, rfl⟩
  go_wp2_with fail
  go_ret
  exact ⟨rfl, BB.out⟩
 ·obtain ⟨hfw, k, rfl, h1, h40, hokm⟩ := rightB_is hr
  clear hr
  have g1 : decide ((k : Int) < (m.procs.length : Int)) = true := decide_eq_true (by omega)
  have g2 : decide (k < m.procs.length) = true := decide_eq_true h1
  obtain ⟨bp, op, tnm, tvo, tvb, hap, hto, htb, t0, t1, t2, t3, t4, t5⟩ := HPS.out k h1
  subst hap
  have hAP := Lib.hid (alP_of hfw hokm HN.out h1 h40)
  have HNEW : Hid (∀ W, Ext w W → Calls Try.prog 14 #[.agg #[vg, vd, .slice (some ⟨bp, op, none⟩) m.procs.length cp, .int .i64 m.main], .int .i64 (k : Int)] W (NewP m (m.procs.getD k default) W)) := fun W hW =>
   new_c m _ k W (HV.out.ext hW) h1 hAP.out.r40 hAP.out.r0 hAP.out.objs hAP.out.globs (by have := hAP.out.procs; omega) hAP.out.ok hAP.out.pr ⟨hAP.out.blks, hAP.out.ins⟩
  have HOFC : Hid (∀ (U : Value) W, Ext w W → PrV W U (m.procs.getD k default) → Calls Try.prog 15 #[.agg #[vg, vd, .slice (some ⟨bp, op, none⟩) m.procs.length cp, .int .i64 m.main], U] W (OfP (m.procs.getD k default) ((m.procs.getD k default).objs.length + m.globs.length + 1) W)) := fun U W hW hU =>
   of21_c m _ _ U W (HV.out.ext hW) hU (by have := hAP.out.objs; omega) (by have := hAP.out.globs; omega) hAP.out.r0 (by have := hAP.out.r40; omega) hAP.out.all (by have := hAP.out.blks; omega) (fun b hb => ⟨by have := (hAP.out.ins b hb).1; omega, fun i hi => by have := (hAP.out.ins b hb).2 i hi; omega⟩)
  clear hokm hfw HPS HN h40
  generalize m.procs.getD k default = P at *
  obtain ⟨N, hN⟩ : ∃ N : Nat, P.regs = (N : Int) := ⟨P.regs.toNat, by have := hAP.out.r0; omega⟩
  have hNt : Hid (P.regs.toNat = N) := by show _ = _; omega
  have HNN := Lib.hid hN
  have hN40 : N ≤ 40 := by have := hAP.out.r40; omega
  rw [hN] at t3
  clear hN
  have HTO := Lib.hid hto
  have HBK := Lib.hid htb
  obtain ⟨ao, co, rfl, -⟩ := hto
  obtain ⟨ab, cb, rfl, -⟩ := htb
  have hE1 : Ext w w1 := Ext.below BB.out
  replace t0 := hE1 _ _ t0
  replace t1 := hE1 _ _ t1
  replace t2 := hE1 _ _ t2
  replace t3 := hE1 _ _ t3
  replace t4 := hE1 _ _ t4
  replace t5 := hE1 _ _ t5
  clear hE1
  have HPV : Hid (∀ W, Ext w W → PrV W (.agg #[.string tnm, .bool P.void, .int .i64 P.params, .int .i64 (N : Int), .slice ao P.objs.length co, .slice ab P.blks.length cb]) P) := fun W hW => ⟨tnm, _, _, by rw [HNN.out], HTO.out.ext hW, HBK.out.ext hW⟩
  go_wp2_with fail
  obtain ⟨W2, hW2⟩ : ∃ W2, W2 = w1.alloc (.cells #[.string tnm, .bool P.void, .int .i64 P.params, .int .i64 (N : Int), .slice ao P.objs.length co, .slice ab P.blks.length cb] 32) := ⟨_, rfl⟩
  have H2 : Hid (W2.heap[w1.heap.size]? = some (.cells #[.string tnm, .bool P.void, .int .i64 P.params, .int .i64 (N : Int), .slice ao P.objs.length co, .slice ab P.blks.length cb] 32)) := by rw [hW2]; exact heap_alloc_new w1 _
  have B2 : Hid (Below w1.heap.size w1 W2) := by rw [hW2]; exact below_alloc w1 _
  have H0 := Lib.hid ((B2.out.block _ l0).trans H0.out)
  have BB := Lib.hid (BB.out.trans (B2.out.mono BB.out.size))
  rw [← hW2]
  clear hW2 t0 t1 t2 t3 t4 t5 y0 y1 y2 y3 l0 B2
  generalize w1.heap.size = b5 at *
  refine (HNEW.out W2 (Ext.below BB.out)).mono ?_
  rintro e w3 ⟨K, x, sp, rfl, V, hkp, hbl, hT, hE, hC, hsp, hkN⟩
  have V := Lib.hid V
  have BV := V.out.below
  have H2 := Lib.hid ((BV.block _ (Array.getElem?_eq_some_iff.1 H2.out).1).trans H2.out)
  have H0 := Lib.hid ((BV.block _ (Array.getElem?_eq_some_iff.1 H0.out).1).trans H0.out)
  have BB := Lib.hid (BB.out.trans (BV.mono BB.out.size))
  clear BV HNEW
  obtain ⟨y0, y1, y2, y3, l0⟩ := cl4 H0.out
  obtain ⟨x0, x1, x2, x3, x4, x5, l2⟩ := cl6 H2.out
  go_wp2_with fail
  refine (HOFC.out _ w3 (Ext.below BB.out) (HPV.out w3 (Ext.below BB.out))).mono ?_
  rintro e w4 ⟨k2, y, rfl, A, hn2, hT2, hEy, hCy⟩
  have HEN : Hid (AlEnds P K.T x y) := AlEnds.of hE (by rw [hT]; exact hEy) hC hCy (by rw [hT]; exact hAP.out.cons)
  have hKT : K.T ≤ 64 := by have := hAP.out.objs; have := hAP.out.globs; omega
  have hTT : Hid (k2.T = K.T) := by show _ = _; rw [hT2, hT]
  have hnN : Hid (k2.n = N) := by show _ = _; rw [hn2]; exact hNt.out
  have hbN : Hid (K.bs.length = N) := by show _ = _; rw [hbl]; exact hNt.out
  have HEX : Hid (∀ r, exV K sp r = exR P r) := fun r => by rw [hAP.out.exR_eq]; exact exV_exF hbl hAP.out.r0 hsp r
  have HEXC : Hid (∀ (r : Int) (U : Value) W, PrV W U P → Calls Try.prog 21 #[U, .int .i64 r] W fun e w' => e = .returned (.agg #[.int .i64 (exR P r).thing, .int .i64 (exR P r).off, .bool (exR P r).is]) ∧ Below W.heap.size W w') := fun r U W hU =>
   exact21_c P r U W hU (by have := hAP.out.blks; omega) (fun b hb => by have := (hAP.out.ins b hb).1; omega) (by have := hAP.out.objs; omega) hAP.out.obj8
  obtain ⟨av, cv, hvr⟩ : ∃ a c, k2.vr = .slice a N c := rowT_form2 A.tab (by rw [List.length_map, A.rl]; exact hnN.out)
  have A := Lib.hid A
  have BA := A.out.below
  have V := Lib.hid (V.out.grow BA)
  have H2 := Lib.hid ((BA.block _ l2).trans H2.out)
  have BB := Lib.hid (BB.out.trans (BA.mono BB.out.size))
  clear BA y0 y1 y2 y3 l0 x0 x1 x2 x3 x4 x5 l2 H0 hkp hbl hT hE hC hsp hkN hn2 hT2 hEy hCy HOFC
  rw [hvr]
  have Hvr := Lib.hid hvr
  clear hvr
  unfold rowV
  rw [hTT.out]
  go_wp2_with fail
  obtain ⟨W5, hW5⟩ : ∃ W5, W5 = w4.alloc (.cells #[.slice av N cv, .slice (some ⟨k2.ro.1, 0, none⟩) K.T k2.ro.2] 47) := ⟨_, rfl⟩
  have H10 : Hid (W5.heap[w4.heap.size]? = some (.cells #[.slice av N cv, .slice (some ⟨k2.ro.1, 0, none⟩) K.T k2.ro.2] 47)) := by rw [hW5]; exact heap_alloc_new w4 _
  have B5 : Below w4.heap.size w4 W5 := by rw [hW5]; exact below_alloc w4 _
  have V := Lib.hid (V.out.grow B5)
  have A := Lib.hid (A.out.grow B5)
  have H2 := Lib.hid ((B5.block _ (Array.getElem?_eq_some_iff.1 H2.out).1).trans H2.out)
  have BB := Lib.hid (BB.out.trans (B5.mono BB.out.size))
  rw [← hW5]
  clear hW5 B5
  generalize w4.heap.size = b10 at *
  go_loopw [11] (fun i wr => ∃ r : Nat, r ≤ N ∧ i = .int .i64 (r : Int) ∧ Hid (VwM W2 wr K x sp) ∧ Hid (AlM w3 wr k2 y) ∧ Hid (wr.heap[b5]? = some (.cells #[.string tnm, .bool P.void, .int .i64 P.params, .int .i64 (N : Int), .slice ao P.objs.length co, .slice ab P.blks.length cb] 32)) ∧ Hid (wr.heap[b10]? = some (.cells #[.slice av N cv, .slice (some ⟨k2.ro.1, 0, none⟩) K.T k2.ro.2] 47)) ∧ Hid (Below w.heap.size w wr)) (fun i _ => N - (intOf i).toNat)
  case atStart => exact ⟨0, Nat.zero_le _, rfl, V, A, H2, H10, BB⟩
  case round =>
   clear V A H2 H10 BB
   obtain ⟨r, hrN, rfl, V, A, H2, H10, BB⟩ := hrel
   obtain ⟨x0, x1, x2, x3, x4, x5, l2⟩ := cl6 H2.out
   obtain ⟨v0, v1, l10⟩ := cl2 H10.out
   by_cases hlt : r < N
   ·have gr1 : decide (r < N) = true := decide_eq_true hlt
    have gr2 : decide ((r : Int) < (N : Int)) = true := decide_eq_true (by omega)
    have hex := exactV_c W2 K x sp (r : Int) wr V.out (by rw [hbN.out]; omega)
    rw [HEX.out] at hex
    unfold exT at hex
    have hexc := Lib.hid (HEXC.out (r : Int))
    generalize exR P (r : Int) = E at *
    obtain ⟨T1, F1, S1⟩ := E
    dsimp only at hex hexc
    have hex := Lib.hid hex
    go_wp2_with fail
    refine hex.out.mono ?_
    rintro e w6 ⟨rfl, hbg⟩
    have V := Lib.hid (V.out.grow hbg)
    have A := Lib.hid (A.out.grow hbg)
    have H2 := Lib.hid ((hbg.block _ l2).trans H2.out)
    have H10 := Lib.hid ((hbg.block _ l10).trans H10.out)
    have BB := Lib.hid (BB.out.trans (hbg.mono BB.out.size))
    clear x0 x1 x2 x3 x4 x5 l2 v0 v1 l10 hbg
    obtain ⟨x0, x1, x2, x3, x4, x5, l2⟩ := cl6 H2.out
    obtain ⟨v0, v1, l10⟩ := cl2 H10.out
    go_wp2_with fail
    refine (hexc.out _ w6 (HPV.out w6 (Ext.below BB.out))).mono ?_
    rintro e w7 ⟨rfl, hbg⟩
    have V := Lib.hid (V.out.grow hbg)
    have A := Lib.hid (A.out.grow hbg)
    have H2 := Lib.hid ((hbg.block _ l2).trans H2.out)
    have H10 := Lib.hid ((hbg.block _ l10).trans H10.out)
    have BB := Lib.hid (BB.out.trans (hbg.mono BB.out.size))
    clear x0 x1 x2 x3 x4 x5 l2 v0 v1 l10 hbg
    obtain ⟨x0, x1, x2, x3, x4, x5, l2⟩ := cl6 H2.out
    obtain ⟨v0, v1, l10⟩ := cl2 H10.out
    clear hex hexc
    go_wp2_with fail
    obtain ⟨W8, hW8⟩ : ∃ W8, W8 = w7.alloc (.cells #[.int .i64 T1, .int .i64 F1, .bool S1] 57) := ⟨_, rfl⟩
    have H15 : Hid (W8.heap[w7.heap.size]? = some (.cells #[.int .i64 T1, .int .i64 F1, .bool S1] 57)) := by rw [hW8]; exact heap_alloc_new w7 _
    have hbg : Below w7.heap.size w7 W8 := by rw [hW8]; exact below_alloc w7 _
    rw [← hW8]
    clear hW8
    have V := Lib.hid (V.out.grow hbg)
    have A := Lib.hid (A.out.grow hbg)
    have H2 := Lib.hid ((hbg.block _ l2).trans H2.out)
    have H10 := Lib.hid ((hbg.block _ l10).trans H10.out)
    have BB := Lib.hid (BB.out.trans (hbg.mono BB.out.size))
    clear x0 x1 x2 x3 x4 x5 l2 v0 v1 l10 hbg
    obtain ⟨x0, x1, x2, x3, x4, x5, l2⟩ := cl6 H2.out
    obtain ⟨v0, v1, l10⟩ := cl2 H10.out
    generalize w7.heap.size = b15 at *
    obtain ⟨z0, z1, z2, l15⟩ := cl3 H15.out
    obtain ⟨br, cp', hv2, e1, e2, e3, -, e4, -⟩ := A.out.at (d := r) (by rw [hnN.out]; exact hlt)
    rw [Hvr.out] at hv2
    simp only [Value.slice.injEq] at hv2
    obtain ⟨rfl, -, rfl⟩ := hv2
    have yr := e4 r (by rw [hnN.out]; exact hlt)
    rw [hTT.out] at yr
    rw [hnN.out] at e1
    have HRr : Hid (∀ W, AlM w3 W k2 y → RowB W (k2.rs.getD r (0, 0)).1 K.T (k2.rs.getD r (0, 0)).2 (y.regs.getD r [])) := fun W h => by
     have h9 := h.row r (by rw [hnN.out]; exact hlt)
     rw [hTT.out] at h9
     exact h9
    clear e4
    unfold rowV at yr
    unfold maxLen at e2
    generalize k2.rs.getD r (0, 0) = Rr at *
    obtain ⟨gr, kr⟩ := Rr
    dsimp only at yr HRr
    refine wp_region_junk (fun _ => True) (by kernel_rfl) ?_
    refine J_mobs [0, 1, 3, 4, 5, 6, 7] _ _ _ _ (by kernel_rfl) ?_
    simp only [List.map_cons, List.map_nil, List.getElem?_toArray, List.getElem?_cons_succ, List.getElem?_cons_zero, Option.getD_some, List.size_toArray, List.length_cons, List.length_nil, Nat.reduceAdd, Nat.reduceSub]
    repeat (go_big_quiet_step (fail))
    refine wpQuiet_nil ?_
    refine J_loud1 2 _ rfl (by kernel_rfl) ?_
    simp only [List.getElem_toArray, List.getElem_cons_succ, List.getElem_cons_zero]
    intro wj hj
    have htc := things_c W2 K x sp r wj (V.out.grow hj) (by rw [hbN.out]; exact hlt) (by rw [hbN.out]; omega) hKT
    go_wp2_with fail
    refine htc.mono ?_
    clear htc
    rintro e w9 ⟨vA, rfl, hoA, hb2⟩
    obtain ⟨aA, cA, rfl⟩ := row_form hoA
    have HOA := Lib.hid (OwnI.rd hoA)
    clear hoA
    go_wp2_with fail
    refine ⟨KeepX.below hb2, ?_⟩
    have hbg := hj.trans (hb2.mono hj.size)
    have H15 := Lib.hid ((hbg.block _ l15).trans H15.out)
    have V := Lib.hid (V.out.grow hbg)
    have A := Lib.hid (A.out.grow hbg)
    have H2 := Lib.hid ((hbg.block _ l2).trans H2.out)
    have H10 := Lib.hid ((hbg.block _ l10).trans H10.out)
    have BB := Lib.hid (BB.out.trans (hbg.mono BB.out.size))
    clear x0 x1 x2 x3 x4 x5 l2 v0 v1 l10 hbg
    obtain ⟨x0, x1, x2, x3, x4, x5, l2⟩ := cl6 H2.out
    obtain ⟨v0, v1, l10⟩ := cl2 H10.out
    clear hj hb2 z0 z1 z2 l15
    obtain ⟨z0, z1, z2, l15⟩ := cl3 H15.out
    refine J_loud1 8 _ rfl (by kernel_rfl) ?_
    simp only [List.getElem_toArray, List.getElem_cons_succ, List.getElem_cons_zero]
    intro wj hj
    have hrs := rising_yes wj _ (.slice (some ⟨gr, 0, none⟩) K.T kr) (fun t => (x.regs.getD r 0).testBit t) (y.regs.getD r []) (fun i _ => HEN.out.reg (by rw [hNt.out]; exact hlt) i) (by rw [HEN.out.len (by rw [hNt.out]; exact hlt)]; exact HOA.out.ext (Ext.below hj)) (HRr.out wj (A.out.grow hj)).rd (by rw [HEN.out.len (by rw [hNt.out]; exact hlt)]; omega)
    go_wp2_with fail
    refine hrs.mono ?_
    clear hrs
    rintro e wq ⟨rfl, rfl⟩
    go_wp2_with fail
    refine ⟨KeepX.refl _ _, ?_⟩
    have H15 := Lib.hid ((hj.block _ l15).trans H15.out)
    have hbg := hj
    have V := Lib.hid (V.out.grow hbg)
    have A := Lib.hid (A.out.grow hbg)
    have H2 := Lib.hid ((hbg.block _ l2).trans H2.out)
    have H10 := Lib.hid ((hbg.block _ l10).trans H10.out)
    have BB := Lib.hid (BB.out.trans (hbg.mono BB.out.size))
    clear x0 x1 x2 x3 x4 x5 l2 v0 v1 l10 hbg
    obtain ⟨x0, x1, x2, x3, x4, x5, l2⟩ := cl6 H2.out
    obtain ⟨v0, v1, l10⟩ := cl2 H10.out
    clear hj z0 z1 z2 l15 yr e1 e2 e3 HOA
    obtain ⟨z0, z1, z2, l15⟩ := cl3 H15.out
    refine J_mobs [9, 10, 11, 12, 13, 14, 15, 16, 17, 18, 19, 20, 21, 22, 23, 24, 25, 26, 27] _ _ _ _ (by kernel_rfl) ?_
    simp only [List.map_cons, List.map_nil, List.getElem?_toArray, List.getElem?_cons_succ, List.getElem?_cons_zero, Option.getD_some, List.size_toArray, List.length_cons, List.length_nil, Nat.reduceAdd, Nat.reduceSub]
    repeat (go_big_quiet_step (fail))
    refine wpQuiet_nil ?_
    refine J_done (by kernel_rfl) (fun wj hj => ?_) _
    have hbg := hj
    have V := Lib.hid (V.out.grow hbg)
    have A := Lib.hid (A.out.grow hbg)
    have H2 := Lib.hid ((hbg.block _ l2).trans H2.out)
    have H10 := Lib.hid ((hbg.block _ l10).trans H10.out)
    have BB := Lib.hid (BB.out.trans (hbg.mono BB.out.size))
    clear x0 x1 x2 x3 x4 x5 l2 v0 v1 l10 hbg
    obtain ⟨x0, x1, x2, x3, x4, x5, l2⟩ := cl6 H2.out
    obtain ⟨v0, v1, l10⟩ := cl2 H10.out
    clear hj z0 z1 z2 l15 H15
    go_wp2_with fail
    go_roundw
    case rel => exact ⟨r + 1, hlt, by go_num, V, A, H2, H10, BB⟩
    case measure => simp [intOf]; omega
   ·obtain rfl : r = N := by omega
    have gr1 : decide ((r : Int) < (r : Int)) = false := decide_eq_false (by omega)
    have HRo : Hid (∀ W, AlM w3 W k2 y → RowB W k2.ro.1 K.T k2.ro.2 y.out) := fun W h => by
     have h9 := h.out
     rw [hTT.out] at h9
     exact h9
    have HOg : Hid (∀ i, y.out.getD i false = x.out.testBit i) := fun i => HEN.out.get none (fun q e => by cases e) i
    have HOl : Hid (y.out.length = K.T) := HEN.out.ey.ok.out
    go_wp2_with fail
    refine wp_region_junk (fun _ => True) (by kernel_rfl) ?_
    refine J_loud1 0 _ rfl (by kernel_rfl) ?_
    simp only [List.getElem_toArray, List.getElem_cons_succ, List.getElem_cons_zero]
    intro wj hj
    go_wp2_with fail
    refine (awake21_c wj).mono ?_
    rintro e w9 ⟨rfl, hb2⟩
    go_wp2_with fail
    refine ⟨KeepX.below hb2, ?_⟩
    have hbg := hj.trans (hb2.mono hj.size)
    have V := Lib.hid (V.out.grow hbg)
    have A := Lib.hid (A.out.grow hbg)
    have H2 := Lib.hid ((hbg.block _ l2).trans H2.out)
    have H10 := Lib.hid ((hbg.block _ l10).trans H10.out)
    have BB := Lib.hid (BB.out.trans (hbg.mono BB.out.size))
    clear x0 x1 x2 x3 x4 x5 l2 v0 v1 l10 hbg
    obtain ⟨x0, x1, x2, x3, x4, x5, l2⟩ := cl6 H2.out
    obtain ⟨v0, v1, l10⟩ := cl2 H10.out
    clear hj hb2
    refine J_mobs [1, 2, 4, 5] _ _ _ _ (by kernel_rfl) ?_
    simp only [List.map_cons, List.map_nil, List.getElem?_toArray, List.getElem?_cons_succ, List.getElem?_cons_zero, Option.getD_some, List.size_toArray, List.length_cons, List.length_nil, Nat.reduceAdd, Nat.reduceSub]
    repeat (go_big_quiet_step (fail))
    refine wpQuiet_nil ?_
    refine J_loud1 3 _ rfl (by kernel_rfl) ?_
    simp only [List.getElem_toArray, List.getElem_cons_succ, List.getElem_cons_zero]
    intro wj hj
    have htc := outV_c W2 K x sp wj (V.out.grow hj) hKT
    go_wp2_with fail
    refine htc.mono ?_
    clear htc
    rintro e w10 ⟨vA, rfl, hoA, hb2⟩
    obtain ⟨aA, cA, rfl⟩ := row_form hoA
    have HOA := Lib.hid (OwnI.rd hoA)
    clear hoA
    go_wp2_with fail
    refine ⟨KeepX.below hb2, ?_⟩
    have hbg := hj.trans (hb2.mono hj.size)
    have V := Lib.hid (V.out.grow hbg)
    have A := Lib.hid (A.out.grow hbg)
    have H2 := Lib.hid ((hbg.block _ l2).trans H2.out)
    have H10 := Lib.hid ((hbg.block _ l10).trans H10.out)
    have BB := Lib.hid (BB.out.trans (hbg.mono BB.out.size))
    clear x0 x1 x2 x3 x4 x5 l2 v0 v1 l10 hbg
    obtain ⟨x0, x1, x2, x3, x4, x5, l2⟩ := cl6 H2.out
    obtain ⟨v0, v1, l10⟩ := cl2 H10.out
    clear hj hb2
    refine J_loud1 6 _ rfl (by kernel_rfl) ?_
    simp only [List.getElem_toArray, List.getElem_cons_succ, List.getElem_cons_zero]
    intro wj hj
    have hrs := rising_yes wj _ (.slice (some ⟨k2.ro.1, 0, none⟩) K.T k2.ro.2) (fun t => x.out.testBit t) y.out (fun i _ => HOg.out i) (by rw [HOl.out]; exact HOA.out.ext (Ext.below hj)) (HRo.out wj (A.out.grow hj)).rd (by rw [HOl.out]; omega)
    go_wp2_with fail
    refine hrs.mono ?_
    clear hrs
    rintro e wq ⟨rfl, rfl⟩
    go_wp2_with fail
    refine ⟨KeepX.refl _ _, ?_⟩
    have hbg := hj
    have V := Lib.hid (V.out.grow hbg)
    have A := Lib.hid (A.out.grow hbg)
    have H2 := Lib.hid ((hbg.block _ l2).trans H2.out)
    have H10 := Lib.hid ((hbg.block _ l10).trans H10.out)
    have BB := Lib.hid (BB.out.trans (hbg.mono BB.out.size))
    clear x0 x1 x2 x3 x4 x5 l2 v0 v1 l10 hbg
    obtain ⟨x0, x1, x2, x3, x4, x5, l2⟩ := cl6 H2.out
    obtain ⟨v0, v1, l10⟩ := cl2 H10.out
    clear hj HOA
    refine J_mobs [7, 8, 9] _ _ _ _ (by kernel_rfl) ?_
    simp only [List.map_cons, List.map_nil, List.getElem?_toArray, List.getElem?_cons_succ, List.getElem?_cons_zero, Option.getD_some, List.size_toArray, List.length_cons, List.length_nil, Nat.reduceAdd, Nat.reduceSub]
    repeat (go_big_quiet_step (fail))
    refine wpQuiet_nil ?_
    refine J_loud1 10 _ rfl (by kernel_rfl) ?_
    simp only [List.getElem_toArray, List.getElem_cons_succ, List.getElem_cons_zero]
    intro wj hj
    have htc := things_no W2 K x sp (-1) wj (V.out.grow hj) (by omega) (by rw [hbN.out]; omega)
    go_wp2_with fail
    refine htc.mono ?_
    clear htc
    rintro e wq ⟨rfl, rfl⟩
    go_wp2_with fail
    refine ⟨KeepX.refl _ _, ?_⟩
    have hbg := hj
    have V := Lib.hid (V.out.grow hbg)
    have A := Lib.hid (A.out.grow hbg)
    have H2 := Lib.hid ((hbg.block _ l2).trans H2.out)
    have H10 := Lib.hid ((hbg.block _ l10).trans H10.out)
    have BB := Lib.hid (BB.out.trans (hbg.mono BB.out.size))
    clear x0 x1 x2 x3 x4 x5 l2 v0 v1 l10 hbg
    obtain ⟨x0, x1, x2, x3, x4, x5, l2⟩ := cl6 H2.out
    obtain ⟨v0, v1, l10⟩ := cl2 H10.out
    clear hj
    refine J_mobs [11, 12, 13, 14, 15, 16, 17] _ _ _ _ (by kernel_rfl) ?_
    simp only [List.map_cons, List.map_nil, List.getElem?_toArray, List.getElem?_cons_succ, List.getElem?_cons_zero, Option.getD_some, List.size_toArray, List.length_cons, List.length_nil, Nat.reduceAdd, Nat.reduceSub]
    repeat (go_big_quiet_step (fail))
    refine wpQuiet_nil ?_
    refine J_loud1 18 _ rfl (by kernel_rfl) ?_
    simp only [List.getElem_toArray, List.getElem_cons_succ, List.getElem_cons_zero]
    intro wj hj
    have htc := things_no W2 K x sp (r : Int) wj (V.out.grow hj) (by rw [hbN.out]; omega) (by rw [hbN.out]; omega)
    go_wp2_with fail
    refine htc.mono ?_
    clear htc
    rintro e wq ⟨rfl, rfl⟩
    go_wp2_with fail
    refine ⟨KeepX.refl _ _, ?_⟩
    have hbg := hj
    have V := Lib.hid (V.out.grow hbg)
    have A := Lib.hid (A.out.grow hbg)
    have H2 := Lib.hid ((hbg.block _ l2).trans H2.out)
    have H10 := Lib.hid ((hbg.block _ l10).trans H10.out)
    have BB := Lib.hid (BB.out.trans (hbg.mono BB.out.size))
    clear x0 x1 x2 x3 x4 x5 l2 v0 v1 l10 hbg
    obtain ⟨x0, x1, x2, x3, x4, x5, l2⟩ := cl6 H2.out
    obtain ⟨v0, v1, l10⟩ := cl2 H10.out
    clear hj
    refine J_mobs [19, 20, 21, 22] _ _ _ _ (by kernel_rfl) ?_
    simp only [List.map_cons, List.map_nil, List.getElem?_toArray, List.getElem?_cons_succ, List.getElem?_cons_zero, Option.getD_some, List.size_toArray, List.length_cons, List.length_nil, Nat.reduceAdd, Nat.reduceSub]
    repeat (go_big_quiet_step (fail))
    refine wpQuiet_nil ?_
    refine J_done (by kernel_rfl) (fun wj hj => ?_) _
    have BB := Lib.hid (BB.out.trans (hj.mono BB.out.size))
    go_wp2_with fail
    go_ret
    exact ⟨rfl, BB.out⟩
end Go.Proofs.Ytkhfddodmjnecaa
