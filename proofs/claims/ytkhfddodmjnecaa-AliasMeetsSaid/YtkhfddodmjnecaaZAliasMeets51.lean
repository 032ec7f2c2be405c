/-
 AliasMeets: the walk.
-/
import Derived.Test.YtkhfddodmjnecaaZAliasMeets50
import Derived.Test.YtkhfddodmjnecaaZAliasMeets47
import Derived.Test.YtkhfddodmjnecaaZAliasMeets15
set_option linter.all false
namespace Go.Proofs.Ytkhfddodmjnecaa
open Go.ChangeShapes Go.WideShapes Go.ChangeAt Go.RowKit
set_option maxHeartbeats 4000000
set_option linter.unusedVariables false
set_option maxRecDepth 100000

theorem set11_heap {w : World} {b : Nat} {t : TypeId} {z0 z1 z2 z3 z4 z5 z6 z7 z8 z9 z10 : Value} (h : w.heap[b]? = some (.cells #[z0, z1, z2, z3, z4, z5, z6, z7, z8, z9, z10] t)) (c0 c1 c2 c3 c4 c5 c6 c7 c8 c9 c10 : Value) :
  (((((((((((w.setCell ⟨b, 0, none⟩ c0).setCell ⟨b, 1, none⟩ c1).setCell ⟨b, 2, none⟩ c2).setCell ⟨b, 3, none⟩ c3).setCell ⟨b, 4, none⟩ c4).setCell ⟨b, 5, none⟩ c5).setCell ⟨b, 6, none⟩ c6).setCell ⟨b, 7, none⟩ c7).setCell ⟨b, 8, none⟩ c8).setCell ⟨b, 9, none⟩ c9).setCell ⟨b, 10, none⟩ c10).heap[b]? = some (.cells #[c0, c1, c2, c3, c4, c5, c6, c7, c8, c9, c10] t) := by
 have h0 := heap_setCell_same _ b 0 _ _ c0 h
 simp only [List.setIfInBounds_toArray, List.set_cons_zero, List.set_cons_succ] at h0
 have h1 := heap_setCell_same _ b 1 _ _ c1 h0
 simp only [List.setIfInBounds_toArray, List.set_cons_zero, List.set_cons_succ] at h1
 have h2 := heap_setCell_same _ b 2 _ _ c2 h1
 simp only [List.setIfInBounds_toArray, List.set_cons_zero, List.set_cons_succ] at h2
 have h3 := heap_setCell_same _ b 3 _ _ c3 h2
 simp only [List.setIfInBounds_toArray, List.set_cons_zero, List.set_cons_succ] at h3
 have h4 := heap_setCell_same _ b 4 _ _ c4 h3
 simp only [List.setIfInBounds_toArray, List.set_cons_zero, List.set_cons_succ] at h4
 have h5 := heap_setCell_same _ b 5 _ _ c5 h4
 simp only [List.setIfInBounds_toArray, List.set_cons_zero, List.set_cons_succ] at h5
 have h6 := heap_setCell_same _ b 6 _ _ c6 h5
 simp only [List.setIfInBounds_toArray, List.set_cons_zero, List.set_cons_succ] at h6
 have h7 := heap_setCell_same _ b 7 _ _ c7 h6
 simp only [List.setIfInBounds_toArray, List.set_cons_zero, List.set_cons_succ] at h7
 have h8 := heap_setCell_same _ b 8 _ _ c8 h7
 simp only [List.setIfInBounds_toArray, List.set_cons_zero, List.set_cons_succ] at h8
 have h9 := heap_setCell_same _ b 9 _ _ c9 h8
 simp only [List.setIfInBounds_toArray, List.set_cons_zero, List.set_cons_succ] at h9
 have h10 := heap_setCell_same _ b 10 _ _ c10 h9
 simp only [List.setIfInBounds_toArray, List.set_cons_zero, List.set_cons_succ] at h10
 exact h10
theorem set11_other {w : World} {b c : Nat} {o : Option Obj} (h : w.heap[c]? = o) (hc : c ≠ b) (c0 c1 c2 c3 c4 c5 c6 c7 c8 c9 c10 : Value) :
  (((((((((((w.setCell ⟨b, 0, none⟩ c0).setCell ⟨b, 1, none⟩ c1).setCell ⟨b, 2, none⟩ c2).setCell ⟨b, 3, none⟩ c3).setCell ⟨b, 4, none⟩ c4).setCell ⟨b, 5, none⟩ c5).setCell ⟨b, 6, none⟩ c6).setCell ⟨b, 7, none⟩ c7).setCell ⟨b, 8, none⟩ c8).setCell ⟨b, 9, none⟩ c9).setCell ⟨b, 10, none⟩ c10).heap[c]? = o := (Below.heap_setCell _ ⟨b, 10, none⟩ c10 c hc).trans ((Below.heap_setCell _ ⟨b, 9, none⟩ c9 c hc).trans ((Below.heap_setCell _ ⟨b, 8, none⟩ c8 c hc).trans ((Below.heap_setCell _ ⟨b, 7, none⟩ c7 c hc).trans ((Below.heap_setCell _ ⟨b, 6, none⟩ c6 c hc).trans ((Below.heap_setCell _ ⟨b, 5, none⟩ c5 c hc).trans ((Below.heap_setCell _ ⟨b, 4, none⟩ c4 c hc).trans ((Below.heap_setCell _ ⟨b, 3, none⟩ c3 c hc).trans ((Below.heap_setCell _ ⟨b, 2, none⟩ c2 c hc).trans ((Below.heap_setCell _ ⟨b, 1, none⟩ c1 c hc).trans ((Below.heap_setCell _ ⟨b, 0, none⟩ c0 c hc).trans h))))))))))
theorem set11_keepY {n b : Nat} {w0 w : World} (hk : KeepY (fun z => z < n) w0 w) (h : ¬ b < n) (c0 c1 c2 c3 c4 c5 c6 c7 c8 c9 c10 : Value) :
  KeepY (fun z => z < n) w0 (((((((((((w.setCell ⟨b, 0, none⟩ c0).setCell ⟨b, 1, none⟩ c1).setCell ⟨b, 2, none⟩ c2).setCell ⟨b, 3, none⟩ c3).setCell ⟨b, 4, none⟩ c4).setCell ⟨b, 5, none⟩ c5).setCell ⟨b, 6, none⟩ c6).setCell ⟨b, 7, none⟩ c7).setCell ⟨b, 8, none⟩ c8).setCell ⟨b, 9, none⟩ c9).setCell ⟨b, 10, none⟩ c10) := ((((((((((hk.set (p := ⟨b, 0, none⟩) c0 h).set (p := ⟨b, 1, none⟩) c1 h).set (p := ⟨b, 2, none⟩) c2 h).set (p := ⟨b, 3, none⟩) c3 h).set (p := ⟨b, 4, none⟩) c4 h).set (p := ⟨b, 5, none⟩) c5 h).set (p := ⟨b, 6, none⟩) c6 h).set (p := ⟨b, 7, none⟩) c7 h).set (p := ⟨b, 8, none⟩) c8 h).set (p := ⟨b, 9, none⟩) c9 h).set (p := ⟨b, 10, none⟩) c10 h
theorem set11_below {B b : Nat} {w0 w : World} (hk : Below B w0 w) (h : B ≤ b) (c0 c1 c2 c3 c4 c5 c6 c7 c8 c9 c10 : Value) :
  Below B w0 (((((((((((w.setCell ⟨b, 0, none⟩ c0).setCell ⟨b, 1, none⟩ c1).setCell ⟨b, 2, none⟩ c2).setCell ⟨b, 3, none⟩ c3).setCell ⟨b, 4, none⟩ c4).setCell ⟨b, 5, none⟩ c5).setCell ⟨b, 6, none⟩ c6).setCell ⟨b, 7, none⟩ c7).setCell ⟨b, 8, none⟩ c8).setCell ⟨b, 9, none⟩ c9).setCell ⟨b, 10, none⟩ c10) := ((((((((((hk.setCell (p := ⟨b, 0, none⟩) h c0).setCell (p := ⟨b, 1, none⟩) h c1).setCell (p := ⟨b, 2, none⟩) h c2).setCell (p := ⟨b, 3, none⟩) h c3).setCell (p := ⟨b, 4, none⟩) h c4).setCell (p := ⟨b, 5, none⟩) h c5).setCell (p := ⟨b, 6, none⟩) h c6).setCell (p := ⟨b, 7, none⟩) h c7).setCell (p := ⟨b, 8, none⟩) h c8).setCell (p := ⟨b, 9, none⟩) h c9).setCell (p := ⟨b, 10, none⟩) h c10
/-- two instructions in boxes of their own -/
def TwoIn (W4 : World) (c1 c2 : Array Value) (t12 t13 : Value) (wx : World) : Prop := ∃ b1 b2, t12 = .pointer (some ⟨b1, 0, none⟩) ∧ t13 = .pointer (some ⟨b2, 0, none⟩) ∧
 Hid (wx.heap[b1]? = some (.cells c1 39)) ∧ Hid (wx.heap[b2]? = some (.cells c2 39)) ∧ Hid (Below W4.heap.size W4 wx)
theorem modIdx (a : Int) (n : Nat) (h : 1 ≤ n) (hn : n ≤ 1000) : ∃ i : Nat, i < n ∧ (wrap64 (a.tmod (n : Int) + (n : Int))).tmod (n : Int) = (i : Int) := by
 have h1 := Int.tmod_lt_of_pos a (show (0 : Int) < (n : Int) by omega)
 have h2 := Int.tmod_lt_of_pos (-a) (show (0 : Int) < (n : Int) by omega)
 rw [Int.neg_tmod] at h2
 have h3 : wrap64 (a.tmod (n : Int) + (n : Int)) = a.tmod (n : Int) + (n : Int) := by
  generalize a.tmod (n : Int) = y at *
  unfold wrap64
  omega
 rw [h3]
 have h4 : 0 ≤ a.tmod (n : Int) + (n : Int) := by omega
 generalize a.tmod (n : Int) + (n : Int) = x at *
 rw [Int.tmod_eq_emod_of_nonneg h4]
 have h5 := Int.emod_nonneg x (show (n : Int) ≠ 0 by omega)
 have h6 := Int.emod_lt_of_pos x (show (0 : Int) < (n : Int) by omega)
 exact ⟨(x % (n : Int)).toNat, by omega, by omega⟩
theorem AliasMeets_w (m : Md) (v : Value) (n : Int) (q : Int × Int × Int × Int) (vq : Value) (w : World) (hn : MdOk m) (hv : MdV w v m) (hq : I64 q.1 ∧ I64 q.2.1 ∧ I64 q.2.2.1 ∧ I64 q.2.2.2) (hvq : vq = .agg #[.int .i64 q.1, .int .i64 q.2.1, .int .i64 q.2.2.1, .int .i64 q.2.2.2]) :
  Calls Try.prog 3 #[v, .int .i64 n, vq] w fun e w' => e = .returned (.bool true) ∧ Below w.heap.size w w' := by
 subst hvq
 obtain ⟨qa, qb, qc, qd⟩ := q
 dsimp only at hq ⊢
 obtain ⟨⟨qa0, qa1⟩, ⟨qb0, qb1⟩, ⟨qc0, qc1⟩, qd0, qd1⟩ := hq
 have HR : Hid (∀ w', Ext w w' → Calls Try.prog 12 #[v, .int .i64 n] w' fun e w'' => e = .returned (.bool (rightB m n)) ∧ Below w'.heap.size w' w'') := fun w' he => rightM_c m v n w' (hv.ext he)
 have HV := Lib.hid hv
 obtain ⟨vg, vd, vp, rfl, hvg, hvd, hvp⟩ := hv
 have hvp' := hvp
 obtain ⟨ap, cp, rfl, hp1, hp2, -⟩ := hvp'
 unfold maxLen at hp2
 have HPS := Lib.hid (RdPrs.at6 hvp).2
 have HN := Lib.hid hn
 clear hvg hvd hvp hn
 obtain ⟨W0, hW0⟩ : ∃ W0, W0 = allocs w [.cells #[vg, vd, .slice ap m.procs.length cp, .int .i64 m.main] 26, .cells #[.int .i64 qa, .int .i64 qb, .int .i64 qc, .int .i64 qd] 27] := ⟨_, rfl⟩
 have B0 : Hid (Below w.heap.size w W0) := by rw [hW0]; exact allocs_below _ _
 have H0 : Hid (W0.heap[w.heap.size]? = some (.cells #[vg, vd, .slice ap m.procs.length cp, .int .i64 m.main] 26)) := by rw [hW0]; exact allocs_heap _ w 0 (by simp)
 have HQ : Hid (W0.heap[w.heap.size + 1]? = some (.cells #[.int .i64 qa, .int .i64 qb, .int .i64 qc, .int .i64 qd] 27)) := by rw [hW0]; exact allocs_heap _ w 1 (by simp)
 have HW0 : Hid ((w.alloc (.cells #[vg, vd, .slice ap m.procs.length cp, .int .i64 m.main] 26)).alloc (.cells #[.int .i64 qa, .int .i64 qb, .int .i64 qc, .int .i64 qd] 27) = W0) := hW0.symm
 clear hW0
 go_enter Try.func3, Try.ntmps3
 go_wp2_with fail
 rw [HW0.out]
 refine (HR.out W0 (Ext.below B0.out)).mono ?_
 rintro e w1 ⟨rfl, hb1⟩
 have H0 := Lib.hid ((hb1.block w.heap.size (Array.getElem?_eq_some_iff.1 H0.out).1).trans H0.out)
 have BB := Lib.hid (B0.out.trans (hb1.mono B0.out.size))
 have HQ := Lib.hid ((hb1.block _ (Array.getElem?_eq_some_iff.1 HQ.out).1).trans HQ.out)
 clear hb1 HR HW0 B0
 obtain ⟨y0, y1, y2, y3, l0⟩ := cl4 H0.out
 obtain ⟨u0, u1, u2, u3, lq⟩ := cl4 HQ.out
 cases hr : rightB m n
 ·clear hr
  go_wp2_with fail
  refine (awake21_c _).mono ?_
  rintro e w2 ⟨rfl, hb2⟩
  have BB := Lib.hid (BB.out.trans (hb2.mono BB.out.size))
  clear hb2
  go_wp2_with fail
  go_ret
  exact ⟨rfl, BB.out⟩
 ·obtain ⟨hfw, k, rfl, h1, h40, hokm⟩ := rightB_is hr
  clear hr
  have g1 : decide ((k : Int) < (m.procs.length : Int)) = true := decide_eq_true (by omega)
  have g2 : decide (k < m.procs.length) = true := decide_eq_true h1
  obtain ⟨bp, op, tnm, tvo, tvb, hap, hto, htb, t0, t1, t2, t3, t4, t5⟩ := HPS.out k h1
  subst hap
  have hAP := Lib.hid (alP_of hfw hokm HN.out h1 h40)
  have HNEW : Hid (∀ W, Ext w W → Calls Try.prog 14 #[.agg #[vg, vd, .slice (some ⟨bp, op, none⟩) m.procs.length cp, .int .i64 m.main], .int .i64 (k : Int)] W (NewP m (m.procs.getD k default) W)) := fun W hW =>
   new_c m _ k W (HV.out.ext hW) h1 hAP.out.r40 hAP.out.r0 hAP.out.objs hAP.out.globs (by have := hAP.out.procs; omega) hAP.out.ok hAP.out.pr ⟨hAP.out.blks, hAP.out.ins⟩
  have HOFC : Hid (∀ (U : Value) W, Ext w W → PrV W U (m.procs.getD k default) → Calls Try.prog 15 #[.agg #[vg, vd, .slice (some ⟨bp, op, none⟩) m.procs.length cp, .int .i64 m.main], U] W (OfP (m.procs.getD k default) ((m.procs.getD k default).objs.length + m.globs.length + 1) W)) := fun U W hW hU =>
   of21_c m _ _ U W (HV.out.ext hW) hU (by have := hAP.out.objs; omega) (by have := hAP.out.globs; omega) hAP.out.r0 (by have := hAP.out.r40; omega) hAP.out.all (by have := hAP.out.blks; omega) (fun b hb => ⟨by have := (hAP.out.ins b hb).1; omega, fun i hi => by have := (hAP.out.ins b hb).2 i hi; omega⟩)
  have hb0 := (okP_head hAP.out.ok).b1
  clear hokm hfw HPS HN h40
  generalize m.procs.getD k default = P at *
  obtain ⟨N, hN⟩ : ∃ N : Nat, P.regs = (N : Int) := ⟨P.regs.toNat, by have := hAP.out.r0; omega⟩
  have hNt : Hid (P.regs.toNat = N) := by show _ = _; omega
  have HNN := Lib.hid hN
  have hN40 : N ≤ 40 := by have := hAP.out.r40; omega
  rw [hN] at t3
  clear hN
  have HTO := Lib.hid hto
  have HBK := Lib.hid htb
  obtain ⟨ao, co, rfl, -⟩ := hto
  obtain ⟨ab, cb, rfl, -⟩ := htb
  have hE1 : Ext w w1 := Ext.below BB.out
  replace t0 := hE1 _ _ t0
  replace t1 := hE1 _ _ t1
  replace t2 := hE1 _ _ t2
  replace t3 := hE1 _ _ t3
  replace t4 := hE1 _ _ t4
  replace t5 := hE1 _ _ t5
  clear hE1
  have HPV : Hid (∀ W, Ext w W → PrV W (.agg #[.string tnm, .bool P.void, .int .i64 P.params, .int .i64 (N : Int), .slice ao P.objs.length co, .slice ab P.blks.length cb]) P) := fun W hW => ⟨tnm, _, _, by rw [HNN.out], HTO.out.ext hW, HBK.out.ext hW⟩
  go_wp2_with fail
  obtain ⟨W2, hW2⟩ : ∃ W2, W2 = w1.alloc (.cells #[.string tnm, .bool P.void, .int .i64 P.params, .int .i64 (N : Int), .slice ao P.objs.length co, .slice ab P.blks.length cb] 32) := ⟨_, rfl⟩
  have H2 : Hid (W2.heap[w1.heap.size]? = some (.cells #[.string tnm, .bool P.void, .int .i64 P.params, .int .i64 (N : Int), .slice ao P.objs.length co, .slice ab P.blks.length cb] 32)) := by rw [hW2]; exact heap_alloc_new w1 _
  have B2 : Hid (Below w1.heap.size w1 W2) := by rw [hW2]; exact below_alloc w1 _
  have H0 := Lib.hid ((B2.out.block _ l0).trans H0.out)
  have HQ := Lib.hid ((B2.out.block _ lq).trans HQ.out)
  have BB := Lib.hid (BB.out.trans (B2.out.mono BB.out.size))
  rw [← hW2]
  clear hW2 t0 t1 t2 t3 t4 t5 y0 y1 y2 y3 l0 u0 u1 u2 u3 lq B2
  generalize w1.heap.size = b5 at *
  obtain ⟨x0, x1, x2, x3, x4, x5, l2⟩ := cl6 H2.out
  obtain ⟨u0, u1, u2, u3, lq⟩ := cl4 HQ.out
  have gL : ((P.blks.length : Int) == 0) = false := beq_eq_false_iff_ne.2 (by omega)
  have hLs : P.blks.length ≤ 40 := hAP.out.blks
  go_quiet (fail)
  obtain ⟨i, hi, hei⟩ := modIdx qa P.blks.length hb0 (by omega)
  obtain ⟨j, hj, hej⟩ := modIdx qb P.blks.length hb0 (by omega)
  rw [hei, hej]
  clear hei hej gL
  generalize hW3 : World.drewN W2 _ = W3
  have hbg : Below W2.heap.size W2 W3 := by rw [← hW3]; exact drewN_b (Below.refl _ _) _
  clear hW3
  have H0 := Lib.hid ((hbg.block _ (Array.getElem?_eq_some_iff.1 H0.out).1).trans H0.out)
  have HQ := Lib.hid ((hbg.block _ (Array.getElem?_eq_some_iff.1 HQ.out).1).trans HQ.out)
  have H2 := Lib.hid ((hbg.block _ (Array.getElem?_eq_some_iff.1 H2.out).1).trans H2.out)
  have BB := Lib.hid (BB.out.trans (hbg.mono BB.out.size))
  clear x0 x1 x2 x3 x4 x5 l2 u0 u1 u2 u3 lq hbg
  obtain ⟨x0, x1, x2, x3, x4, x5, l2⟩ := cl6 H2.out
  obtain ⟨u0, u1, u2, u3, lq⟩ := cl4 HQ.out
  have HBK' := HBK.out
  obtain ⟨bb, bo, vi, hab, hvi, z0, -, -, -, -⟩ := (RdBks.at HBK').2 i hi
  obtain ⟨bb', bo', vj, hab', hvj, z1, -, -, -, -⟩ := (RdBks.at HBK').2 j hj
  clear HBK'
  subst hab
  simp only [Option.some.injEq, Addr.mk.injEq, and_true] at hab'
  obtain ⟨rfl, rfl⟩ := hab'
  have hmi : P.blks.getD i default ∈ P.blks := by simp [List.getD, hi]
  have hmj : P.blks.getD j default ∈ P.blks := by simp [List.getD, hj]
  have HBi := Lib.hid (hAP.out.ins _ hmi)
  have HBj := Lib.hid (hAP.out.ins _ hmj)
  have HIi : Hid (∀ x ∈ (P.blks.getD i default).ins, okI m P x = true) := fun x hx => hAP.out.okI hmi hx
  have HIj : Hid (∀ x ∈ (P.blks.getD j default).ins, okI m P x = true) := fun x hx => hAP.out.okI hmj hx
  have li := HBi.out.1
  have lj := HBj.out.1
  clear hmi hmj
  obtain ⟨ai, ci, rfl, i1, i2, i3⟩ := hvi
  obtain ⟨aj, cj, rfl, j1, j2, j3⟩ := hvj
  have HRi := Lib.hid (RdIns.at (w := w) (a := ai) (c := ci) (l := (P.blks.getD i default).ins) ⟨ai, ci, rfl, i1, i2, i3⟩).2
  have HRj := Lib.hid (RdIns.at (w := w) (a := aj) (c := cj) (l := (P.blks.getD j default).ins) ⟨aj, cj, rfl, j1, j2, j3⟩).2
  unfold maxLen at i2 j2
  have HZ0 := Lib.hid z0
  have HZ1 := Lib.hid z1
  clear i3 j3 z0 z1
  have z0 := (Ext.below BB.out) _ _ HZ0.out
  have z1 := (Ext.below BB.out) _ _ HZ1.out
  have gi1 : decide (i < P.blks.length) = true := decide_eq_true hi
  have gi2 : decide ((i : Int) < (P.blks.length : Int)) = true := decide_eq_true (by omega)
  have gj1 : decide (j < P.blks.length) = true := decide_eq_true hj
  have gj2 : decide ((j : Int) < (P.blks.length : Int)) = true := decide_eq_true (by omega)
  generalize (P.blks.getD i default).ins = Li at *
  generalize (P.blks.getD j default).ins = Lj at *
  go_wp2_with fail
  go_quiet (fail)
  generalize hW4 : World.drewN W3 _ = W4
  have hbg : Below W3.heap.size W3 W4 := by rw [← hW4]; exact drewN_b (Below.refl _ _) _
  clear hW4 z0 z1
  have H0 := Lib.hid ((hbg.block _ (Array.getElem?_eq_some_iff.1 H0.out).1).trans H0.out)
  have HQ := Lib.hid ((hbg.block _ (Array.getElem?_eq_some_iff.1 HQ.out).1).trans HQ.out)
  have H2 := Lib.hid ((hbg.block _ (Array.getElem?_eq_some_iff.1 H2.out).1).trans H2.out)
  have BB := Lib.hid (BB.out.trans (hbg.mono BB.out.size))
  clear x0 x1 x2 x3 x4 x5 l2 u0 u1 u2 u3 lq hbg
  obtain ⟨x0, x1, x2, x3, x4, x5, l2⟩ := cl6 H2.out
  obtain ⟨u0, u1, u2, u3, lq⟩ := cl4 HQ.out
  by_cases hLi : Li.length = 0
  ·have gz : ((Li.length : Int) == 0) = true := beq_iff_eq.2 (by omega)
   clear hLi
   go_wp2_with fail
   refine (awake21_c _).mono ?_
   rintro e w5 ⟨rfl, hb5⟩
   have BB := Lib.hid (BB.out.trans (hb5.mono BB.out.size))
   clear hb5
   go_wp2_with fail
   go_ret
   exact ⟨rfl, BB.out⟩
  by_cases hLj : Lj.length = 0
  ·have gz : ((Li.length : Int) == 0) = false := beq_eq_false_iff_ne.2 (by omega)
   have gz2 : ((Lj.length : Int) == 0) = true := beq_iff_eq.2 (by omega)
   clear hLi hLj
   go_wp2_with fail
   refine (awake21_c _).mono ?_
   rintro e w5 ⟨rfl, hb5⟩
   have BB := Lib.hid (BB.out.trans (hb5.mono BB.out.size))
   clear hb5
   go_wp2_with fail
   go_ret
   exact ⟨rfl, BB.out⟩
  have gz : ((Li.length : Int) == 0) = false := beq_eq_false_iff_ne.2 (by omega)
  have gz2 : ((Lj.length : Int) == 0) = false := beq_eq_false_iff_ne.2 (by omega)
  obtain ⟨s, hs, hes⟩ := modIdx qc Li.length (by omega) (by omega)
  obtain ⟨t, ht, het⟩ := modIdx qd Lj.length (by omega) (by omega)
  have HES := Lib.hid hes
  have HET := Lib.hid het
  clear hes het hLi hLj
  obtain ⟨ib, io, va, hav, lib, hva, c0, c1, c2, c3, c4, c5, c6, c7, c8, c9, c10⟩ := HRi.out s hs
  obtain ⟨jb, jo, va', hav', ljb, hva', k0, k1, k2, k3, k4, k5, k6, k7, k8, k9, k10⟩ := HRj.out t ht
  subst hav hav'
  have hIa : okI m P (Li.getD s default) = true := HIi.out _ (by simp [List.getD, hs])
  have hIb : okI m P (Lj.getD t default) = true := HIj.out _ (by simp [List.getD, ht])
  have HIa := Lib.hid hIa
  have HIb := Lib.hid hIb
  clear hIa hIb
  generalize Li.getD s default = Ia at *
  generalize Lj.getD t default = Ib at *
  have HVA := Lib.hid hva
  have HVB := Lib.hid hva'
  have HIA : Hid (∀ x y : Value, x = y → x = y) := fun _ _ h => h
  clear HIA
  have z0 := (Ext.below BB.out) _ _ HZ0.out
  have z1 := (Ext.below BB.out) _ _ HZ1.out
  have lift : ∀ {a : Addr} {u : Value}, w.cell? a = some u → W4.cell? a = some u := fun h => (Ext.below BB.out) _ _ h
  have c0 := lift c0
  have c1 := lift c1
  have c2 := lift c2
  have c3 := lift c3
  have c4 := lift c4
  have c5 := lift c5
  have c6 := lift c6
  have c7 := lift c7
  have c8 := lift c8
  have c9 := lift c9
  have c10 := lift c10
  have k0 := lift k0
  have k1 := lift k1
  have k2 := lift k2
  have k3 := lift k3
  have k4 := lift k4
  have k5 := lift k5
  have k6 := lift k6
  have k7 := lift k7
  have k8 := lift k8
  have k9 := lift k9
  have k10 := lift k10
  clear lift
  have lbb : bb < W4.heap.size := World.block_lt_of_cell? _ _ z0
  have lib : ib < W4.heap.size := World.block_lt_of_cell? _ _ c0
  have ljb : jb < W4.heap.size := World.block_lt_of_cell? _ _ k0
  obtain ⟨op, d, a, b, fn, obj, off, size, num, args, lg⟩ := Ia
  obtain ⟨op', d', a', b', fn', obj', off', size', num', args', lg'⟩ := Ib
  dsimp only at c0 c1 c2 c3 c4 c5 c6 c7 c8 c9 c10 k0 k1 k2 k3 k4 k5 k6 k7 k8 k9 k10 HVA HVB
  have gs1 : decide (s < Li.length) = true := decide_eq_true hs
  have gs2 : decide ((s : Int) < (Li.length : Int)) = true := decide_eq_true (by omega)
  have gt1 : decide (t < Lj.length) = true := decide_eq_true ht
  have gt2 : decide ((t : Int) < (Lj.length : Int)) = true := decide_eq_true (by omega)
  obtain ⟨aa, ac, rfl, -⟩ := hva
  obtain ⟨aa', ac', rfl, -⟩ := hva'
  go_wp2_with fail
  go_cut [12, 13] from 77 to 108 (fun t12 t13 wx => TwoIn W4 #[.int .i64 op, .int .i64 d, .int .i64 a, .int .i64 b, .int .i64 fn, .int .i64 obj, .int .i64 off, .int .i64 size, .int .u32 num, .slice aa args.length ac, .bool lg] #[.int .i64 op', .int .i64 d', .int .i64 a', .int .i64 b', .int .i64 fn', .int .i64 obj', .int .i64 off', .int .i64 size', .int .u32 num', .slice aa' args'.length ac', .bool lg'] t12 t13 wx)
  case first =>
   refine wp_region_yard (fun z => z < W4.heap.size) (by kernel_rfl) ?_
   refine Y_mobs [0, 1, 2, 3, 4, 5, 6, 7, 8, 9, 10, 11, 12, 13, 16, 17, 18, 19, 20, 21, 22, 23, 24, 25, 26, 27, 28, 29] _ _ _ _ (by kernel_rfl) ?_
   simp only [List.map_cons, List.map_nil, List.getElem?_toArray, List.getElem?_cons_succ, List.getElem?_cons_zero, Option.getD_some, List.size_toArray, List.length_cons, List.length_nil, Nat.reduceAdd, Nat.reduceSub]
   repeat (go_big_quiet_step (fail))
   refine wpQuiet_nil ?_
   rw [HES.out, HET.out]
   refine Y_mobs [14, 15, 30, 31] _ _ _ _ (by kernel_rfl) ?_
   simp only [List.map_cons, List.map_nil, List.getElem?_toArray, List.getElem?_cons_succ, List.getElem?_cons_zero, Option.getD_some, List.size_toArray, List.length_cons, List.length_nil, Nat.reduceAdd, Nat.reduceSub]
   repeat (go_big_quiet_step (fail))
   refine wpQuiet_nil ?_
   clear c0 c1 c2 c3 c4 c5 c6 c7 c8 c9 c10 k0 k1 k2 k3 k4 k5 k6 k7 k8 k9 k10 gs1 gs2 gt1 gt2 HES HET
   have BC : Hid (Below W4.heap.size W4 W4) := Below.refl _ _
   refine Y_loud2 32 33 _ _ rfl rfl (by kernel_rfl) ?_ ?_
   ·simp only [List.getElem_toArray, List.getElem_cons_succ, List.getElem_cons_zero]
    intro wj hj
    have BC := Lib.hid (BC.out.trans (hj.mono BC.out.size))
    go_wp2_with fail
    refine ⟨KeepY.below (below_alloc _ _), ?_⟩
    have hA := below_alloc wj (.cells #[.int .i64 0, .int .i64 0, .int .i64 0, .int .i64 0, .int .i64 0, .int .i64 0, .int .i64 0, .int .i64 0, .int .u32 0, .slice none 0 0, .bool false] 39)
    have Zb1 : Hid ((wj.alloc (.cells #[.int .i64 0, .int .i64 0, .int .i64 0, .int .i64 0, .int .i64 0, .int .i64 0, .int .i64 0, .int .i64 0, .int .u32 0, .slice none 0 0, .bool false] 39)).heap[wj.heap.size]? = _) := heap_alloc_new wj _
    obtain ⟨b1, hb1⟩ : ∃ b, b = wj.heap.size := ⟨_, rfl⟩
    rw [← hb1] at Zb1 ⊢
    have lb1 : W4.heap.size ≤ b1 := by rw [hb1]; exact BC.out.size
    have hlt : b1 < (wj.alloc (.cells #[.int .i64 0, .int .i64 0, .int .i64 0, .int .i64 0, .int .i64 0, .int .i64 0, .int .i64 0, .int .i64 0, .int .u32 0, .slice none 0 0, .bool false] 39)).heap.size := by rw [hb1]; simp
    have BC := Lib.hid (BC.out.trans (hA.mono BC.out.size))
    generalize wj.alloc (.cells #[.int .i64 0, .int .i64 0, .int .i64 0, .int .i64 0, .int .i64 0, .int .i64 0, .int .i64 0, .int .i64 0, .int .u32 0, .slice none 0 0, .bool false] 39) = w5 at *
    clear hA hj hb1
    refine Y_loud1 33 _ rfl (by kernel_rfl) ?_
    simp only [List.getElem_toArray, List.getElem_cons_succ, List.getElem_cons_zero]
    intro wj hj
    have BC := Lib.hid (BC.out.trans (hj.mono BC.out.size))
    have Zb1 := Lib.hid ((hj.block _ hlt).trans Zb1.out)
    have hlt1 : b1 < wj.heap.size := Nat.lt_of_lt_of_le hlt hj.size
    go_wp2_with fail
    refine ⟨KeepY.below (below_alloc _ _), ?_⟩
    have hA := below_alloc wj (.cells #[.int .i64 0, .int .i64 0, .int .i64 0, .int .i64 0, .int .i64 0, .int .i64 0, .int .i64 0, .int .i64 0, .int .u32 0, .slice none 0 0, .bool false] 39)
    have Zb2 : Hid ((wj.alloc (.cells #[.int .i64 0, .int .i64 0, .int .i64 0, .int .i64 0, .int .i64 0, .int .i64 0, .int .i64 0, .int .i64 0, .int .u32 0, .slice none 0 0, .bool false] 39)).heap[wj.heap.size]? = _) := heap_alloc_new wj _
    obtain ⟨b2, hb2⟩ : ∃ b, b = wj.heap.size := ⟨_, rfl⟩
    rw [← hb2] at Zb2 ⊢
    have lb2 : W4.heap.size ≤ b2 := by rw [hb2]; exact BC.out.size
    have hlt : b2 < (wj.alloc (.cells #[.int .i64 0, .int .i64 0, .int .i64 0, .int .i64 0, .int .i64 0, .int .i64 0, .int .i64 0, .int .i64 0, .int .u32 0, .slice none 0 0, .bool false] 39)).heap.size := by rw [hb2]; simp
    have BC := Lib.hid (BC.out.trans (hA.mono BC.out.size))
    have Zb1 := Lib.hid ((hA.block _ hlt1).trans Zb1.out)
    have hne : b1 ≠ b2 := by omega
    generalize wj.alloc (.cells #[.int .i64 0, .int .i64 0, .int .i64 0, .int .i64 0, .int .i64 0, .int .i64 0, .int .i64 0, .int .i64 0, .int .u32 0, .slice none 0 0, .bool false] 39) = w6 at *
    clear hA hj hb2 hlt hlt1
    refine Y_loud1 34 _ rfl (by kernel_rfl) ?_
    simp only [List.getElem_toArray, List.getElem_cons_succ, List.getElem_cons_zero]
    intro wj hj
    have Zb1 := Lib.hid ((hj.block _ (Array.getElem?_eq_some_iff.1 Zb1.out).1).trans Zb1.out)
    have Zb2 := Lib.hid ((hj.block _ (Array.getElem?_eq_some_iff.1 Zb2.out).1).trans Zb2.out)
    have BC := Lib.hid (BC.out.trans (hj.mono BC.out.size))
    obtain ⟨z0, z1, z2, z3, z4, z5, z6, z7, z8, z9, z10, zl⟩ := cl11 Zb1.out
    have q0 := frozen_of_heap Zb1.out 0
    have q1 := frozen_of_heap Zb1.out 1
    have q2 := frozen_of_heap Zb1.out 2
    have q3 := frozen_of_heap Zb1.out 3
    have q4 := frozen_of_heap Zb1.out 4
    have q5 := frozen_of_heap Zb1.out 5
    have q6 := frozen_of_heap Zb1.out 6
    have q7 := frozen_of_heap Zb1.out 7
    have q8 := frozen_of_heap Zb1.out 8
    have q9 := frozen_of_heap Zb1.out 9
    have q10 := frozen_of_heap Zb1.out 10
    go_wp2_with fail
    have NZ := Lib.hid (set11_heap Zb1.out (.int .i64 op) (.int .i64 d) (.int .i64 a) (.int .i64 b) (.int .i64 fn) (.int .i64 obj) (.int .i64 off) (.int .i64 size) (.int .u32 num) (.slice aa args.length ac) (.bool lg))
    have Zb2 := Lib.hid (set11_other Zb2.out hne.symm (.int .i64 op) (.int .i64 d) (.int .i64 a) (.int .i64 b) (.int .i64 fn) (.int .i64 obj) (.int .i64 off) (.int .i64 size) (.int .u32 num) (.slice aa args.length ac) (.bool lg))
    have BC := Lib.hid (set11_below BC.out lb1 (.int .i64 op) (.int .i64 d) (.int .i64 a) (.int .i64 b) (.int .i64 fn) (.int .i64 obj) (.int .i64 off) (.int .i64 size) (.int .u32 num) (.slice aa args.length ac) (.bool lg))
    have Zb1 := NZ
    clear NZ
    refine ⟨set11_keepY (KeepY.refl _ wj) (by omega) (.int .i64 op) (.int .i64 d) (.int .i64 a) (.int .i64 b) (.int .i64 fn) (.int .i64 obj) (.int .i64 off) (.int .i64 size) (.int .u32 num) (.slice aa args.length ac) (.bool lg), ?_⟩
    generalize ((((((((((wj.setCell ⟨b1, 0, none⟩ (.int .i64 op)).setCell ⟨b1, 1, none⟩ (.int .i64 d)).setCell ⟨b1, 2, none⟩ (.int .i64 a)).setCell ⟨b1, 3, none⟩ (.int .i64 b)).setCell ⟨b1, 4, none⟩ (.int .i64 fn)).setCell ⟨b1, 5, none⟩ (.int .i64 obj)).setCell ⟨b1, 6, none⟩ (.int .i64 off)).setCell ⟨b1, 7, none⟩ (.int .i64 size)).setCell ⟨b1, 8, none⟩ (.int .u32 num)).setCell ⟨b1, 9, none⟩ (.slice aa args.length ac)).setCell ⟨b1, 10, none⟩ (.bool lg) = w7 at *
    clear hj z0 z1 z2 z3 z4 z5 z6 z7 z8 z9 z10 zl q0 q1 q2 q3 q4 q5 q6 q7 q8 q9 q10
    refine Y_loud1 35 _ rfl (by kernel_rfl) ?_
    simp only [List.getElem_toArray, List.getElem_cons_succ, List.getElem_cons_zero]
    intro wj hj
    have Zb1 := Lib.hid ((hj.block _ (Array.getElem?_eq_some_iff.1 Zb1.out).1).trans Zb1.out)
    have Zb2 := Lib.hid ((hj.block _ (Array.getElem?_eq_some_iff.1 Zb2.out).1).trans Zb2.out)
    have BC := Lib.hid (BC.out.trans (hj.mono BC.out.size))
    obtain ⟨z0, z1, z2, z3, z4, z5, z6, z7, z8, z9, z10, zl⟩ := cl11 Zb2.out
    have q0 := frozen_of_heap Zb2.out 0
    have q1 := frozen_of_heap Zb2.out 1
    have q2 := frozen_of_heap Zb2.out 2
    have q3 := frozen_of_heap Zb2.out 3
    have q4 := frozen_of_heap Zb2.out 4
    have q5 := frozen_of_heap Zb2.out 5
    have q6 := frozen_of_heap Zb2.out 6
    have q7 := frozen_of_heap Zb2.out 7
    have q8 := frozen_of_heap Zb2.out 8
    have q9 := frozen_of_heap Zb2.out 9
    have q10 := frozen_of_heap Zb2.out 10
    go_wp2_with fail
    have NZ := Lib.hid (set11_heap Zb2.out (.int .i64 op') (.int .i64 d') (.int .i64 a') (.int .i64 b') (.int .i64 fn') (.int .i64 obj') (.int .i64 off') (.int .i64 size') (.int .u32 num') (.slice aa' args'.length ac') (.bool lg'))
    have Zb1 := Lib.hid (set11_other Zb1.out hne (.int .i64 op') (.int .i64 d') (.int .i64 a') (.int .i64 b') (.int .i64 fn') (.int .i64 obj') (.int .i64 off') (.int .i64 size') (.int .u32 num') (.slice aa' args'.length ac') (.bool lg'))
    have BC := Lib.hid (set11_below BC.out lb2 (.int .i64 op') (.int .i64 d') (.int .i64 a') (.int .i64 b') (.int .i64 fn') (.int .i64 obj') (.int .i64 off') (.int .i64 size') (.int .u32 num') (.slice aa' args'.length ac') (.bool lg'))
    have Zb2 := NZ
    clear NZ
    refine ⟨set11_keepY (KeepY.refl _ wj) (by omega) (.int .i64 op') (.int .i64 d') (.int .i64 a') (.int .i64 b') (.int .i64 fn') (.int .i64 obj') (.int .i64 off') (.int .i64 size') (.int .u32 num') (.slice aa' args'.length ac') (.bool lg'), ?_⟩
    generalize ((((((((((wj.setCell ⟨b2, 0, none⟩ (.int .i64 op')).setCell ⟨b2, 1, none⟩ (.int .i64 d')).setCell ⟨b2, 2, none⟩ (.int .i64 a')).setCell ⟨b2, 3, none⟩ (.int .i64 b')).setCell ⟨b2, 4, none⟩ (.int .i64 fn')).setCell ⟨b2, 5, none⟩ (.int .i64 obj')).setCell ⟨b2, 6, none⟩ (.int .i64 off')).setCell ⟨b2, 7, none⟩ (.int .i64 size')).setCell ⟨b2, 8, none⟩ (.int .u32 num')).setCell ⟨b2, 9, none⟩ (.slice aa' args'.length ac')).setCell ⟨b2, 10, none⟩ (.bool lg') = w8 at *
    clear hj z0 z1 z2 z3 z4 z5 z6 z7 z8 z9 z10 zl q0 q1 q2 q3 q4 q5 q6 q7 q8 q9 q10
    refine Y_done (by kernel_rfl) (fun wj hj => ?_) _
    have Zb1 := Lib.hid ((hj.block _ (Array.getElem?_eq_some_iff.1 Zb1.out).1).trans Zb1.out)
    have Zb2 := Lib.hid ((hj.block _ (Array.getElem?_eq_some_iff.1 Zb2.out).1).trans Zb2.out)
    have BC := Lib.hid (BC.out.trans (hj.mono BC.out.size))
    go_wp2_with fail
    go_meet
    case rel => exact ⟨b1, b2, rfl, rfl, Zb1, Zb2, BC⟩
   ·simp only [List.getElem_toArray, List.getElem_cons_succ, List.getElem_cons_zero]
    intro wj hj
    have BC := Lib.hid (BC.out.trans (hj.mono BC.out.size))
    go_wp2_with fail
    refine ⟨KeepY.below (below_alloc _ _), ?_⟩
    have hA := below_alloc wj (.cells #[.int .i64 0, .int .i64 0, .int .i64 0, .int .i64 0, .int .i64 0, .int .i64 0, .int .i64 0, .int .i64 0, .int .u32 0, .slice none 0 0, .bool false] 39)
    have Zb2 : Hid ((wj.alloc (.cells #[.int .i64 0, .int .i64 0, .int .i64 0, .int .i64 0, .int .i64 0, .int .i64 0, .int .i64 0, .int .i64 0, .int .u32 0, .slice none 0 0, .bool false] 39)).heap[wj.heap.size]? = _) := heap_alloc_new wj _
    obtain ⟨b2, hb2⟩ : ∃ b, b = wj.heap.size := ⟨_, rfl⟩
    rw [← hb2] at Zb2 ⊢
    have lb2 : W4.heap.size ≤ b2 := by rw [hb2]; exact BC.out.size
    have hlt : b2 < (wj.alloc (.cells #[.int .i64 0, .int .i64 0, .int .i64 0, .int .i64 0, .int .i64 0, .int .i64 0, .int .i64 0, .int .i64 0, .int .u32 0, .slice none 0 0, .bool false] 39)).heap.size := by rw [hb2]; simp
    have BC := Lib.hid (BC.out.trans (hA.mono BC.out.size))
    generalize wj.alloc (.cells #[.int .i64 0, .int .i64 0, .int .i64 0, .int .i64 0, .int .i64 0, .int .i64 0, .int .i64 0, .int .i64 0, .int .u32 0, .slice none 0 0, .bool false] 39) = w5 at *
    clear hA hj hb2
    refine Y_loud1 32 _ rfl (by kernel_rfl) ?_
    simp only [List.getElem_toArray, List.getElem_cons_succ, List.getElem_cons_zero]
    intro wj hj
    have BC := Lib.hid (BC.out.trans (hj.mono BC.out.size))
    have Zb2 := Lib.hid ((hj.block _ hlt).trans Zb2.out)
    have hlt1 : b2 < wj.heap.size := Nat.lt_of_lt_of_le hlt hj.size
    go_wp2_with fail
    refine ⟨KeepY.below (below_alloc _ _), ?_⟩
    have hA := below_alloc wj (.cells #[.int .i64 0, .int .i64 0, .int .i64 0, .int .i64 0, .int .i64 0, .int .i64 0, .int .i64 0, .int .i64 0, .int .u32 0, .slice none 0 0, .bool false] 39)
    have Zb1 : Hid ((wj.alloc (.cells #[.int .i64 0, .int .i64 0, .int .i64 0, .int .i64 0, .int .i64 0, .int .i64 0, .int .i64 0, .int .i64 0, .int .u32 0, .slice none 0 0, .bool false] 39)).heap[wj.heap.size]? = _) := heap_alloc_new wj _
    obtain ⟨b1, hb1⟩ : ∃ b, b = wj.heap.size := ⟨_, rfl⟩
    rw [← hb1] at Zb1 ⊢
    have lb1 : W4.heap.size ≤ b1 := by rw [hb1]; exact BC.out.size
    have hlt : b1 < (wj.alloc (.cells #[.int .i64 0, .int .i64 0, .int .i64 0, .int .i64 0, .int .i64 0, .int .i64 0, .int .i64 0, .int .i64 0, .int .u32 0, .slice none 0 0, .bool false] 39)).heap.size := by rw [hb1]; simp
    have BC := Lib.hid (BC.out.trans (hA.mono BC.out.size))
    have Zb2 := Lib.hid ((hA.block _ hlt1).trans Zb2.out)
    have hne : b1 ≠ b2 := by omega
    generalize wj.alloc (.cells #[.int .i64 0, .int .i64 0, .int .i64 0, .int .i64 0, .int .i64 0, .int .i64 0, .int .i64 0, .int .i64 0, .int .u32 0, .slice none 0 0, .bool false] 39) = w6 at *
    clear hA hj hb1 hlt hlt1
    refine Y_loud1 34 _ rfl (by kernel_rfl) ?_
    simp only [List.getElem_toArray, List.getElem_cons_succ, List.getElem_cons_zero]
    intro wj hj
    have Zb1 := Lib.hid ((hj.block _ (Array.getElem?_eq_some_iff.1 Zb1.out).1).trans Zb1.out)
    have Zb2 := Lib.hid ((hj.block _ (Array.getElem?_eq_some_iff.1 Zb2.out).1).trans Zb2.out)
    have BC := Lib.hid (BC.out.trans (hj.mono BC.out.size))
    obtain ⟨z0, z1, z2, z3, z4, z5, z6, z7, z8, z9, z10, zl⟩ := cl11 Zb1.out
    have q0 := frozen_of_heap Zb1.out 0
    have q1 := frozen_of_heap Zb1.out 1
    have q2 := frozen_of_heap Zb1.out 2
    have q3 := frozen_of_heap Zb1.out 3
    have q4 := frozen_of_heap Zb1.out 4
    have q5 := frozen_of_heap Zb1.out 5
    have q6 := frozen_of_heap Zb1.out 6
    have q7 := frozen_of_heap Zb1.out 7
    have q8 := frozen_of_heap Zb1.out 8
    have q9 := frozen_of_heap Zb1.out 9
    have q10 := frozen_of_heap Zb1.out 10
    go_wp2_with fail
    have NZ := Lib.hid (set11_heap Zb1.out (.int .i64 op) (.int .i64 d) (.int .i64 a) (.int .i64 b) (.int .i64 fn) (.int .i64 obj) (.int .i64 off) (.int .i64 size) (.int .u32 num) (.slice aa args.length ac) (.bool lg))
    have Zb2 := Lib.hid (set11_other Zb2.out hne.symm (.int .i64 op) (.int .i64 d) (.int .i64 a) (.int .i64 b) (.int .i64 fn) (.int .i64 obj) (.int .i64 off) (.int .i64 size) (.int .u32 num) (.slice aa args.length ac) (.bool lg))
    have BC := Lib.hid (set11_below BC.out lb1 (.int .i64 op) (.int .i64 d) (.int .i64 a) (.int .i64 b) (.int .i64 fn) (.int .i64 obj) (.int .i64 off) (.int .i64 size) (.int .u32 num) (.slice aa args.length ac) (.bool lg))
    have Zb1 := NZ
    clear NZ
    refine ⟨set11_keepY (KeepY.refl _ wj) (by omega) (.int .i64 op) (.int .i64 d) (.int .i64 a) (.int .i64 b) (.int .i64 fn) (.int .i64 obj) (.int .i64 off) (.int .i64 size) (.int .u32 num) (.slice aa args.length ac) (.bool lg), ?_⟩
    generalize ((((((((((wj.setCell ⟨b1, 0, none⟩ (.int .i64 op)).setCell ⟨b1, 1, none⟩ (.int .i64 d)).setCell ⟨b1, 2, none⟩ (.int .i64 a)).setCell ⟨b1, 3, none⟩ (.int .i64 b)).setCell ⟨b1, 4, none⟩ (.int .i64 fn)).setCell ⟨b1, 5, none⟩ (.int .i64 obj)).setCell ⟨b1, 6, none⟩ (.int .i64 off)).setCell ⟨b1, 7, none⟩ (.int .i64 size)).setCell ⟨b1, 8, none⟩ (.int .u32 num)).setCell ⟨b1, 9, none⟩ (.slice aa args.length ac)).setCell ⟨b1, 10, none⟩ (.bool lg) = w7 at *
    clear hj z0 z1 z2 z3 z4 z5 z6 z7 z8 z9 z10 zl q0 q1 q2 q3 q4 q5 q6 q7 q8 q9 q10
    refine Y_loud1 35 _ rfl (by kernel_rfl) ?_
    simp only [List.getElem_toArray, List.getElem_cons_succ, List.getElem_cons_zero]
    intro wj hj
    have Zb1 := Lib.hid ((hj.block _ (Array.getElem?_eq_some_iff.1 Zb1.out).1).trans Zb1.out)
    have Zb2 := Lib.hid ((hj.block _ (Array.getElem?_eq_some_iff.1 Zb2.out).1).trans Zb2.out)
    have BC := Lib.hid (BC.out.trans (hj.mono BC.out.size))
    obtain ⟨z0, z1, z2, z3, z4, z5, z6, z7, z8, z9, z10, zl⟩ := cl11 Zb2.out
    have q0 := frozen_of_heap Zb2.out 0
    have q1 := frozen_of_heap Zb2.out 1
    have q2 := frozen_of_heap Zb2.out 2
    have q3 := frozen_of_heap Zb2.out 3
    have q4 := frozen_of_heap Zb2.out 4
    have q5 := frozen_of_heap Zb2.out 5
    have q6 := frozen_of_heap Zb2.out 6
    have q7 := frozen_of_heap Zb2.out 7
    have q8 := frozen_of_heap Zb2.out 8
    have q9 := frozen_of_heap Zb2.out 9
    have q10 := frozen_of_heap Zb2.out 10
    go_wp2_with fail
    have NZ := Lib.hid (set11_heap Zb2.out (.int .i64 op') (.int .i64 d') (.int .i64 a') (.int .i64 b') (.int .i64 fn') (.int .i64 obj') (.int .i64 off') (.int .i64 size') (.int .u32 num') (.slice aa' args'.length ac') (.bool lg'))
    have Zb1 := Lib.hid (set11_other Zb1.out hne (.int .i64 op') (.int .i64 d') (.int .i64 a') (.int .i64 b') (.int .i64 fn') (.int .i64 obj') (.int .i64 off') (.int .i64 size') (.int .u32 num') (.slice aa' args'.length ac') (.bool lg'))
    have BC := Lib.hid (set11_below BC.out lb2 (.int .i64 op') (.int .i64 d') (.int .i64 a') (.int .i64 b') (.int .i64 fn') (.int .i64 obj') (.int .i64 off') (.int .i64 size') (.int .u32 num') (.slice aa' args'.length ac') (.bool lg'))
    have Zb2 := NZ
    clear NZ
    refine ⟨set11_keepY (KeepY.refl _ wj) (by omega) (.int .i64 op') (.int .i64 d') (.int .i64 a') (.int .i64 b') (.int .i64 fn') (.int .i64 obj') (.int .i64 off') (.int .i64 size') (.int .u32 num') (.slice aa' args'.length ac') (.bool lg'), ?_⟩
    generalize ((((((((((wj.setCell ⟨b2, 0, none⟩ (.int .i64 op')).setCell ⟨b2, 1, none⟩ (.int .i64 d')).setCell ⟨b2, 2, none⟩ (.int .i64 a')).setCell ⟨b2, 3, none⟩ (.int .i64 b')).setCell ⟨b2, 4, none⟩ (.int .i64 fn')).setCell ⟨b2, 5, none⟩ (.int .i64 obj')).setCell ⟨b2, 6, none⟩ (.int .i64 off')).setCell ⟨b2, 7, none⟩ (.int .i64 size')).setCell ⟨b2, 8, none⟩ (.int .u32 num')).setCell ⟨b2, 9, none⟩ (.slice aa' args'.length ac')).setCell ⟨b2, 10, none⟩ (.bool lg') = w8 at *
    clear hj z0 z1 z2 z3 z4 z5 z6 z7 z8 z9 z10 zl q0 q1 q2 q3 q4 q5 q6 q7 q8 q9 q10
    refine Y_done (by kernel_rfl) (fun wj hj => ?_) _
    have Zb1 := Lib.hid ((hj.block _ (Array.getElem?_eq_some_iff.1 Zb1.out).1).trans Zb1.out)
    have Zb2 := Lib.hid ((hj.block _ (Array.getElem?_eq_some_iff.1 Zb2.out).1).trans Zb2.out)
    have BC := Lib.hid (BC.out.trans (hj.mono BC.out.size))
    go_wp2_with fail
    go_meet
    case rel => exact ⟨b1, b2, rfl, rfl, Zb1, Zb2, BC⟩
  case rest =>
   obtain ⟨b12, b13, rfl, rfl, H12, H13, BC⟩ := hcut
   have hbg := BC.out
   have H0 := Lib.hid ((hbg.block _ (Array.getElem?_eq_some_iff.1 H0.out).1).trans H0.out)
   have HQ := Lib.hid ((hbg.block _ (Array.getElem?_eq_some_iff.1 HQ.out).1).trans HQ.out)
   have H2 := Lib.hid ((hbg.block _ (Array.getElem?_eq_some_iff.1 H2.out).1).trans H2.out)
   have BB := Lib.hid (BB.out.trans (hbg.mono BB.out.size))
   clear x0 x1 x2 x3 x4 x5 l2 u0 u1 u2 u3 lq hbg
   obtain ⟨x0, x1, x2, x3, x4, x5, l2⟩ := cl6 H2.out
   obtain ⟨u0, u1, u2, u3, lq⟩ := cl4 HQ.out
   clear BC c0 c1 c2 c3 c4 c5 c6 c7 c8 c9 c10 k0 k1 k2 k3 k4 k5 k6 k7 k8 k9 k10 gs1 gs2 gt1 gt2 HES HET u0 u1 u2 u3 lq HQ z0 z1
   obtain ⟨y0, y1, y2, y3, l0⟩ := cl4 H0.out
   go_wp2_with fail
   refine (HNEW.out wc (Ext.below BB.out)).mono ?_
   rintro e w5 ⟨K, x, sp, rfl, V, hkp, hbl, hT, hE, hC, hsp, hkN⟩
   have V := Lib.hid V
   have hbg := V.out.below
   have H0 := Lib.hid ((hbg.block _ (Array.getElem?_eq_some_iff.1 H0.out).1).trans H0.out)
   have H2 := Lib.hid ((hbg.block _ (Array.getElem?_eq_some_iff.1 H2.out).1).trans H2.out)
   have H12 := Lib.hid ((hbg.block _ (Array.getElem?_eq_some_iff.1 H12.out).1).trans H12.out)
   have H13 := Lib.hid ((hbg.block _ (Array.getElem?_eq_some_iff.1 H13.out).1).trans H13.out)
   have BB := Lib.hid (BB.out.trans (hbg.mono BB.out.size))
   (try clear c0 c1 c2 c3 c4 c5 c6 c7 c8 c9 c10 lc k0 k1 k2' k3 k4 k5 k6 k7 k8 k9 k10 lk)
   clear x0 x1 x2 x3 x4 x5 l2 y0 y1 y2 y3 l0 hbg
   obtain ⟨x0, x1, x2, x3, x4, x5, l2⟩ := cl6 H2.out
   obtain ⟨y0, y1, y2, y3, l0⟩ := cl4 H0.out
   obtain ⟨c0, c1, c2, c3, c4, c5, c6, c7, c8, c9, c10, lc⟩ := cl11 H12.out
   obtain ⟨k0, k1, k2', k3, k4, k5, k6, k7, k8, k9, k10, lk⟩ := cl11 H13.out
   go_wp2_with fail
   refine (HOFC.out _ w5 (Ext.below BB.out) (HPV.out w5 (Ext.below BB.out))).mono ?_
   rintro e w6 ⟨k2, y, rfl, A, hn2, hT2, hEy, hCy⟩
   have HEN : Hid (AlEnds P K.T x y) := AlEnds.of hE (by rw [hT]; exact hEy) hC hCy (by rw [hT]; exact hAP.out.cons)
   have hKT : K.T ≤ 64 := by have := hAP.out.objs; have := hAP.out.globs; omega
   have hTT : Hid (k2.T = K.T) := by show _ = _; rw [hT2, hT]
   have hnN : Hid (k2.n = N) := by show _ = _; rw [hn2]; exact hNt.out
   have hbN : Hid (K.bs.length = N) := by show _ = _; rw [hbl]; exact hNt.out
   have HEX : Hid (∀ r, exV K sp r = exR P r) := fun r => by rw [hAP.out.exR_eq]; exact exV_exF hbl hAP.out.r0 hsp r
   obtain ⟨av, cv, hvr⟩ : ∃ a c, k2.vr = .slice a N c := rowT_form2 A.tab (by rw [List.length_map, A.rl]; exact hnN.out)
   have HWA : Hid (∀ W, AlM w5 W k2 y → Ext w W → Calls Try.prog 16 #[.agg #[.slice av N cv, .slice (some ⟨k2.ro.1, 0, none⟩) K.T k2.ro.2], .agg #[.string tnm, .bool P.void, .int .i64 P.params, .int .i64 (N : Int), .slice ao P.objs.length co, .slice (some ⟨bb, bo, none⟩) P.blks.length cb], .agg #[.int .i64 op, .int .i64 d, .int .i64 a, .int .i64 b, .int .i64 fn, .int .i64 obj, .int .i64 off, .int .i64 size, .int .u32 num, .slice aa args.length ac, .bool lg], .agg #[.int .i64 op', .int .i64 d', .int .i64 a', .int .i64 b', .int .i64 fn', .int .i64 obj', .int .i64 off', .int .i64 size', .int .u32 num', .slice aa' args'.length ac', .bool lg']] W fun e w' => e = .returned (.bool (meetR y K.T P ⟨op, d, a, b, fn, obj, off, size, num, args, lg⟩ ⟨op', d', a', b', fn', obj', off', size', num', args', lg'⟩)) ∧ Below W.heap.size W w') := fun W hW hE => by
    have h := meet21_c w5 k2 y P ⟨op, d, a, b, fn, obj, off, size, num, args, lg⟩ ⟨op', d', a', b', fn', obj', off', size', num', args', lg'⟩ (.slice aa args.length ac) (.slice aa' args'.length ac') _ W hW (HPV.out W hE) (by rw [hTT.out]; omega) (by rw [hnN.out]; omega) (fun h => by rw [hnN.out, ← hNt.out]; exact (okI_acc HIa.out h).2) (fun h => by rw [hnN.out, ← hNt.out]; exact (okI_acc HIb.out h).2) hAP.out.exR_off (by have := hAP.out.blks; omega) (fun b hb => by have := (hAP.out.ins b hb).1; omega) (by have := hAP.out.objs; omega) hAP.out.obj8
    rw [hvr, hTT.out] at h
    exact h
   have hs1 := Lib.hid (meet_same HEN.out hAP.out hbl hsp HIa.out HIb.out)
   have hs2 := Lib.hid (meet_same HEN.out hAP.out hbl hsp HIb.out HIa.out)
   have hs3 := Lib.hid (fun h => meet_self HEN.out hAP.out (k := K) (sp := sp) HIa.out h)
   have HM1 : Hid (∀ W, VwM wc W K x sp → Calls Try.prog 17 #[.pointer (some ⟨K.bv, 0, none⟩), .agg #[.int .i64 op, .int .i64 d, .int .i64 a, .int .i64 b, .int .i64 fn, .int .i64 obj, .int .i64 off, .int .i64 size, .int .u32 num, .slice aa args.length ac, .bool lg], .agg #[.int .i64 op', .int .i64 d', .int .i64 a', .int .i64 b', .int .i64 fn', .int .i64 obj', .int .i64 off', .int .i64 size', .int .u32 num', .slice aa' args'.length ac', .bool lg']] W fun e w' => e = .returned (.bool (meetR y K.T P ⟨op, d, a, b, fn, obj, off, size, num, args, lg⟩ ⟨op', d', a', b', fn', obj', off', size', num', args', lg'⟩)) ∧ Below W.heap.size W w') := fun W hW => by
    have h := meetV_c wc K x sp ⟨op, d, a, b, fn, obj, off, size, num, args, lg⟩ ⟨op', d', a', b', fn', obj', off', size', num', args', lg'⟩ (.slice aa args.length ac) (.slice aa' args'.length ac') W hW (by rw [hbN.out]; omega) (fun h => by rw [hbN.out, ← hNt.out]; exact (okI_acc HIa.out h).1) (fun h => by rw [hbN.out, ← hNt.out]; exact (okI_acc HIb.out h).1) (fun r => by rw [HEX.out, hAP.out.exR_eq]; exact hAP.out.exF_off r)
    rw [hs1.out] at h
    exact h
   have HM2 : Hid (∀ W, VwM wc W K x sp → Calls Try.prog 17 #[.pointer (some ⟨K.bv, 0, none⟩), .agg #[.int .i64 op', .int .i64 d', .int .i64 a', .int .i64 b', .int .i64 fn', .int .i64 obj', .int .i64 off', .int .i64 size', .int .u32 num', .slice aa' args'.length ac', .bool lg'], .agg #[.int .i64 op, .int .i64 d, .int .i64 a, .int .i64 b, .int .i64 fn, .int .i64 obj, .int .i64 off, .int .i64 size, .int .u32 num, .slice aa args.length ac, .bool lg]] W fun e w' => e = .returned (.bool (meetR y K.T P ⟨op, d, a, b, fn, obj, off, size, num, args, lg⟩ ⟨op', d', a', b', fn', obj', off', size', num', args', lg'⟩)) ∧ Below W.heap.size W w') := fun W hW => by
    have h := meetV_c wc K x sp ⟨op', d', a', b', fn', obj', off', size', num', args', lg'⟩ ⟨op, d, a, b, fn, obj, off, size, num, args, lg⟩ (.slice aa' args'.length ac') (.slice aa args.length ac) W hW (by rw [hbN.out]; omega) (fun h => by rw [hbN.out, ← hNt.out]; exact (okI_acc HIb.out h).1) (fun h => by rw [hbN.out, ← hNt.out]; exact (okI_acc HIa.out h).1) (fun r => by rw [HEX.out, hAP.out.exR_eq]; exact hAP.out.exF_off r)
    rw [hs2.out, meetR_comm] at h
    exact h
   have HM3 : Hid (memF ⟨op, d, a, b, fn, obj, off, size, num, args, lg⟩ = true → ∀ W, VwM wc W K x sp → Calls Try.prog 17 #[.pointer (some ⟨K.bv, 0, none⟩), .agg #[.int .i64 op, .int .i64 d, .int .i64 a, .int .i64 b, .int .i64 fn, .int .i64 obj, .int .i64 off, .int .i64 size, .int .u32 num, .slice aa args.length ac, .bool lg], .agg #[.int .i64 op, .int .i64 d, .int .i64 a, .int .i64 b, .int .i64 fn, .int .i64 obj, .int .i64 off, .int .i64 size, .int .u32 num, .slice aa args.length ac, .bool lg]] W fun e w' => e = .returned (.bool (decide (0 < (posU (fun t => (x.regs.getD a.toNat 0).testBit t) K.T).length))) ∧ Below W.heap.size W w') := fun hm W hW => by
    have h := meetV_c wc K x sp ⟨op, d, a, b, fn, obj, off, size, num, args, lg⟩ ⟨op, d, a, b, fn, obj, off, size, num, args, lg⟩ (.slice aa args.length ac) (.slice aa args.length ac) W hW (by rw [hbN.out]; omega) (fun h => by rw [hbN.out, ← hNt.out]; exact (okI_acc HIa.out h).1) (fun h => by rw [hbN.out, ← hNt.out]; exact (okI_acc HIa.out h).1) (fun r => by rw [HEX.out, hAP.out.exR_eq]; exact hAP.out.exF_off r)
    rw [hs3.out hm] at h
    exact h
   have HAR : Hid (memF ⟨op, d, a, b, fn, obj, off, size, num, args, lg⟩ = true → 0 ≤ a ∧ a < (N : Int)) := fun h => by
    have := (okI_acc HIa.out h).1.1
    rw [hNt.out] at this
    exact this
   have A := Lib.hid A
   have hbg := A.out.below
   have V := Lib.hid (V.out.grow hbg)
   have H0 := Lib.hid ((hbg.block _ (Array.getElem?_eq_some_iff.1 H0.out).1).trans H0.out)
   have H2 := Lib.hid ((hbg.block _ (Array.getElem?_eq_some_iff.1 H2.out).1).trans H2.out)
   have H12 := Lib.hid ((hbg.block _ (Array.getElem?_eq_some_iff.1 H12.out).1).trans H12.out)
   have H13 := Lib.hid ((hbg.block _ (Array.getElem?_eq_some_iff.1 H13.out).1).trans H13.out)
   have BB := Lib.hid (BB.out.trans (hbg.mono BB.out.size))
   (try clear c0 c1 c2 c3 c4 c5 c6 c7 c8 c9 c10 lc k0 k1 k2' k3 k4 k5 k6 k7 k8 k9 k10 lk)
   clear x0 x1 x2 x3 x4 x5 l2 y0 y1 y2 y3 l0 hbg
   obtain ⟨x0, x1, x2, x3, x4, x5, l2⟩ := cl6 H2.out
   obtain ⟨y0, y1, y2, y3, l0⟩ := cl4 H0.out
   obtain ⟨c0, c1, c2, c3, c4, c5, c6, c7, c8, c9, c10, lc⟩ := cl11 H12.out
   obtain ⟨k0, k1, k2', k3, k4, k5, k6, k7, k8, k9, k10, lk⟩ := cl11 H13.out
   clear hkp hbl hT hE hC hsp hkN hn2 hT2 hEy hCy HOFC HNEW hs1 hs2 hs3
   generalize meetR y K.T P ⟨op, d, a, b, fn, obj, off, size, num, args, lg⟩ ⟨op', d', a', b', fn', obj', off', size', num', args', lg'⟩ = WANT at *
   rw [hvr]
   clear hvr
   unfold rowV
   rw [hTT.out]
   go_wp2_with fail
   obtain ⟨W7, hW7⟩ : ∃ W7, W7 = w6.alloc (.cells #[.slice av N cv, .slice (some ⟨k2.ro.1, 0, none⟩) K.T k2.ro.2] 47) := ⟨_, rfl⟩
   have hbg : Below w6.heap.size w6 W7 := by rw [hW7]; exact below_alloc w6 _
   have V := Lib.hid (V.out.grow hbg)
   have A := Lib.hid (A.out.grow hbg)
   have H0 := Lib.hid ((hbg.block _ (Array.getElem?_eq_some_iff.1 H0.out).1).trans H0.out)
   have H2 := Lib.hid ((hbg.block _ (Array.getElem?_eq_some_iff.1 H2.out).1).trans H2.out)
   have H12 := Lib.hid ((hbg.block _ (Array.getElem?_eq_some_iff.1 H12.out).1).trans H12.out)
   have H13 := Lib.hid ((hbg.block _ (Array.getElem?_eq_some_iff.1 H13.out).1).trans H13.out)
   have BB := Lib.hid (BB.out.trans (hbg.mono BB.out.size))
   (try clear c0 c1 c2 c3 c4 c5 c6 c7 c8 c9 c10 lc k0 k1 k2' k3 k4 k5 k6 k7 k8 k9 k10 lk)
   clear x0 x1 x2 x3 x4 x5 l2 y0 y1 y2 y3 l0 hbg
   obtain ⟨x0, x1, x2, x3, x4, x5, l2⟩ := cl6 H2.out
   obtain ⟨y0, y1, y2, y3, l0⟩ := cl4 H0.out
   obtain ⟨c0, c1, c2, c3, c4, c5, c6, c7, c8, c9, c10, lc⟩ := cl11 H12.out
   obtain ⟨k0, k1, k2', k3, k4, k5, k6, k7, k8, k9, k10, lk⟩ := cl11 H13.out
   have H10 : Hid (W7.heap[w6.heap.size]? = some (.cells #[.slice av N cv, .slice (some ⟨k2.ro.1, 0, none⟩) K.T k2.ro.2] 47)) := by rw [hW7]; exact heap_alloc_new w6 _
   rw [← hW7]
   clear hW7
   generalize w6.heap.size = b10 at *
   obtain ⟨v0, v1, l10⟩ := cl2 H10.out
   go_wp2_with fail
   refine (HWA.out W7 A.out (Ext.below BB.out)).mono ?_
   rintro e w8 ⟨rfl, hbg⟩
   have V := Lib.hid (V.out.grow hbg)
   have H0 := Lib.hid ((hbg.block _ (Array.getElem?_eq_some_iff.1 H0.out).1).trans H0.out)
   have H2 := Lib.hid ((hbg.block _ (Array.getElem?_eq_some_iff.1 H2.out).1).trans H2.out)
   have H12 := Lib.hid ((hbg.block _ (Array.getElem?_eq_some_iff.1 H12.out).1).trans H12.out)
   have H13 := Lib.hid ((hbg.block _ (Array.getElem?_eq_some_iff.1 H13.out).1).trans H13.out)
   have BB := Lib.hid (BB.out.trans (hbg.mono BB.out.size))
   (try clear c0 c1 c2 c3 c4 c5 c6 c7 c8 c9 c10 lc k0 k1 k2' k3 k4 k5 k6 k7 k8 k9 k10 lk)
   clear x0 x1 x2 x3 x4 x5 l2 y0 y1 y2 y3 l0 hbg
   obtain ⟨x0, x1, x2, x3, x4, x5, l2⟩ := cl6 H2.out
   obtain ⟨y0, y1, y2, y3, l0⟩ := cl4 H0.out
   obtain ⟨c0, c1, c2, c3, c4, c5, c6, c7, c8, c9, c10, lc⟩ := cl11 H12.out
   obtain ⟨k0, k1, k2', k3, k4, k5, k6, k7, k8, k9, k10, lk⟩ := cl11 H13.out
   clear HWA v0 v1 l10 H10 A
   have gw : (WANT != WANT) = false := by cases WANT <;> rfl
   go_wp2_with fail
   refine (HM1.out w8 V.out).mono ?_
   rintro e w9 ⟨rfl, hbg⟩
   have V := Lib.hid (V.out.grow hbg)
   have H0 := Lib.hid ((hbg.block _ (Array.getElem?_eq_some_iff.1 H0.out).1).trans H0.out)
   have H2 := Lib.hid ((hbg.block _ (Array.getElem?_eq_some_iff.1 H2.out).1).trans H2.out)
   have H12 := Lib.hid ((hbg.block _ (Array.getElem?_eq_some_iff.1 H12.out).1).trans H12.out)
   have H13 := Lib.hid ((hbg.block _ (Array.getElem?_eq_some_iff.1 H13.out).1).trans H13.out)
   have BB := Lib.hid (BB.out.trans (hbg.mono BB.out.size))
   (try clear c0 c1 c2 c3 c4 c5 c6 c7 c8 c9 c10 lc k0 k1 k2' k3 k4 k5 k6 k7 k8 k9 k10 lk)
   clear x0 x1 x2 x3 x4 x5 l2 y0 y1 y2 y3 l0 hbg
   obtain ⟨x0, x1, x2, x3, x4, x5, l2⟩ := cl6 H2.out
   obtain ⟨y0, y1, y2, y3, l0⟩ := cl4 H0.out
   obtain ⟨c0, c1, c2, c3, c4, c5, c6, c7, c8, c9, c10, lc⟩ := cl11 H12.out
   obtain ⟨k0, k1, k2', k3, k4, k5, k6, k7, k8, k9, k10, lk⟩ := cl11 H13.out
   go_wp2_with fail
   refine (HM2.out w9 V.out).mono ?_
   rintro e w10 ⟨rfl, hbg⟩
   have V := Lib.hid (V.out.grow hbg)
   have H0 := Lib.hid ((hbg.block _ (Array.getElem?_eq_some_iff.1 H0.out).1).trans H0.out)
   have H2 := Lib.hid ((hbg.block _ (Array.getElem?_eq_some_iff.1 H2.out).1).trans H2.out)
   have H12 := Lib.hid ((hbg.block _ (Array.getElem?_eq_some_iff.1 H12.out).1).trans H12.out)
   have H13 := Lib.hid ((hbg.block _ (Array.getElem?_eq_some_iff.1 H13.out).1).trans H13.out)
   have BB := Lib.hid (BB.out.trans (hbg.mono BB.out.size))
   (try clear c0 c1 c2 c3 c4 c5 c6 c7 c8 c9 c10 lc k0 k1 k2' k3 k4 k5 k6 k7 k8 k9 k10 lk)
   clear x0 x1 x2 x3 x4 x5 l2 y0 y1 y2 y3 l0 hbg
   obtain ⟨x0, x1, x2, x3, x4, x5, l2⟩ := cl6 H2.out
   obtain ⟨y0, y1, y2, y3, l0⟩ := cl4 H0.out
   obtain ⟨c0, c1, c2, c3, c4, c5, c6, c7, c8, c9, c10, lc⟩ := cl11 H12.out
   obtain ⟨k0, k1, k2', k3, k4, k5, k6, k7, k8, k9, k10, lk⟩ := cl11 H13.out
   clear HM1 HM2
   go_wp2_with fail
   cases hmm : memF ⟨op, d, a, b, fn, obj, off, size, num, args, lg⟩
   ·obtain ⟨g5, g6⟩ := memF_no hmm
    have g5 : (op == 5) = false := by simpa using g5
    have g6 : (op == 6) = false := by simpa using g6
    clear HM3 HAR hmm
    refine wp_region_yard (fun _ => True) (by kernel_rfl) ?_
    refine Y_mobs [0, 1, 2, 3, 4, 5, 6, 7, 8, 9, 10, 11, 13, 14, 15] _ _ _ _ (by kernel_rfl) ?_
    simp only [List.map_cons, List.map_nil, List.getElem?_toArray, List.getElem?_cons_succ, List.getElem?_cons_zero, Option.getD_some, List.size_toArray, List.length_cons, List.length_nil, Nat.reduceAdd, Nat.reduceSub]
    repeat (go_big_quiet_step (fail))
    refine wpQuiet_nil ?_
    refine Y_loud1 12 _ rfl (by kernel_rfl) ?_
    simp only [List.getElem_toArray, List.getElem_cons_succ, List.getElem_cons_zero]
    intro wj hj
    refine ⟨KeepY.refl _ _, ?_⟩
    have hbg := hj
    have V := Lib.hid (V.out.grow hbg)
    have H0 := Lib.hid ((hbg.block _ (Array.getElem?_eq_some_iff.1 H0.out).1).trans H0.out)
    have H2 := Lib.hid ((hbg.block _ (Array.getElem?_eq_some_iff.1 H2.out).1).trans H2.out)
    have H12 := Lib.hid ((hbg.block _ (Array.getElem?_eq_some_iff.1 H12.out).1).trans H12.out)
    have H13 := Lib.hid ((hbg.block _ (Array.getElem?_eq_some_iff.1 H13.out).1).trans H13.out)
    have BB := Lib.hid (BB.out.trans (hbg.mono BB.out.size))
    (try clear c0 c1 c2 c3 c4 c5 c6 c7 c8 c9 c10 lc k0 k1 k2' k3 k4 k5 k6 k7 k8 k9 k10 lk)
    clear x0 x1 x2 x3 x4 x5 l2 y0 y1 y2 y3 l0 hbg
    obtain ⟨x0, x1, x2, x3, x4, x5, l2⟩ := cl6 H2.out
    obtain ⟨y0, y1, y2, y3, l0⟩ := cl4 H0.out
    obtain ⟨c0, c1, c2, c3, c4, c5, c6, c7, c8, c9, c10, lc⟩ := cl11 H12.out
    obtain ⟨k0, k1, k2', k3, k4, k5, k6, k7, k8, k9, k10, lk⟩ := cl11 H13.out
    clear hj
    try simp only [Act.put, List.setIfInBounds_toArray, List.set_cons_succ, List.set_cons_zero]
    refine Y_loud1 16 _ rfl (by kernel_rfl) ?_
    simp only [List.getElem_toArray, List.getElem_cons_succ, List.getElem_cons_zero]
    intro wj hj
    refine ⟨KeepY.refl _ _, ?_⟩
    have hbg := hj
    have V := Lib.hid (V.out.grow hbg)
    have H0 := Lib.hid ((hbg.block _ (Array.getElem?_eq_some_iff.1 H0.out).1).trans H0.out)
    have H2 := Lib.hid ((hbg.block _ (Array.getElem?_eq_some_iff.1 H2.out).1).trans H2.out)
    have H12 := Lib.hid ((hbg.block _ (Array.getElem?_eq_some_iff.1 H12.out).1).trans H12.out)
    have H13 := Lib.hid ((hbg.block _ (Array.getElem?_eq_some_iff.1 H13.out).1).trans H13.out)
    have BB := Lib.hid (BB.out.trans (hbg.mono BB.out.size))
    (try clear c0 c1 c2 c3 c4 c5 c6 c7 c8 c9 c10 lc k0 k1 k2' k3 k4 k5 k6 k7 k8 k9 k10 lk)
    clear x0 x1 x2 x3 x4 x5 l2 y0 y1 y2 y3 l0 hbg
    obtain ⟨x0, x1, x2, x3, x4, x5, l2⟩ := cl6 H2.out
    obtain ⟨y0, y1, y2, y3, l0⟩ := cl4 H0.out
    obtain ⟨c0, c1, c2, c3, c4, c5, c6, c7, c8, c9, c10, lc⟩ := cl11 H12.out
    obtain ⟨k0, k1, k2', k3, k4, k5, k6, k7, k8, k9, k10, lk⟩ := cl11 H13.out
    clear hj
    try simp only [Act.put, List.setIfInBounds_toArray, List.set_cons_succ, List.set_cons_zero]
    refine Y_mobs [17, 18, 19, 20] _ _ _ _ (by kernel_rfl) ?_
    simp only [List.map_cons, List.map_nil, List.getElem?_toArray, List.getElem?_cons_succ, List.getElem?_cons_zero, Option.getD_some, List.size_toArray, List.length_cons, List.length_nil, Nat.reduceAdd, Nat.reduceSub]
    repeat (go_big_quiet_step (fail))
    refine wpQuiet_nil ?_
    refine Y_done (by kernel_rfl) (fun wj hj => ?_) _
    have BB := Lib.hid (BB.out.trans (hj.mono BB.out.size))
    clear hj
    go_wp2_with fail
    refine (awake21_c _).mono ?_
    rintro e wz ⟨rfl, hbz⟩
    have BB := Lib.hid (BB.out.trans (hbz.mono BB.out.size))
    clear hbz
    go_wp2_with fail
    go_ret
    exact ⟨rfl, BB.out⟩
   ·have HM4 := Lib.hid (HM3.out hmm)
    obtain ⟨ra0, ra1⟩ := HAR.out hmm
    obtain ⟨an, han⟩ := Int.eq_ofNat_of_zero_le ra0
    have hop := memF_is hmm
    clear HM3 HAR hmm
    have HTH : Hid (∀ W, VwM wc W K x sp → Calls Try.prog 18 #[.pointer (some ⟨K.bv, 0, none⟩), .int .i64 a] W (RetI W (posU (fun t => (x.regs.getD a.toNat 0).testBit t) K.T))) := fun W hW => by
     have h := things_c wc K x sp an W hW (by rw [hbN.out]; omega) (by rw [hbN.out]; omega) hKT
     rw [han, Int.toNat_natCast]
     exact h
    clear han
    generalize posU (fun t => (x.regs.getD a.toNat 0).testBit t) K.T = TH at *
    have gth : (decide (0 < TH.length) != decide ((TH.length : Int) > 0)) = false := by
     have : decide ((TH.length : Int) > 0) = decide (0 < TH.length) := by rw [decide_eq_decide]; omega
     rw [this]; cases decide (0 < TH.length) <;> rfl
    have HGT := Lib.hid gth
    clear gth
    rcases hop with ⟨g5, g6⟩ | ⟨g5, g6⟩
    ·have g5 : (op == 5) = true := by simpa using g5
     have g6 : (op == 6) = false := by simpa using g6
     refine wp_region_yard (fun _ => True) (by kernel_rfl) ?_
     refine Y_mobs [0, 1, 2, 3, 4, 5, 6, 7, 8, 9, 10, 11, 13, 14, 15] _ _ _ _ (by kernel_rfl) ?_
     simp only [List.map_cons, List.map_nil, List.getElem?_toArray, List.getElem?_cons_succ, List.getElem?_cons_zero, Option.getD_some, List.size_toArray, List.length_cons, List.length_nil, Nat.reduceAdd, Nat.reduceSub]
     repeat (go_big_quiet_step (fail))
     refine wpQuiet_nil ?_
     refine Y_loud1 12 _ rfl (by kernel_rfl) ?_
     simp only [List.getElem_toArray, List.getElem_cons_succ, List.getElem_cons_zero]
     intro wj hj
     have hmc := HM4.out wj (V.out.grow hj)
     go_wp2_with fail
     refine hmc.mono ?_
     clear hmc
     rintro e wa ⟨rfl, hb2⟩
     go_wp2_with fail
     refine ⟨KeepY.below hb2, ?_⟩
     have hbg := hj.trans (hb2.mono hj.size)
     have V := Lib.hid (V.out.grow hbg)
     have H0 := Lib.hid ((hbg.block _ (Array.getElem?_eq_some_iff.1 H0.out).1).trans H0.out)
     have H2 := Lib.hid ((hbg.block _ (Array.getElem?_eq_some_iff.1 H2.out).1).trans H2.out)
     have H12 := Lib.hid ((hbg.block _ (Array.getElem?_eq_some_iff.1 H12.out).1).trans H12.out)
     have H13 := Lib.hid ((hbg.block _ (Array.getElem?_eq_some_iff.1 H13.out).1).trans H13.out)
     have BB := Lib.hid (BB.out.trans (hbg.mono BB.out.size))
     (try clear c0 c1 c2 c3 c4 c5 c6 c7 c8 c9 c10 lc k0 k1 k2' k3 k4 k5 k6 k7 k8 k9 k10 lk)
     clear x0 x1 x2 x3 x4 x5 l2 y0 y1 y2 y3 l0 hbg
     obtain ⟨x0, x1, x2, x3, x4, x5, l2⟩ := cl6 H2.out
     obtain ⟨y0, y1, y2, y3, l0⟩ := cl4 H0.out
     obtain ⟨c0, c1, c2, c3, c4, c5, c6, c7, c8, c9, c10, lc⟩ := cl11 H12.out
     obtain ⟨k0, k1, k2', k3, k4, k5, k6, k7, k8, k9, k10, lk⟩ := cl11 H13.out
     clear hj hb2
     refine Y_loud1 16 _ rfl (by kernel_rfl) ?_
     simp only [List.getElem_toArray, List.getElem_cons_succ, List.getElem_cons_zero]
     intro wj hj
     have htc := HTH.out wj (V.out.grow hj)
     go_wp2_with fail
     refine htc.mono ?_
     clear htc
     rintro e wb ⟨vA, rfl, hoA, hb2⟩
     obtain ⟨aA, cA, rfl⟩ := row_form hoA
     clear hoA
     go_wp2_with fail
     refine ⟨KeepY.below hb2, ?_⟩
     have hbg := hj.trans (hb2.mono hj.size)
     have V := Lib.hid (V.out.grow hbg)
     have H0 := Lib.hid ((hbg.block _ (Array.getElem?_eq_some_iff.1 H0.out).1).trans H0.out)
     have H2 := Lib.hid ((hbg.block _ (Array.getElem?_eq_some_iff.1 H2.out).1).trans H2.out)
     have H12 := Lib.hid ((hbg.block _ (Array.getElem?_eq_some_iff.1 H12.out).1).trans H12.out)
     have H13 := Lib.hid ((hbg.block _ (Array.getElem?_eq_some_iff.1 H13.out).1).trans H13.out)
     have BB := Lib.hid (BB.out.trans (hbg.mono BB.out.size))
     (try clear c0 c1 c2 c3 c4 c5 c6 c7 c8 c9 c10 lc k0 k1 k2' k3 k4 k5 k6 k7 k8 k9 k10 lk)
     clear x0 x1 x2 x3 x4 x5 l2 y0 y1 y2 y3 l0 hbg
     obtain ⟨x0, x1, x2, x3, x4, x5, l2⟩ := cl6 H2.out
     obtain ⟨y0, y1, y2, y3, l0⟩ := cl4 H0.out
     obtain ⟨c0, c1, c2, c3, c4, c5, c6, c7, c8, c9, c10, lc⟩ := cl11 H12.out
     obtain ⟨k0, k1, k2', k3, k4, k5, k6, k7, k8, k9, k10, lk⟩ := cl11 H13.out
     clear hj hb2
     have gth := HGT.out
     refine Y_mobs [17, 18, 19, 20] _ _ _ _ (by kernel_rfl) ?_
     simp only [List.map_cons, List.map_nil, List.getElem?_toArray, List.getElem?_cons_succ, List.getElem?_cons_zero, Option.getD_some, List.size_toArray, List.length_cons, List.length_nil, Nat.reduceAdd, Nat.reduceSub]
     repeat (go_big_quiet_step (fail))
     refine wpQuiet_nil ?_
     clear gth
     refine Y_done (by kernel_rfl) (fun wj hj => ?_) _
     have BB := Lib.hid (BB.out.trans (hj.mono BB.out.size))
     clear hj
     go_wp2_with fail
     refine (awake21_c _).mono ?_
     rintro e wz ⟨rfl, hbz⟩
     have BB := Lib.hid (BB.out.trans (hbz.mono BB.out.size))
     clear hbz
     go_wp2_with fail
     go_ret
     exact ⟨rfl, BB.out⟩
    ·have g5 : (op == 5) = false := by simpa using g5
     have g6 : (op == 6) = true := by simpa using g6
     refine wp_region_yard (fun _ => True) (by kernel_rfl) ?_
     refine Y_mobs [0, 1, 2, 3, 4, 5, 6, 7, 8, 9, 10, 11, 13, 14, 15] _ _ _ _ (by kernel_rfl) ?_
     simp only [List.map_cons, List.map_nil, List.getElem?_toArray, List.getElem?_cons_succ, List.getElem?_cons_zero, Option.getD_some, List.size_toArray, List.length_cons, List.length_nil, Nat.reduceAdd, Nat.reduceSub]
     repeat (go_big_quiet_step (fail))
     refine wpQuiet_nil ?_
     refine Y_loud1 12 _ rfl (by kernel_rfl) ?_
     simp only [List.getElem_toArray, List.getElem_cons_succ, List.getElem_cons_zero]
     intro wj hj
     have hmc := HM4.out wj (V.out.grow hj)
     go_wp2_with fail
     refine hmc.mono ?_
     clear hmc
     rintro e wa ⟨rfl, hb2⟩
     go_wp2_with fail
     refine ⟨KeepY.below hb2, ?_⟩
     have hbg := hj.trans (hb2.mono hj.size)
     have V := Lib.hid (V.out.grow hbg)
     have H0 := Lib.hid ((hbg.block _ (Array.getElem?_eq_some_iff.1 H0.out).1).trans H0.out)
     have H2 := Lib.hid ((hbg.block _ (Array.getElem?_eq_some_iff.1 H2.out).1).trans H2.out)
     have H12 := Lib.hid ((hbg.block _ (Array.getElem?_eq_some_iff.1 H12.out).1).trans H12.out)
     have H13 := Lib.hid ((hbg.block _ (Array.getElem?_eq_some_iff.1 H13.out).1).trans H13.out)
     have BB := Lib.hid (BB.out.trans (hbg.mono BB.out.size))
     (try clear c0 c1 c2 c3 c4 c5 c6 c7 c8 c9 c10 lc k0 k1 k2' k3 k4 k5 k6 k7 k8 k9 k10 lk)
     clear x0 x1 x2 x3 x4 x5 l2 y0 y1 y2 y3 l0 hbg
     obtain ⟨x0, x1, x2, x3, x4, x5, l2⟩ := cl6 H2.out
     obtain ⟨y0, y1, y2, y3, l0⟩ := cl4 H0.out
     obtain ⟨c0, c1, c2, c3, c4, c5, c6, c7, c8, c9, c10, lc⟩ := cl11 H12.out
     obtain ⟨k0, k1, k2', k3, k4, k5, k6, k7, k8, k9, k10, lk⟩ := cl11 H13.out
     clear hj hb2
     refine Y_loud1 16 _ rfl (by kernel_rfl) ?_
     simp only [List.getElem_toArray, List.getElem_cons_succ, List.getElem_cons_zero]
     intro wj hj
     have htc := HTH.out wj (V.out.grow hj)
     go_wp2_with fail
     refine htc.mono ?_
     clear htc
     rintro e wb ⟨vA, rfl, hoA, hb2⟩
     obtain ⟨aA, cA, rfl⟩ := row_form hoA
     clear hoA
     go_wp2_with fail
     refine ⟨KeepY.below hb2, ?_⟩
     have hbg := hj.trans (hb2.mono hj.size)
     have V := Lib.hid (V.out.grow hbg)
     have H0 := Lib.hid ((hbg.block _ (Array.getElem?_eq_some_iff.1 H0.out).1).trans H0.out)
     have H2 := Lib.hid ((hbg.block _ (Array.getElem?_eq_some_iff.1 H2.out).1).trans H2.out)
     have H12 := Lib.hid ((hbg.block _ (Array.getElem?_eq_some_iff.1 H12.out).1).trans H12.out)
     have H13 := Lib.hid ((hbg.block _ (Array.getElem?_eq_some_iff.1 H13.out).1).trans H13.out)
     have BB := Lib.hid (BB.out.trans (hbg.mono BB.out.size))
     (try clear c0 c1 c2 c3 c4 c5 c6 c7 c8 c9 c10 lc k0 k1 k2' k3 k4 k5 k6 k7 k8 k9 k10 lk)
     clear x0 x1 x2 x3 x4 x5 l2 y0 y1 y2 y3 l0 hbg
     obtain ⟨x0, x1, x2, x3, x4, x5, l2⟩ := cl6 H2.out
     obtain ⟨y0, y1, y2, y3, l0⟩ := cl4 H0.out
     obtain ⟨c0, c1, c2, c3, c4, c5, c6, c7, c8, c9, c10, lc⟩ := cl11 H12.out
     obtain ⟨k0, k1, k2', k3, k4, k5, k6, k7, k8, k9, k10, lk⟩ := cl11 H13.out
     clear hj hb2
     have gth := HGT.out
     refine Y_mobs [17, 18, 19, 20] _ _ _ _ (by kernel_rfl) ?_
     simp only [List.map_cons, List.map_nil, List.getElem?_toArray, List.getElem?_cons_succ, List.getElem?_cons_zero, Option.getD_some, List.size_toArray, List.length_cons, List.length_nil, Nat.reduceAdd, Nat.reduceSub]
     repeat (go_big_quiet_step (fail))
     refine wpQuiet_nil ?_
     clear gth
     refine Y_done (by kernel_rfl) (fun wj hj => ?_) _
     have BB := Lib.hid (BB.out.trans (hj.mono BB.out.size))
     clear hj
     go_wp2_with fail
     refine (awake21_c _).mono ?_
     rintro e wz ⟨rfl, hbz⟩
     have BB := Lib.hid (BB.out.trans (hbz.mono BB.out.size))
     clear hbz
     go_wp2_with fail
     go_ret
     exact ⟨rfl, BB.out⟩
end Go.Proofs.Ytkhfddodmjnecaa
