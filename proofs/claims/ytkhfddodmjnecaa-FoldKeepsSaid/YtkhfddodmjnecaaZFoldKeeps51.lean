/-
 FoldKeeps: the walk.
-/
import Derived.Test.YtkhfddodmjnecaaZFoldKeeps50
import Derived.Test.YtkhfddodmjnecaaZFoldKeeps11
import Derived.Test.YtkhfddodmjnecaaZFoldKeeps12
set_option linter.all false
namespace Go.Proofs.Ytkhfddodmjnecaa
open Go.ChangeShapes Go.WideShapes Go.ChangeAt Go.RowKit Go.Maps
set_option maxHeartbeats 16000000
set_option maxRecDepth 100000
set_option linter.unusedVariables false

theorem Keep.below_lt {w w' : World} {n : Nat} (h : Below n w w') : Keep (fun z => z < n) w w' := fun b o hb => World.cell?_of_block (w := w) (a := ⟨b, o, none⟩) (h.block b hb)
theorem putB5 {w : World} {b : Nat} (H : w.heap[b]? = some bkZ) (v : Value) (x1 x2 x3 x4 : Int) : (((((w.setCell ⟨b, 0, none⟩ v).setCell ⟨b, 1, none⟩ (.int .i64 x1)).setCell ⟨b, 2, none⟩ (.int .i64 x2)).setCell ⟨b, 3, none⟩ (.int .i64 x3)).setCell ⟨b, 4, none⟩ (.int .i64 x4)).heap[b]? = some (bkO v x1 x2 x3 x4) ∧ But b w (((((w.setCell ⟨b, 0, none⟩ v).setCell ⟨b, 1, none⟩ (.int .i64 x1)).setCell ⟨b, 2, none⟩ (.int .i64 x2)).setCell ⟨b, 3, none⟩ (.int .i64 x3)).setCell ⟨b, 4, none⟩ (.int .i64 x4)) := by
 unfold bkZ at H
 unfold bkO
 have h1 : (w.setCell ⟨b, 0, none⟩ v).heap[b]? = some (.cells #[v, .int .i64 0, .int .i64 0, .int .i64 0, .int .i64 0] 35) := heap_setCell_same w b 0 _ _ v H
 have h2 : ((w.setCell ⟨b, 0, none⟩ v).setCell ⟨b, 1, none⟩ (.int .i64 x1)).heap[b]? = some (.cells #[v, .int .i64 x1, .int .i64 0, .int .i64 0, .int .i64 0] 35) := heap_setCell_same (w.setCell ⟨b, 0, none⟩ v) b 1 _ _ (.int .i64 x1) h1
 have h3 : (((w.setCell ⟨b, 0, none⟩ v).setCell ⟨b, 1, none⟩ (.int .i64 x1)).setCell ⟨b, 2, none⟩ (.int .i64 x2)).heap[b]? = some (.cells #[v, .int .i64 x1, .int .i64 x2, .int .i64 0, .int .i64 0] 35) := heap_setCell_same ((w.setCell ⟨b, 0, none⟩ v).setCell ⟨b, 1, none⟩ (.int .i64 x1)) b 2 _ _ (.int .i64 x2) h2
 have h4 : ((((w.setCell ⟨b, 0, none⟩ v).setCell ⟨b, 1, none⟩ (.int .i64 x1)).setCell ⟨b, 2, none⟩ (.int .i64 x2)).setCell ⟨b, 3, none⟩ (.int .i64 x3)).heap[b]? = some (.cells #[v, .int .i64 x1, .int .i64 x2, .int .i64 x3, .int .i64 0] 35) := heap_setCell_same (((w.setCell ⟨b, 0, none⟩ v).setCell ⟨b, 1, none⟩ (.int .i64 x1)).setCell ⟨b, 2, none⟩ (.int .i64 x2)) b 3 _ _ (.int .i64 x3) h3
 have h5 : (((((w.setCell ⟨b, 0, none⟩ v).setCell ⟨b, 1, none⟩ (.int .i64 x1)).setCell ⟨b, 2, none⟩ (.int .i64 x2)).setCell ⟨b, 3, none⟩ (.int .i64 x3)).setCell ⟨b, 4, none⟩ (.int .i64 x4)).heap[b]? = some (.cells #[v, .int .i64 x1, .int .i64 x2, .int .i64 x3, .int .i64 x4] 35) := heap_setCell_same ((((w.setCell ⟨b, 0, none⟩ v).setCell ⟨b, 1, none⟩ (.int .i64 x1)).setCell ⟨b, 2, none⟩ (.int .i64 x2)).setCell ⟨b, 3, none⟩ (.int .i64 x3)) b 4 _ _ (.int .i64 x4) h4
 exact ⟨h5, ((((But.setCell _ _ _ _).trans (But.setCell _ _ _ _)).trans (But.setCell _ _ _ _)).trans (But.setCell _ _ _ _)).trans (But.setCell _ _ _ _)⟩
/-- both blocks in their boxes -/
structure TwoB (w wr : World) (b8 b9 : Nat) (x y : Obj) : Prop where
 h8 : wr.heap[b8]? = some x
 h9 : wr.heap[b9]? = some y
 bl : Below w.heap.size w wr
theorem TwoB.below {w wr w2 : World} {b8 b9 : Nat} {x y : Obj} (h : TwoB w wr b8 b9 x y) (hb : Below wr.heap.size wr w2) : TwoB w w2 b8 b9 x y :=
 ⟨(hb.block _ (Array.getElem?_eq_some_iff.1 h.h8).1).trans h.h8, (hb.block _ (Array.getElem?_eq_some_iff.1 h.h9).1).trans h.h9, h.bl.trans (hb.mono h.bl.size)⟩
theorem FoldKeeps_w (m : Md) (v : Value) (n : Int) (w : World) (hn : MdOk m) (hv : MdV w v m) :
  Calls Try.prog 11 #[v, .int .i64 n] w fun e w' => e = .returned (.bool true) ∧ Below w.heap.size w w' := by
 have HR : Hid (∀ w', Ext w w' → Calls Try.prog 12 #[v, .int .i64 n] w' fun e w'' => e = .returned (.bool (rightB m n)) ∧ Below w'.heap.size w' w'') := fun w' he => rightM_c m v n w' (hv.ext he)
 have HV := Lib.hid hv
 obtain ⟨vg, vd, vp, rfl, hvg, hvd, hvp⟩ := hv
 have hvp' := hvp
 obtain ⟨ap, cp, rfl, hp1, hp2, -⟩ := hvp'
 unfold maxLen at hp2
 have HPS := Lib.hid (RdPrs.at6 hvp).2
 have HN := Lib.hid hn
 clear hvg hvd hvp hn
 obtain ⟨W0, hW0⟩ : ∃ W0, W0 = w.alloc (.cells #[vg, vd, .slice ap m.procs.length cp, .int .i64 m.main] 26) := ⟨_, rfl⟩
 have B0 : Hid (Below w.heap.size w W0) := by rw [hW0]; exact below_alloc w _
 have H0 := Lib.hid (heap_of_alloc w _ _ hW0)
 have HW0 := Lib.hid hW0
 clear hW0
 go_enter Try.func11, Try.ntmps11
 go_wp2_with fail
 rw [← HW0.out]
 refine (HR.out W0 (Ext.below B0.out)).mono ?_
 rintro e w1 ⟨rfl, hb1⟩
 have H0 := Lib.hid ((hb1.block w.heap.size (Array.getElem?_eq_some_iff.1 H0.out).1).trans H0.out)
 have BB := Lib.hid (B0.out.trans (hb1.mono B0.out.size))
 clear hb1 HR HW0 B0
 obtain ⟨y0, y1, y2, y3, l0⟩ := cl4 H0.out
 cases hr : rightB m n
 ·clear hr
  go_wp2_with fail
  refine (awake17_c _).mono ?_
  rintro e w2 ⟨rfl, hb2⟩
  have BB := Lib.hid (BB.out.trans (hb2.mono BB.out.size))
  clear hb2
  go_wp2_with fail
  go_ret
  exact ⟨rfl, BB.out⟩
 ·obtain ⟨hfw, k, rfl, h1, h40, hokm⟩ := rightB_is hr
  clear hr
  have g1 : decide ((k : Int) < (m.procs.length : Int)) = true := decide_eq_true (by omega)
  have g2 : decide (k < m.procs.length) = true := decide_eq_true h1
  obtain ⟨bp, op, tnm, tvo, tvb, hap, hto, htb, t0, t1, t2, t3, t4, t5⟩ := HPS.out k h1
  subst hap
  have hmem : m.procs.getD k default ∈ m.procs := by simp [List.getD, h1]
  have hkp : okP m (m.procs.getD k default) = true := by
   unfold okM at hokm
   simp only [Bool.and_eq_true, List.all_eq_true] at hokm
   exact hokm.2.2.2 _ hmem
  have FOK := Lib.hid (fold_ok hfw hmem hkp h40 (HN.out.procs _ hmem))
  have BOK : Hid (∀ n, n < (m.procs.getD k default).blks.length → BlOk (m.procs.getD k default).regs ((m.procs.getD k default).blks.getD n default)) := fun n hn => bl_ok hfw hmem hkp (HN.out.procs _ hmem) hn
  have HRG := Lib.hid h40
  clear hkp hokm hfw hmem HPS HN h40
  generalize m.procs.getD k default = P at *
  have HPV : Hid (PrV w (.agg #[.string tnm, .bool P.void, .int .i64 P.params, .int .i64 P.regs, tvo, tvb]) P) := ⟨tnm, tvo, tvb, rfl, hto, htb⟩
  have EV : Hid (∀ w', Ext w w' → Calls Try.prog 40 #[.agg #[.string tnm, .bool P.void, .int .i64 P.params, .int .i64 P.regs, tvo, tvb]] w' fun e w'' => ∃ v', e = .returned v' ∧ PrV w'' v' (vlsP P) ∧ Below w'.heap.size w' w'') := fun w' he => values_c P _ w' (HPV.out.ext he) (by have := HRG.out; omega) FOK.out.b0 (by have := FOK.out.b1; omega) BOK.out
  have HBP := Lib.hid htb
  obtain ⟨ao, co, rfl, -⟩ := hto
  obtain ⟨ab, cb, rfl, hcb1, hcb2, -⟩ := htb
  unfold maxLen at hcb2
  have hE1 : Ext w w1 := Ext.below BB.out
  replace t0 := hE1 _ _ t0
  replace t1 := hE1 _ _ t1
  replace t2 := hE1 _ _ t2
  replace t3 := hE1 _ _ t3
  replace t4 := hE1 _ _ t4
  replace t5 := hE1 _ _ t5
  clear hE1
  have hbl : P.blks.length ≤ 40 := FOK.out.b1
  have lbp := World.block_lt_of_cell? _ _ t0
  clear HPV FOK HRG
  have H5 := Lib.hid (heap_alloc_new w1 (.cells #[.string tnm, .bool P.void, .int .i64 P.params, .int .i64 P.regs, .slice ao P.objs.length co, .slice ab P.blks.length cb] 32))
  have B5 := Lib.hid (below_alloc w1 (.cells #[.string tnm, .bool P.void, .int .i64 P.params, .int .i64 P.regs, .slice ao P.objs.length co, .slice ab P.blks.length cb] 32))
  go_wp2_with fail
  generalize hb5 : w1.heap.size = b5 at *
  generalize w1.alloc (.cells #[.string tnm, .bool P.void, .int .i64 P.params, .int .i64 P.regs, .slice ao P.objs.length co, .slice ab P.blks.length cb] 32) = w5 at *
  have BB5 : Hid (Below w.heap.size w w5) := BB.out.trans (B5.out.mono (by rw [← hb5]; exact BB.out.size))
  clear t0 t1 t2 t3 t4 t5 y0 y1 y2 y3 l0 H0 lbp hb5 B5 BB HV
  refine (EV.out w5 (Ext.below BB5.out)).mono ?_
  rintro e w6 ⟨v6, rfl, ⟨qnm, qvo, qvb, rfl, hqo, hqb⟩, hb6⟩
  have HQB := Lib.hid hqb
  obtain ⟨aq, cq, rfl, hcq1, hcq2, -⟩ := hqb
  obtain ⟨aqo, cqo, rfl, -⟩ := hqo
  have hvl := vlsP_len P
  unfold maxLen at hcq2
  have r1 : (vlsP P).void = P.void := rfl
  have r2 : (vlsP P).params = P.params := rfl
  have r3 : (vlsP P).regs = P.regs := rfl
  have r4 : (vlsP P).objs = P.objs := rfl
  rw [r1, r2, r3, r4, hvl]
  rw [hvl] at hcq1
  have HVL := Lib.hid hvl
  clear r1 r2 r3 r4 hvl
  have H6 := Lib.hid (heap_alloc_new w6 (.cells #[.string qnm, .bool P.void, .int .i64 P.params, .int .i64 P.regs, .slice aqo P.objs.length cqo, .slice aq P.blks.length cq] 32))
  have B6 := Lib.hid (below_alloc w6 (.cells #[.string qnm, .bool P.void, .int .i64 P.params, .int .i64 P.regs, .slice aqo P.objs.length cqo, .slice aq P.blks.length cq] 32))
  have H5 := Lib.hid (((hb6.trans (B6.out.mono hb6.size)).block _ (Array.getElem?_eq_some_iff.1 H5.out).1).trans H5.out)
  have BB6 : Hid (Below w.heap.size w w6) := BB5.out.trans (hb6.mono BB5.out.size)
  go_upto_region 5 with (fail)
  generalize hb6' : w6.heap.size = b6 at *
  have BB7 : Hid (Below w.heap.size w (w6.alloc (.cells #[.string qnm, .bool P.void, .int .i64 P.params, .int .i64 P.regs, .slice aqo P.objs.length cqo, .slice aq P.blks.length cq] 32))) := BB6.out.trans (B6.out.mono (by rw [← hb6']; exact BB6.out.size))
  have E67 : Hid (Ext w6 (w6.alloc (.cells #[.string qnm, .bool P.void, .int .i64 P.params, .int .i64 P.regs, .slice aqo P.objs.length cqo, .slice aq P.blks.length cq] 32))) := Ext.below (by rw [hb6']; exact B6.out)
  generalize w6.alloc (.cells #[.string qnm, .bool P.void, .int .i64 P.params, .int .i64 P.regs, .slice aqo P.objs.length cqo, .slice aq P.blks.length cq] 32) = w7 at *
  clear hb6 hb6' B6 BB5 BB6 EV
  have HQB7 : Hid (RdBks w7 (.slice aq P.blks.length cq) (vlsP P).blks) := by
   have := HQB.out.ext E67.out
   rw [HVL.out] at this
   exact this
  have HBP7 := Lib.hid (HBP.out.ext (Ext.below BB7.out))
  clear HQB HBP E67
  obtain ⟨p0, p1, p2, p3, p4, p5, lp⟩ := cl6 H5.out
  obtain ⟨q0, q1, q2, q3, q4, q5, lq⟩ := cl6 H6.out
  go_wp2_with fail
  clear p0 p1 p2 p3 p4 p5 lp q0 q1 q2 q3 q4 q5 lq
  have S0 : Hid (Below w7.heap.size w7 w7) := Below.refl _ _
  go_loopw [7] (fun i wr => ∃ (j : Nat), j ≤ P.blks.length ∧ i = .int .i64 (j : Int) ∧ Hid (Below w7.heap.size w7 wr)) (fun i _ => P.blks.length - (intOf i).toNat)
  case atStart => exact ⟨0, Nat.zero_le _, rfl, S0⟩
  case round =>
   clear S0
   obtain ⟨wA, rfl⟩ : ∃ wA, wA = wr := ⟨wr, rfl⟩
   obtain ⟨j, hj, rfl, HA⟩ := hrel
   have H5A := Lib.hid ((HA.out.block _ (Array.getElem?_eq_some_iff.1 H5.out).1).trans H5.out)
   have H6A := Lib.hid ((HA.out.block _ (Array.getElem?_eq_some_iff.1 H6.out).1).trans H6.out)
   obtain ⟨p0, p1, p2, p3, p4, p5, lp⟩ := cl6 H5A.out
   obtain ⟨q0, q1, q2, q3, q4, q5, lq⟩ := cl6 H6A.out
   by_cases hlt : j < P.blks.length
   ·have g3 : decide (j < P.blks.length) = true := decide_eq_true hlt
    have g4 : decide ((j : Int) < (P.blks.length : Int)) = true := decide_eq_true (by omega)
    obtain ⟨ib1, io1, vi1, rfl, hvi1, c0, c1, c2, c3, c4⟩ := (RdBks.at HBP7.out).2 j hlt
    obtain ⟨ib2, io2, vi2, rfl, hvi2, d0, d1, d2, d3, d4⟩ := (RdBks.at HQB7.out).2 j (by rw [HVL.out]; exact hlt)
    rw [vlsP_at P hlt] at hvi2 d1 d2 d3 d4
    have hE := Ext.below HA.out
    replace c0 := hE _ _ c0
    replace c1 := hE _ _ c1
    replace c2 := hE _ _ c2
    replace c3 := hE _ _ c3
    replace c4 := hE _ _ c4
    replace d0 := hE _ _ d0
    replace d1 := hE _ _ d1
    replace d2 := hE _ _ d2
    replace d3 := hE _ _ d3
    replace d4 := hE _ _ d4
    have HV1 := Lib.hid (hvi1.ext hE)
    have HV2 := Lib.hid (hvi2.ext hE)
    clear hE hvi1 hvi2
    obtain ⟨ai1, ni1, ci1, rfl⟩ := HV1.out.sl
    obtain ⟨ai2, ni2, ci2, rfl⟩ := HV2.out.sl
    have lc := World.block_lt_of_cell? _ _ c0
    have ld := World.block_lt_of_cell? _ _ d0
    have BK := Lib.hid (BOK.out j hlt)
    generalize P.blks.getD j default = K at *
    have HKL : Hid (keptL (vlsB K).ins = keptL K.ins) := by
     show _ = _
     rw [vlsB_ins, kept_vls]
    have HLE : Hid ((vlsB K).ins.length ≤ K.ins.length) := by
     show _ ≤ _
     rw [vlsB_ins]; exact vlsL_len _ _
    have HFIN := Lib.hid (vls_fin K)
    generalize vlsB K = Kq at *
    have h1000 : Hid (K.ins.length ≤ 1000) := BK.out.len
    clear BK
    go_upto_region 10 with (fail)
    go_cut [8, 9] from 55 to 221 (fun t8 t9 wx => ∃ b8 b9, t8 = .pointer (some ⟨b8, 0, none⟩) ∧ t9 = .pointer (some ⟨b9, 0, none⟩) ∧ Hid (TwoB wA wx b8 b9 (bkO (.slice ai1 ni1 ci1) K.fin K.a K.to K.els) (bkO (.slice ai2 ni2 ci2) Kq.fin Kq.a Kq.to Kq.els)))
    case first =>
     refine wp_region_game (fun z => z < wA.heap.size) (by kernel_rfl) ?_
     show wpE _ _ _ _ _ _ _ wA.drew
     refine E_mob2s [0, 1, 2, 3, 4, 5, 6, 7, 8, 9] _ _ _ _ (by kernel_rfl) ?_
     simp only [List.map_cons, List.map_nil, List.getElem?_toArray, List.getElem?_cons_succ, List.getElem?_cons_zero, Option.getD_some, List.size_toArray, List.length_cons, List.length_nil, Nat.reduceAdd, Nat.reduceSub]
     repeat (go_big_quiet_step (fail))
     refine wpQuiet_nil ?_
     clear c0 c1 c2 c3 c4 d0 d1 d2 d3 d4 p0 p1 p2 p3 p4 p5 q0 q1 q2 q3 q4 q5
     obtain ⟨wB, hwB⟩ : ∃ wB, wB = wA.drew := ⟨_, rfl⟩
     have hbB : Below wA.heap.size wA wB := by rw [hwB]; exact (Below.refl _ _).drew
     have hsB : wA.heap.size ≤ wB.heap.size := by rw [hwB]; exact Nat.le_refl _
     rw [← hwB]
     clear hwB
     refine E_loud2 10 11 _ _ rfl rfl (by kernel_rfl) ?_ ?_
     all_goals simp only [List.getElem_toArray, List.getElem_cons_succ, List.getElem_cons_zero]
     ·go_wp2_with fail
      have X8 := Lib.hid (heap_alloc_new wB bkZ)
      have XB : Hid (Below wA.heap.size wA (wB.alloc bkZ)) := hbB.trans ((below_alloc wB bkZ).mono hsB)
      refine ⟨Keep.below_lt ((below_alloc wB _).mono hsB), ?_⟩
      have XL : Hid (wA.heap.size ≤ wB.heap.size) := hsB
      unfold bkZ at X8 XB
      generalize wB.alloc (.cells #[.slice none 0 0, .int .i64 0, .int .i64 0, .int .i64 0, .int .i64 0] 35) = wC at X8 XB ⊢
      generalize wB.heap.size = b8 at X8 XL ⊢
      clear hbB hsB
      refine E_loud1 11 _ rfl (by kernel_rfl) ?_
      simp only [List.getElem_toArray, List.getElem_cons_succ, List.getElem_cons_zero]
      go_wp2_with fail
      have Y9 := Lib.hid (heap_alloc_new wC bkZ)
      have lX := (Array.getElem?_eq_some_iff.1 X8.out).1
      have Y8 := Lib.hid (((below_alloc wC bkZ).block _ lX).trans X8.out)
      have YB : Hid (Below wA.heap.size wA (wC.alloc bkZ)) := XB.out.trans ((below_alloc wC bkZ).mono XB.out.size)
      refine ⟨Keep.below_lt ((below_alloc wC _).mono XB.out.size), ?_⟩
      have YL : Hid (wA.heap.size ≤ wC.heap.size ∧ b8 ≠ wC.heap.size) := ⟨XB.out.size, by omega⟩
      unfold bkZ at Y8 Y9 YB
      generalize wC.alloc (.cells #[.slice none 0 0, .int .i64 0, .int .i64 0, .int .i64 0, .int .i64 0] 35) = wz at Y8 Y9 YB ⊢
      generalize wC.heap.size = b9 at Y9 YL ⊢
      clear lX X8 XB
      have HZ : Hid (wz.heap[b8]? = some bkZ ∧ wz.heap[b9]? = some bkZ ∧ b8 ≠ b9 ∧ Below wA.heap.size wA wz) := ⟨Y8.out, Y9.out, YL.out.2, YB.out⟩
      have HB8 := Lib.hid XL.out
      have HB9 := Lib.hid YL.out.1
      clear Y8 Y9 YB XL YL
      obtain ⟨hz8, hz9, hne, hbz⟩ := HZ.out
      have hp8 := putB5 hz8 (.slice ai1 ni1 ci1) K.fin K.a K.to K.els
      have l8 := (Array.getElem?_eq_some_iff.1 hz8).1
      have l9 := (Array.getElem?_eq_some_iff.1 hz9).1
      have hz9' := (hp8.2.block b9 l9 (Ne.symm hne)).trans hz9
      have hp9 := putB5 hz9' (.slice ai2 ni2 ci2) Kq.fin Kq.a Kq.to Kq.els
      have H8 := Lib.hid hp8
      have H9 := Lib.hid hp9
      have HL := Lib.hid (And.intro l8 l9)
      have hz8u := hz8
      have hz9u := hz9
      unfold bkZ at hz8u hz9u
      obtain ⟨e0, e1, e2, e3, e4, el8⟩ := cl5 hz8u
      have f0 := frozen_of_heap hz8u 0
      have f1 := frozen_of_heap hz8u 1
      have f2 := frozen_of_heap hz8u 2
      have f3 := frozen_of_heap hz8u 3
      have f4 := frozen_of_heap hz8u 4
      clear hp8 hp9 hz8 hz9 hz9' hz8u l8 l9
      refine E_loud1 12 _ rfl (by kernel_rfl) ?_
      simp only [List.getElem_toArray, List.getElem_cons_succ, List.getElem_cons_zero]
      go_wp2_with fail
      refine ⟨H8.out.2.keepT (fun z hz => ⟨Nat.lt_of_lt_of_le hz hbz.size, by have := HB8.out; omega⟩), ?_⟩
      have hw1 := H8.out.2
      have hz9v := (H8.out.2.block b9 HL.out.2 (Ne.symm hne)).trans hz9u
      clear e0 e1 e2 e3 e4 el8 f0 f1 f2 f3 f4 hz9u
      obtain ⟨e0, e1, e2, e3, e4, el9⟩ := cl5 hz9v
      have f0 := frozen_of_heap hz9v 0
      have f1 := frozen_of_heap hz9v 1
      have f2 := frozen_of_heap hz9v 2
      have f3 := frozen_of_heap hz9v 3
      have f4 := frozen_of_heap hz9v 4
      refine E_loud1 13 _ rfl (by kernel_rfl) ?_
      simp only [List.getElem_toArray, List.getElem_cons_succ, List.getElem_cons_zero]
      go_wp2_with fail
      refine ⟨H9.out.2.keepT (fun z hz => ⟨Nat.lt_of_lt_of_le hz (Nat.le_trans hbz.size hw1.size), by have := HB9.out; omega⟩), ?_⟩
      refine E_done (by kernel_rfl) ?_ _
      go_wp2_with fail
      go_meet
      case rel => exact ⟨b8, b9, rfl, rfl, ⟨(H9.out.2.block b8 (Nat.lt_of_lt_of_le HL.out.1 hw1.size) hne).trans H8.out.1, H9.out.1, (hbz.trans (hw1.toBelow HB8.out hbz.size)).trans (H9.out.2.toBelow HB9.out (Nat.le_trans hbz.size hw1.size))⟩⟩
     ·go_wp2_with fail
      have X8 := Lib.hid (heap_alloc_new wB bkZ)
      have XB : Hid (Below wA.heap.size wA (wB.alloc bkZ)) := hbB.trans ((below_alloc wB bkZ).mono hsB)
      refine ⟨Keep.below_lt ((below_alloc wB _).mono hsB), ?_⟩
      have XL : Hid (wA.heap.size ≤ wB.heap.size) := hsB
      unfold bkZ at X8 XB
      generalize wB.alloc (.cells #[.slice none 0 0, .int .i64 0, .int .i64 0, .int .i64 0, .int .i64 0] 35) = wC at X8 XB ⊢
      generalize wB.heap.size = b9 at X8 XL ⊢
      clear hbB hsB
      refine E_loud1 10 _ rfl (by kernel_rfl) ?_
      simp only [List.getElem_toArray, List.getElem_cons_succ, List.getElem_cons_zero]
      go_wp2_with fail
      have Y9 := Lib.hid (heap_alloc_new wC bkZ)
      have lX := (Array.getElem?_eq_some_iff.1 X8.out).1
      have Y8 := Lib.hid (((below_alloc wC bkZ).block _ lX).trans X8.out)
      have YB : Hid (Below wA.heap.size wA (wC.alloc bkZ)) := XB.out.trans ((below_alloc wC bkZ).mono XB.out.size)
      refine ⟨Keep.below_lt ((below_alloc wC _).mono XB.out.size), ?_⟩
      have YL : Hid (wA.heap.size ≤ wC.heap.size ∧ b9 ≠ wC.heap.size) := ⟨XB.out.size, by omega⟩
      unfold bkZ at Y8 Y9 YB
      generalize wC.alloc (.cells #[.slice none 0 0, .int .i64 0, .int .i64 0, .int .i64 0, .int .i64 0] 35) = wz at Y8 Y9 YB ⊢
      generalize wC.heap.size = b8 at Y9 YL ⊢
      clear lX X8 XB
      have HZ : Hid (wz.heap[b9]? = some bkZ ∧ wz.heap[b8]? = some bkZ ∧ b9 ≠ b8 ∧ Below wA.heap.size wA wz) := ⟨Y8.out, Y9.out, YL.out.2, YB.out⟩
      have HB9 := Lib.hid XL.out
      have HB8 := Lib.hid YL.out.1
      clear Y8 Y9 YB XL YL
      have HZ : Hid (wz.heap[b8]? = some bkZ ∧ wz.heap[b9]? = some bkZ ∧ b8 ≠ b9 ∧ Below wA.heap.size wA wz) := ⟨HZ.out.2.1, HZ.out.1, Ne.symm HZ.out.2.2.1, HZ.out.2.2.2⟩
      obtain ⟨hz8, hz9, hne, hbz⟩ := HZ.out
      have hp8 := putB5 hz8 (.slice ai1 ni1 ci1) K.fin K.a K.to K.els
      have l8 := (Array.getElem?_eq_some_iff.1 hz8).1
      have l9 := (Array.getElem?_eq_some_iff.1 hz9).1
      have hz9' := (hp8.2.block b9 l9 (Ne.symm hne)).trans hz9
      have hp9 := putB5 hz9' (.slice ai2 ni2 ci2) Kq.fin Kq.a Kq.to Kq.els
      have H8 := Lib.hid hp8
      have H9 := Lib.hid hp9
      have HL := Lib.hid (And.intro l8 l9)
      have hz8u := hz8
      have hz9u := hz9
      unfold bkZ at hz8u hz9u
      obtain ⟨e0, e1, e2, e3, e4, el8⟩ := cl5 hz8u
      have f0 := frozen_of_heap hz8u 0
      have f1 := frozen_of_heap hz8u 1
      have f2 := frozen_of_heap hz8u 2
      have f3 := frozen_of_heap hz8u 3
      have f4 := frozen_of_heap hz8u 4
      clear hp8 hp9 hz8 hz9 hz9' hz8u l8 l9
      refine E_loud1 12 _ rfl (by kernel_rfl) ?_
      simp only [List.getElem_toArray, List.getElem_cons_succ, List.getElem_cons_zero]
      go_wp2_with fail
      refine ⟨H8.out.2.keepT (fun z hz => ⟨Nat.lt_of_lt_of_le hz hbz.size, by have := HB8.out; omega⟩), ?_⟩
      have hw1 := H8.out.2
      have hz9v := (H8.out.2.block b9 HL.out.2 (Ne.symm hne)).trans hz9u
      clear e0 e1 e2 e3 e4 el8 f0 f1 f2 f3 f4 hz9u
      obtain ⟨e0, e1, e2, e3, e4, el9⟩ := cl5 hz9v
      have f0 := frozen_of_heap hz9v 0
      have f1 := frozen_of_heap hz9v 1
      have f2 := frozen_of_heap hz9v 2
      have f3 := frozen_of_heap hz9v 3
      have f4 := frozen_of_heap hz9v 4
      refine E_loud1 13 _ rfl (by kernel_rfl) ?_
      simp only [List.getElem_toArray, List.getElem_cons_succ, List.getElem_cons_zero]
      go_wp2_with fail
      refine ⟨H9.out.2.keepT (fun z hz => ⟨Nat.lt_of_lt_of_le hz (Nat.le_trans hbz.size hw1.size), by have := HB9.out; omega⟩), ?_⟩
      refine E_done (by kernel_rfl) ?_ _
      go_wp2_with fail
      go_meet
      case rel => exact ⟨b8, b9, rfl, rfl, ⟨(H9.out.2.block b8 (Nat.lt_of_lt_of_le HL.out.1 hw1.size) hne).trans H8.out.1, H9.out.1, (hbz.trans (hw1.toBelow HB8.out hbz.size)).trans (H9.out.2.toBelow HB9.out (Nat.le_trans hbz.size hw1.size))⟩⟩
    case rest =>
     obtain ⟨b8, b9, rfl, rfl, T⟩ := hcut
     clear c0 c1 c2 c3 c4 d0 d1 d2 d3 d4 p0 p1 p2 p3 p4 p5 q0 q1 q2 q3 q4 q5 lp lq lc ld
     obtain ⟨wD, rfl⟩ : ∃ wD, wD = wc := ⟨_, rfl⟩
     have hn1 := (RdIns.at HV1.out).1
     have hn2 := (RdIns.at HV2.out).1
     have HG5 : Hid (decide ((ni1 : Int) < (ni2 : Int)) = false) := decide_eq_false (by have := HLE.out; omega)
     have KP1 : Hid (∀ W, Below wD.heap.size wD W → Calls Try.prog 41 #[.agg #[.slice ai1 ni1 ci1, .int .i64 K.fin, .int .i64 K.a, .int .i64 K.to, .int .i64 K.els]] W fun e w' => ∃ vK, e = .returned vK ∧ RdIns w' vK (keptL K.ins) ∧ Below W.heap.size W w') := fun W hW => kept_c K _ W ⟨_, rfl, HV1.out.ext (Ext.below (T.out.bl.trans (hW.mono T.out.bl.size)))⟩ h1000.out
     have KP2 : Hid (∀ W, Below wD.heap.size wD W → Calls Try.prog 41 #[.agg #[.slice ai2 ni2 ci2, .int .i64 Kq.fin, .int .i64 Kq.a, .int .i64 Kq.to, .int .i64 Kq.els]] W fun e w' => ∃ vK, e = .returned vK ∧ RdIns w' vK (keptL K.ins) ∧ Below W.heap.size W w') := fun W hW => by
      have := kept_c Kq _ W ⟨_, rfl, HV2.out.ext (Ext.below (T.out.bl.trans (hW.mono T.out.bl.size)))⟩ (by have := HLE.out; have := h1000.out; omega)
      rw [HKL.out] at this
      exact this
     clear hn1 hn2 HKL HLE
     have HKN : Hid ((keptL K.ins).length ≤ 1000) := by have h1 := keptL_len K.ins; have h2 := h1000.out; show _ ≤ _; omega
     have hx := T.out.h8
     have hy := T.out.h9
     unfold bkO at hx hy
     obtain ⟨x0, x1, x2, x3, x4, lx⟩ := cl5 hx
     obtain ⟨y0, y1, y2, y3, y4, ly⟩ := cl5 hy
     clear hx hy
     go_upto_region 11 with (fail)
     refine wp_region_junk (fun _ => True) (by kernel_rfl) ?_
     refine J_mobs [0, 2] _ _ _ _ (by kernel_rfl) ?_
     simp only [List.map_cons, List.map_nil, List.getElem?_toArray, List.getElem?_cons_succ, List.getElem?_cons_zero, Option.getD_some, List.size_toArray, List.length_cons, List.length_nil, Nat.reduceAdd, Nat.reduceSub]
     repeat (go_big_quiet_step (fail))
     refine wpQuiet_nil ?_
     clear x0 x1 x2 x3 x4 lx y0 y1 y2 y3 y4 ly
     refine J_loud1 1 _ rfl (by kernel_rfl) ?_
     simp only [List.getElem_toArray, List.getElem_cons_succ, List.getElem_cons_zero]
     intro wj hj
     go_wp2_with fail
     refine (KP1.out wj hj).mono ?_
     rintro e w10 ⟨v10, rfl, hr10, hb10⟩
     have HB10 := Lib.hid (hj.trans (hb10.mono hj.size))
     have HR10 := Lib.hid hr10
     obtain ⟨a10, c10, rfl, l10, m10, -⟩ := hr10
     unfold maxLen at m10
     go_wp2_with fail
     refine ⟨KeepX.below hb10, ?_⟩
     clear hb10 hj KP1
     refine J_loud1 3 _ rfl (by kernel_rfl) ?_
     simp only [List.getElem_toArray, List.getElem_cons_succ, List.getElem_cons_zero]
     intro wj hj
     go_wp2_with fail
     refine (KP2.out wj (HB10.out.trans (hj.mono HB10.out.size))).mono ?_
     rintro e w12 ⟨v12, rfl, hr12, hb12⟩
     have HB12 := Lib.hid (hj.trans (hb12.mono hj.size))
     have HR12 := Lib.hid hr12
     obtain ⟨a12, c12, rfl, l12, m12, -⟩ := hr12
     unfold maxLen at m12
     go_wp2_with fail
     refine ⟨KeepX.below hb12, ?_⟩
     clear hb12 hj KP2
     refine J_mobs [4, 5] _ _ _ _ (by kernel_rfl) ?_
     simp only [List.map_cons, List.map_nil, List.getElem?_toArray, List.getElem?_cons_succ, List.getElem?_cons_zero, Option.getD_some, List.size_toArray, List.length_cons, List.length_nil, Nat.reduceAdd, Nat.reduceSub]
     repeat (go_big_quiet_step (fail))
     refine wpQuiet_nil ?_
     refine J_done (by kernel_rfl) (fun wk hk => ?_) _
     have RX := Lib.hid ((HR10.out.ext (Ext.below HB12.out)).ext (Ext.below hk))
     have RY := Lib.hid (HR12.out.ext (Ext.below hk))
     have BK := Lib.hid ((HB10.out.trans (HB12.out.mono HB10.out.size)).trans (hk.mono (Nat.le_trans HB10.out.size HB12.out.size)))
     have TK := Lib.hid (T.out.below BK.out)
     have HNX : Hid (Below w7.heap.size w7 wk) := HA.out.trans (TK.out.bl.mono HA.out.size)
     clear HR10 HR12 HB10 HB12 hk BK T HV1 HV2 h1000
     have hx := TK.out.h8
     have hy := TK.out.h9
     unfold bkO at hx hy
     obtain ⟨x0, x1, x2, x3, x4, lx⟩ := cl5 hx
     obtain ⟨y0, y1, y2, y3, y4, ly⟩ := cl5 hy
     clear hx hy
     have g5 := HG5.out
     have g5n : decide (ni1 < ni2) = false := decide_eq_false (fun e => by have h := HG5.out; rw [decide_eq_true (show (ni1 : Int) < (ni2 : Int) by omega)] at h; cases h)
     have hkn := HKN.out
     generalize keptL K.ins = KL at *
     go_wp2_with fail
     go_loopw [12] (fun i wr2 => ∃ (e : Nat), e ≤ KL.length ∧ i = .int .i64 (e : Int) ∧ Hid (Below wk.heap.size wk wr2)) (fun i _ => KL.length - (intOf i).toNat)
     case atStart => exact ⟨0, Nat.zero_le _, rfl, Below.refl _ _⟩
     case round =>
      clear x0 x1 x2 x3 x4 lx y0 y1 y2 y3 y4 ly
      obtain ⟨e, he, rfl, HW⟩ := hrel
      obtain ⟨w2, rfl⟩ : ∃ w2, w2 = wr := ⟨wr, rfl⟩
      have HNX := Lib.hid (HNX.out.trans (HW.out.mono HNX.out.size))
      have RX := Lib.hid (RX.out.ext (Ext.below HW.out))
      have RY := Lib.hid (RY.out.ext (Ext.below HW.out))
      have TK := Lib.hid (TK.out.below HW.out)
      by_cases hle : e < KL.length
      ·as_aux_lemma =>
        have g6 : decide (e < KL.length) = true := decide_eq_true hle
        have g7 : decide ((e : Int) < (KL.length : Int)) = true := decide_eq_true (by omega)
        obtain ⟨rb, ro, rva, rfl, lrb, -, r0, r1, r2, r3, r4, r5, r6, r7, r8, r9, r10⟩ := (RdIns.at RX.out).2 e hle
        obtain ⟨sb, so, sva, rfl, lsb, -, s0, s1, s2, s3, s4, s5, s6, s7, s8, s9, s10⟩ := (RdIns.at RY.out).2 e hle
        clear r2 r3 r4 r8 r9 s2 s3 s4 s8 s9
        generalize KL.getD e default = I at *
        go_wp2_with fail
        go_quiet (fail)
        go_wp2_with fail
        go_roundw
        case rel => exact ⟨e + 1, hle, by go_num, below_dN HW.out _⟩
        case measure => simp [intOf]; omega
      ·obtain rfl : e = KL.length := by omega
       have g6 : decide (KL.length < KL.length) = false := decide_eq_false (Nat.lt_irrefl _)
       have g7 : decide ((KL.length : Int) < (KL.length : Int)) = false := decide_eq_false (by omega)
       have hx := TK.out.h8
       have hy := TK.out.h9
       unfold bkO at hx hy
       obtain ⟨x0, x1, x2, x3, x4, lx⟩ := cl5 hx
       obtain ⟨y0, y1, y2, y3, y4, ly⟩ := cl5 hy
       clear hx hy
       rcases HFIN.out with ⟨h1, h2, h3⟩ | ⟨h1, h2, h3 | h3⟩
       ·as_aux_lemma =>
         rw [h1] at y1
         rw [h2] at y3
         rw [h3] at y4
         clear h1 h2 h3 HFIN
         go_wp2_with fail
         go_roundw
         case rel => exact ⟨j + 1, hlt, by go_num, HNX⟩
         case measure => simp [intOf]; omega
       ·as_aux_lemma =>
         rw [h1] at x1
         rw [h2] at y1
         rw [h3] at y3
         clear h1 h2 h3 HFIN
         go_wp2_with fail
         go_roundw
         case rel => exact ⟨j + 1, hlt, by go_num, HNX⟩
         case measure => simp [intOf]; omega
       ·as_aux_lemma =>
         rw [h1] at x1
         rw [h2] at y1
         rw [h3] at y3
         clear h1 h2 h3 HFIN
         rcases boolTF (K.els != K.to) with g8 | g8
         ·go_wp2_with fail
          go_roundw
          case rel => exact ⟨j + 1, hlt, by go_num, HNX⟩
          case measure => simp [intOf]; omega
         ·go_wp2_with fail
          go_roundw
          case rel => exact ⟨j + 1, hlt, by go_num, HNX⟩
          case measure => simp [intOf]; omega
   ·obtain rfl : j = P.blks.length := by omega
    have g3 : decide (P.blks.length < P.blks.length) = false := decide_eq_false (Nat.lt_irrefl _)
    have g4 : decide ((P.blks.length : Int) < (P.blks.length : Int)) = false := decide_eq_false (by omega)
    go_wp2_with fail
    refine (awake17_c _).mono ?_
    rintro e w2 ⟨rfl, hb2⟩
    have BB := Lib.hid ((BB7.out.trans (HA.out.mono BB7.out.size)).trans (hb2.mono (Nat.le_trans BB7.out.size HA.out.size)))
    clear hb2
    go_wp2_with fail
    go_ret
    exact ⟨rfl, BB.out⟩
end Go.Proofs.Ytkhfddodmjnecaa
