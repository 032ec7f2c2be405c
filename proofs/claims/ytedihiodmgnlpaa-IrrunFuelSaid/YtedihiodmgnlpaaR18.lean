/-
  The statement that with more fuel what was put out begins with what was: its walk.
-/
import Derived.Test.YtedihiodmgnlpaaR17
set_option linter.all false
namespace Go.Proofs.Ytedihiodmgnlpaa
open Go.ChangeShapes Go.WideShapes Go.ChangeAt Go.RowKit
set_option maxHeartbeats 8000000
set_option linter.unusedVariables false
set_option maxRecDepth 100000

def TwoRuns (w1 : World) (oa ob : Oc) (t7 t8 : Value) (wx : World) : Prop :=
  ∃ b7 b8 aA cA aB cB, t7 = .pointer (some ⟨b7, 0, none⟩) ∧ t8 = .pointer (some ⟨b8, 0, none⟩) ∧ Hid (Below w1.heap.size w1 wx) ∧ Hid (wx.ownsRow w1.heap.size 35 1 (.slice aA oa.out.length cA) oa.out.length (oa.out.map (Value.int .u32))) ∧ Hid (wx.ownsRow w1.heap.size 35 1 (.slice aB ob.out.length cB) ob.out.length (ob.out.map (Value.int .u32))) ∧
    Hid (wx.heap[b7]? = some (.cells #[.slice aA oa.out.length cA, .int .i64 oa.ins, .int .u32 oa.exit, .int .i64 oa.e] 70 (0, 0))) ∧ Hid (wx.heap[b8]? = some (.cells #[.slice aB ob.out.length cB, .int .i64 ob.ins, .int .u32 ob.exit, .int .i64 ob.e] 70 (0, 0)))
theorem put1_heap {w : World} {g : Nat} {t : TypeId} {c : Array Value} (h : w.heap[g]? = some (.cells c t (0, 0))) (j : Nat) (x : Value) : (w.setCell ⟨g, j, none⟩ x).heap[g]? = some (.cells (c.setIfInBounds j x) t (0, 0)) := by
  exact heap_setCell_same w g j c t x h
theorem put4_heap {w : World} {g : Nat} {t : TypeId} {z0 z1 z2 z3 : Value} (h : w.heap[g]? = some (.cells #[z0, z1, z2, z3] t (0, 0))) (a b c d : Value) :
    ((((w.setCell ⟨g, 0, none⟩ a).setCell ⟨g, 1, none⟩ b).setCell ⟨g, 2, none⟩ c).setCell ⟨g, 3, none⟩ d).heap[g]? = some (.cells #[a, b, c, d] t (0, 0)) :=
  put1_heap (put1_heap (put1_heap (put1_heap h 0 a) 1 b) 2 c) 3 d
theorem put4_other (w : World) (g k : Nat) (a b c d : Value) (hk : k ≠ g) : ((((w.setCell ⟨g, 0, none⟩ a).setCell ⟨g, 1, none⟩ b).setCell ⟨g, 2, none⟩ c).setCell ⟨g, 3, none⟩ d).heap[k]? = w.heap[k]? := by
  rw [heap_setCell_other _ _ _ _ hk, heap_setCell_other _ _ _ _ hk, heap_setCell_other _ _ _ _ hk, heap_setCell_other _ _ _ _ hk]
theorem below_put4 {B : Nat} {w0 w : World} {g : Nat} (h : Below B w0 w) (hg : B ≤ g) (a b c d : Value) : Below B w0 ((((w.setCell ⟨g, 0, none⟩ a).setCell ⟨g, 1, none⟩ b).setCell ⟨g, 2, none⟩ c).setCell ⟨g, 3, none⟩ d) :=
  (((h.setCell (p := ⟨g, 0, none⟩) hg _).setCell (p := ⟨g, 1, none⟩) hg _).setCell (p := ⟨g, 2, none⟩) hg _).setCell (p := ⟨g, 3, none⟩) hg _
theorem KeepX_put4 {S : Nat → Prop} {w wn : World} {g : Nat} {a b c d : Value} (h : wn = (((w.setCell ⟨g, 0, none⟩ a).setCell ⟨g, 1, none⟩ b).setCell ⟨g, 2, none⟩ c).setCell ⟨g, 3, none⟩ d) (hS : ¬ S g) : KeepX S w wn := fun k o v hk hv => by
  have hne : k ≠ g := fun e => hS (e ▸ hk)
  subst h
  exact (World.cell?_of_block (a := ⟨k, o, none⟩) (put4_other w g k a b c d hne)).trans hv
theorem IrrunFuel_w (m : Md) (inp : List Int) (v vi : Value) (n0 n1 : Int) (w : World) (hv : MdV w v m) (hn : MdOk m) (hi : RdW w vi inp) (hiw : ∀ x ∈ inp, 0 ≤ x ∧ x < 4294967296) :
    Calls Try.prog 11 #[v, vi, .agg #[.int .i64 n0, .int .i64 n1]] w fun e w' => e = .returned (.bool true) ∧ Below w.heap.size w w' := by
  have HA := Lib.hid awake14_c
  have HF : Hid (∀ w', Ext w w' → Calls Try.prog 30 #[v] w' fun e w'' => e = .returned (.bool (fewM m)) ∧ Below w'.heap.size w' w'') := fun w' he => few_c m v w' (hv.ext he)
  have HV := Lib.hid hv
  obtain ⟨vg, vd, vp, rfl, -⟩ := hv
  have HI := Lib.hid hi
  obtain ⟨ai, ci, rfl, hi1, hi2, -⟩ := hi
  unfold maxLen at hi2
  have HRU := Lib.hid (fun fuel w' (he : Below w.heap.size w w') (hs : SzM m) (hil : inp.length ≤ 1000000) => run_c m _ _ inp fuel w' (HV.out.ext (Ext.below he)) (HI.out.ext (Ext.below he)) hs hn hil hiw)
  obtain ⟨W0, hW0⟩ : ∃ W0, W0 = allocs w [.cells #[vg, vd, vp, .int .i64 m.main] 66, .cells #[.int .i64 n0, .int .i64 n1] 80] := ⟨_, rfl⟩
  have B0 : Hid (Below w.heap.size w W0) := by rw [hW0]; exact allocs_below _ w
  have H0 : Hid (W0.heap[w.heap.size]? = some (.cells #[vg, vd, vp, .int .i64 m.main] 66 (0, 0))) := by rw [hW0]; exact allocs_heap _ w 0 (by simp)
  have H1 : Hid (W0.heap[w.heap.size + 1]? = some (.cells #[.int .i64 n0, .int .i64 n1] 80 (0, 0))) := by rw [hW0]; exact allocs_heap _ w 1 (by simp)
  have HW0 := Lib.hid hW0
  clear hW0 hn hiw
  go_enter Try.func11, Try.ntmps11
  go_wp2_with fail
  have hf := HF.out W0 (Ext.below B0.out)
  rw [HW0.out] at hf
  refine Calls.mono hf ?_
  clear hf
  rw [← HW0.out]
  rintro e w1 ⟨rfl, hb1⟩
  have H0 := Lib.hid ((hb1.block w.heap.size (Array.getElem?_eq_some_iff.1 H0.out).1).trans H0.out)
  have H1 := Lib.hid ((hb1.block (w.heap.size + 1) (Array.getElem?_eq_some_iff.1 H1.out).1).trans H1.out)
  have B1 := Lib.hid (B0.out.trans (hb1.mono B0.out.size))
  have y := fun j => cell_of_heap H0.out j
  have z := fun j => cell_of_heap H1.out j
  have y0 := y 0
  have y1 := y 1
  have y2 := y 2
  have y3 := y 3
  have z0 := z 0
  have z1 := z 1
  simp only [List.getElem?_toArray, List.getElem?_cons_zero, List.getElem?_cons_succ] at y0 y1 y2 y3 z0 z1
  have l0 : w.heap.size < w1.heap.size := (Array.getElem?_eq_some_iff.1 H0.out).1
  have l1 : w.heap.size + 1 < w1.heap.size := (Array.getElem?_eq_some_iff.1 H1.out).1
  have hBO : Hid (∀ w5, Below w1.heap.size w1 w5 → Below w.heap.size w w5) := fun w5 hb => B1.out.trans (hb.mono B1.out.size)
  clear y z hb1
  cases hfw : fewM m
  · go_wp2_with (go_at_call 31; refine (HA.out _).mono ?_; rintro e w5 ⟨rfl, hb5⟩)
    go_ret
    exact ⟨rfl, hBO.out _ hb5⟩
  · have HSZ := Lib.hid (few_sz hfw)
    clear hfw
    by_cases k1 : 40 < inp.length
    · have g1 : decide ((40 : Int) < (inp.length : Int)) = true := decide_eq_true (by omega)
      go_wp2_with (go_at_call 31; refine (HA.out _).mono ?_; rintro e w5 ⟨rfl, hb5⟩)
      go_ret
      exact ⟨rfl, hBO.out _ hb5⟩
    · have g1 : decide ((40 : Int) < (inp.length : Int)) = false := decide_eq_false (by omega)
      by_cases k2 : n0 < 0
      · have g2 := decide_eq_true k2
        go_wp2_with (go_at_call 31; refine (HA.out _).mono ?_; rintro e w5 ⟨rfl, hb5⟩)
        go_ret
        exact ⟨rfl, hBO.out _ hb5⟩
      · have g2 := decide_eq_false k2
        by_cases k3 : n1 < 0
        · have g3 := decide_eq_true k3
          go_wp2_with (go_at_call 31; refine (HA.out _).mono ?_; rintro e w5 ⟨rfl, hb5⟩)
          go_ret
          exact ⟨rfl, hBO.out _ hb5⟩
        · have g3 := decide_eq_false k3
          by_cases k4 : 3000 < n0
          · have g4 := decide_eq_true k4
            go_wp2_with (go_at_call 31; refine (HA.out _).mono ?_; rintro e w5 ⟨rfl, hb5⟩)
            go_ret
            exact ⟨rfl, hBO.out _ hb5⟩
          · have g4 := decide_eq_false k4
            by_cases k5 : 3000 < n1
            · have g5 := decide_eq_true k5
              go_wp2_with (go_at_call 31; refine (HA.out _).mono ?_; rintro e w5 ⟨rfl, hb5⟩)
              go_ret
              exact ⟨rfl, hBO.out _ hb5⟩
            · have g5 := decide_eq_false k5
              have hc0 : (clampF n0).toNat = n0.toNat := by unfold clampF; omega
              have hc1 : (clampF (n0 + n1)).toNat = n0.toNat + n1.toNat := by unfold clampF; omega
              have HPM := Lib.hid (playM_more m inp n0.toNat n1.toNat)
              have HPE := Lib.hid (playM_e m inp n0.toNat)
              have HR0 := Lib.hid (fun w' he => HRU.out n0 w' he HSZ.out (by omega))
              have HR1 := Lib.hid (fun w' he => HRU.out (n0 + n1) w' he HSZ.out (by omega))
              have HC0 := Lib.hid hc0
              have HC1 := Lib.hid hc1
              clear hc0 hc1
              obtain ⟨oa, hoa⟩ : ∃ o, playM m inp n0.toNat = o := ⟨_, rfl⟩
              obtain ⟨ob, hob⟩ : ∃ o, playM m inp (n0.toNat + n1.toNat) = o := ⟨_, rfl⟩
              have HR0 : Hid (∀ w', Below w.heap.size w w' → Calls Try.prog 33 #[.agg #[vg, vd, vp, .int .i64 m.main], .slice ai inp.length ci, .int .i64 n0] w' fun e w'' => ∃ v, e = .returned v ∧ OutV w'.heap.size w'' v oa ∧ Below w'.heap.size w' w'') := fun w' he => (HR0.out w' he).mono fun e w'' h => by
                obtain ⟨v, h1, h2, h3⟩ := h
                rw [HC0.out, hoa] at h2
                exact ⟨v, h1, h2, h3⟩
              have HR1 : Hid (∀ w', Below w.heap.size w w' → Calls Try.prog 33 #[.agg #[vg, vd, vp, .int .i64 m.main], .slice ai inp.length ci, .int .i64 (n0 + n1)] w' fun e w'' => ∃ v, e = .returned v ∧ OutV w'.heap.size w'' v ob ∧ Below w'.heap.size w' w'') := fun w' he => (HR1.out w' he).mono fun e w'' h => by
                obtain ⟨v, h1, h2, h3⟩ := h
                rw [HC1.out, hob] at h2
                exact ⟨v, h1, h2, h3⟩
              rw [hoa, hob] at HPM
              rw [hoa] at HPE
              clear hoa hob HRU HC0 HC1 HV HI HF
              go_upto_region 3 with (fail)
              go_cut [7, 8] from 38 to 50 (fun t7 t8 wx => TwoRuns w1 oa ob t7 t8 wx)
              case first =>
                have BC : Hid (Below w1.heap.size w1 w1) := Below.refl _ _
                refine wp_region_junk (fun b => b < w1.heap.size) (by kernel_rfl) ?_
                refine J_mob 0 _ rfl (by kernel_rfl) ?_
                simp only [List.getElem_toArray, List.getElem_cons_succ, List.getElem_cons_zero]
                go_big_quiet_step (fail)
                refine wpQuiet_nil ?_
                refine J_mob 1 _ rfl (by kernel_rfl) ?_
                simp only [List.getElem_toArray, List.getElem_cons_succ, List.getElem_cons_zero]
                go_big_quiet_step (fail)
                refine wpQuiet_nil ?_
                refine J_mob 2 _ rfl (by kernel_rfl) ?_
                simp only [List.getElem_toArray, List.getElem_cons_succ, List.getElem_cons_zero]
                go_big_quiet_step (fail)
                refine wpQuiet_nil ?_
                refine J_mob 3 _ rfl (by kernel_rfl) ?_
                simp only [List.getElem_toArray, List.getElem_cons_succ, List.getElem_cons_zero]
                go_big_quiet_step (fail)
                refine wpQuiet_nil ?_
                refine J_mob 5 _ rfl (by kernel_rfl) ?_
                simp only [List.getElem_toArray, List.getElem_cons_succ, List.getElem_cons_zero]
                go_big_quiet_step (fail)
                refine wpQuiet_nil ?_
                refine J_mob 6 _ rfl (by kernel_rfl) ?_
                simp only [List.getElem_toArray, List.getElem_cons_succ, List.getElem_cons_zero]
                go_big_quiet_step (fail)
                refine wpQuiet_nil ?_
                refine J_mob 7 _ rfl (by kernel_rfl) ?_
                simp only [List.getElem_toArray, List.getElem_cons_succ, List.getElem_cons_zero]
                go_big_quiet_step (fail)
                refine wpQuiet_nil ?_
                refine J_mob 8 _ rfl (by kernel_rfl) ?_
                simp only [List.getElem_toArray, List.getElem_cons_succ, List.getElem_cons_zero]
                go_big_quiet_step (fail)
                refine wpQuiet_nil ?_
                refine J_mob 9 _ rfl (by kernel_rfl) ?_
                simp only [List.getElem_toArray, List.getElem_cons_succ, List.getElem_cons_zero]
                go_big_quiet_step (fail)
                refine wpQuiet_nil ?_
                refine J_mob 10 _ rfl (by kernel_rfl) ?_
                simp only [List.getElem_toArray, List.getElem_cons_succ, List.getElem_cons_zero]
                go_big_quiet_step (fail)
                refine wpQuiet_nil ?_
                refine J_mob 11 _ rfl (by kernel_rfl) ?_
                simp only [List.getElem_toArray, List.getElem_cons_succ, List.getElem_cons_zero]
                go_big_quiet_step (fail)
                refine wpQuiet_nil ?_
                refine J_loud3 4 13 14 _ _ _ rfl rfl rfl (by kernel_rfl) ?_ ?_ ?_
                · simp only [List.getElem_toArray, List.getElem_cons_succ, List.getElem_cons_zero]
                  intro wj hj
                  have BC := Lib.hid (BC.out.trans (hj.mono BC.out.size))
                  clear hj
                  go_wp2_with fail
                  refine (HR0.out wj (hBO.out _ BC.out)).mono ?_
                  rintro e wn ⟨vn, rfl, hon, hbn⟩
                  obtain ⟨von, rfl, OA_⟩ := hon
                  obtain ⟨aA, cA, rfl⟩ := row_shape OA_
                  have OA := Lib.hid (own_base OA_ (B' := w1.heap.size) BC.out.size)
                  clear OA_
                  go_wp2_with fail
                  refine ⟨KeepX.below hbn, ?_⟩
                  have BC := Lib.hid (BC.out.trans (hbn.mono BC.out.size))
                  clear hbn
                  refine J_loud3 12 13 14 _ _ _ rfl rfl rfl (by kernel_rfl) ?_ ?_ ?_
                  · simp only [List.getElem_toArray, List.getElem_cons_succ, List.getElem_cons_zero]
                    intro wj hj
                    have BC := Lib.hid (BC.out.trans (hj.mono BC.out.size))
                    have OA := Lib.hid (own_below OA.out hj)
                    clear hj
                    go_wp2_with fail
                    refine (HR1.out wj (hBO.out _ BC.out)).mono ?_
                    rintro e wn ⟨vn, rfl, hon, hbn⟩
                    obtain ⟨von, rfl, OB_⟩ := hon
                    obtain ⟨aB, cB, rfl⟩ := row_shape OB_
                    have OB := Lib.hid (own_base OB_ (B' := w1.heap.size) BC.out.size)
                    clear OB_
                    go_wp2_with fail
                    refine ⟨KeepX.below hbn, ?_⟩
                    have BC := Lib.hid (BC.out.trans (hbn.mono BC.out.size))
                    have OA := Lib.hid (own_below OA.out hbn)
                    clear hbn
                    refine J_loud2 13 14 _ _ rfl rfl (by kernel_rfl) ?_ ?_
                    · simp only [List.getElem_toArray, List.getElem_cons_succ, List.getElem_cons_zero]
                      intro wj hj
                      have BC := Lib.hid (BC.out.trans (hj.mono BC.out.size))
                      have OA := Lib.hid (own_below OA.out hj)
                      have OB := Lib.hid (own_below OB.out hj)
                      clear hj
                      go_wp2_with fail
                      refine ⟨KeepX.below (below_alloc _ _), ?_⟩
                      obtain ⟨b7, hb7⟩ : ∃ b : Nat, b = wj.heap.size := ⟨_, rfl⟩
                      obtain ⟨wn, hwn⟩ : ∃ wn, wn = wj.alloc (.cells #[.slice none 0 0, .int .i64 0, .int .u32 0, .int .i64 0] 70) := ⟨_, rfl⟩
                      have hbn : Below wj.heap.size wj wn := by rw [hwn]; exact below_alloc wj _
                      have Z7_ : Hid (wn.heap[b7]? = some (.cells #[.slice none 0 0, .int .i64 0, .int .u32 0, .int .i64 0] 70 (0, 0))) := by rw [hb7]; exact heap_of_alloc wj _ _ hwn
                      have hlo7 : w1.heap.size ≤ b7 := by have := BC.out.size; omega
                      rw [← hwn, ← hb7]
                      have BC := Lib.hid (BC.out.trans (hbn.mono BC.out.size))
                      have OA := Lib.hid (own_below OA.out hbn)
                      have OB := Lib.hid (own_below OB.out hbn)
                      have Z7 := Z7_
                      clear hbn hwn hb7
                      refine J_loud1 14 _ rfl (by kernel_rfl) ?_
                      simp only [List.getElem_toArray, List.getElem_cons_succ, List.getElem_cons_zero]
                      intro wj hj
                      have BC := Lib.hid (BC.out.trans (hj.mono BC.out.size))
                      have OA := Lib.hid (own_below OA.out hj)
                      have OB := Lib.hid (own_below OB.out hj)
                      have Z7 := Lib.hid ((hj.block b7 (Array.getElem?_eq_some_iff.1 Z7.out).1).trans Z7.out)
                      clear hj
                      have Z7w := Z7
                      go_wp2_with fail
                      refine ⟨KeepX.below (below_alloc _ _), ?_⟩
                      obtain ⟨b8, hb8⟩ : ∃ b : Nat, b = wj.heap.size := ⟨_, rfl⟩
                      obtain ⟨wn, hwn⟩ : ∃ wn, wn = wj.alloc (.cells #[.slice none 0 0, .int .i64 0, .int .u32 0, .int .i64 0] 70) := ⟨_, rfl⟩
                      have hbn : Below wj.heap.size wj wn := by rw [hwn]; exact below_alloc wj _
                      have Z8_ : Hid (wn.heap[b8]? = some (.cells #[.slice none 0 0, .int .i64 0, .int .u32 0, .int .i64 0] 70 (0, 0))) := by rw [hb8]; exact heap_of_alloc wj _ _ hwn
                      have hlo8 : w1.heap.size ≤ b8 := by have := BC.out.size; omega
                      rw [← hwn, ← hb8]
                      have BC := Lib.hid (BC.out.trans (hbn.mono BC.out.size))
                      have OA := Lib.hid (own_below OA.out hbn)
                      have OB := Lib.hid (own_below OB.out hbn)
                      have Z7 := Lib.hid ((hbn.block b7 (Array.getElem?_eq_some_iff.1 Z7.out).1).trans Z7.out)
                      have Z8 := Z8_
                      have n78 : b7 ≠ b8 := by have := (Array.getElem?_eq_some_iff.1 Z7w.out).1; omega
                      clear hbn hwn hb8
                      refine J_loud1 15 _ rfl (by kernel_rfl) ?_
                      simp only [List.getElem_toArray, List.getElem_cons_succ, List.getElem_cons_zero]
                      intro wj hj
                      have BC := Lib.hid (BC.out.trans (hj.mono BC.out.size))
                      have OA := Lib.hid (own_below OA.out hj)
                      have OB := Lib.hid (own_below OB.out hj)
                      have Z7 := Lib.hid ((hj.block b7 (Array.getElem?_eq_some_iff.1 Z7.out).1).trans Z7.out)
                      have Z8 := Lib.hid ((hj.block b8 (Array.getElem?_eq_some_iff.1 Z8.out).1).trans Z8.out)
                      clear hj
                      have c0 := cell_of_heap Z7.out 0
                      have c1 := cell_of_heap Z7.out 1
                      have c2 := cell_of_heap Z7.out 2
                      have c3 := cell_of_heap Z7.out 3
                      have f0 := frozen_of_heap Z7.out 0
                      have f1 := frozen_of_heap Z7.out 1
                      have f2 := frozen_of_heap Z7.out 2
                      have f3 := frozen_of_heap Z7.out 3
                      simp only [List.getElem?_toArray, List.getElem?_cons_zero, List.getElem?_cons_succ] at c0 c1 c2 c3
                      have lb7 : b7 < wj.heap.size := (Array.getElem?_eq_some_iff.1 Z7.out).1
                      go_wp2_with fail
                      obtain ⟨wn, hwn⟩ : ∃ wn, wn = (((wj.setCell ⟨b7, 0, none⟩ (.slice aA oa.out.length cA)).setCell ⟨b7, 1, none⟩ (.int .i64 oa.ins)).setCell ⟨b7, 2, none⟩ (.int .u32 oa.exit)).setCell ⟨b7, 3, none⟩ (.int .i64 oa.e) := ⟨_, rfl⟩
                      rw [← hwn]
                      refine ⟨KeepX_put4 hwn (fun h => Nat.not_lt.2 hlo7 h), ?_⟩
                      have hbn : Below w1.heap.size w1 wn := by rw [hwn]; exact below_put4 BC.out hlo7 _ _ _ _
                      have BC := Lib.hid hbn
                      have OA : Hid (wn.ownsRow w1.heap.size 35 1 (.slice aA oa.out.length cA) oa.out.length (oa.out.map (Value.int .u32))) := by show World.ownsRow _ _ _ _ _ _ _; rw [hwn]; exact own_put4 OA.out _ (rows_ne OA.out (own_box (B := w1.heap.size) Z7.out hlo7 rfl) (by decide)) _ _ _ _
                      have OB : Hid (wn.ownsRow w1.heap.size 35 1 (.slice aB ob.out.length cB) ob.out.length (ob.out.map (Value.int .u32))) := by show World.ownsRow _ _ _ _ _ _ _; rw [hwn]; exact own_put4 OB.out _ (rows_ne OB.out (own_box (B := w1.heap.size) Z7.out hlo7 rfl) (by decide)) _ _ _ _
                      have Z8 : Hid (wn.heap[b8]? = some (.cells #[.slice none 0 0, .int .i64 0, .int .u32 0, .int .i64 0] 70 (0, 0))) := by show _ = _; rw [hwn]; exact (put4_other _ _ _ _ _ _ _ (Ne.symm n78)).trans Z8.out
                      have Z7 : Hid (wn.heap[b7]? = some (.cells #[.slice aA oa.out.length cA, .int .i64 oa.ins, .int .u32 oa.exit, .int .i64 oa.e] 70 (0, 0))) := by show _ = _; rw [hwn]; exact put4_heap Z7.out _ _ _ _
                      clear hwn hbn
                      clear c0 c1 c2 c3 f0 f1 f2 f3
                      refine J_last 16 _ rfl (by kernel_rfl) ?_
                      simp only [List.getElem_toArray, List.getElem_cons_succ, List.getElem_cons_zero]
                      intro wj hj
                      have BC := Lib.hid (BC.out.trans (hj.mono BC.out.size))
                      have OA := Lib.hid (own_below OA.out hj)
                      have OB := Lib.hid (own_below OB.out hj)
                      have Z7 := Lib.hid ((hj.block b7 (Array.getElem?_eq_some_iff.1 Z7.out).1).trans Z7.out)
                      have Z8 := Lib.hid ((hj.block b8 (Array.getElem?_eq_some_iff.1 Z8.out).1).trans Z8.out)
                      clear hj
                      have c0 := cell_of_heap Z8.out 0
                      have c1 := cell_of_heap Z8.out 1
                      have c2 := cell_of_heap Z8.out 2
                      have c3 := cell_of_heap Z8.out 3
                      have f0 := frozen_of_heap Z8.out 0
                      have f1 := frozen_of_heap Z8.out 1
                      have f2 := frozen_of_heap Z8.out 2
                      have f3 := frozen_of_heap Z8.out 3
                      simp only [List.getElem?_toArray, List.getElem?_cons_zero, List.getElem?_cons_succ] at c0 c1 c2 c3
                      have lb8 : b8 < wj.heap.size := (Array.getElem?_eq_some_iff.1 Z8.out).1
                      go_wp2_with fail
                      obtain ⟨wn, hwn⟩ : ∃ wn, wn = (((wj.setCell ⟨b8, 0, none⟩ (.slice aB ob.out.length cB)).setCell ⟨b8, 1, none⟩ (.int .i64 ob.ins)).setCell ⟨b8, 2, none⟩ (.int .u32 ob.exit)).setCell ⟨b8, 3, none⟩ (.int .i64 ob.e) := ⟨_, rfl⟩
                      rw [← hwn]
                      have hbn : Below w1.heap.size w1 wn := by rw [hwn]; exact below_put4 BC.out hlo8 _ _ _ _
                      have BC := Lib.hid hbn
                      have OA : Hid (wn.ownsRow w1.heap.size 35 1 (.slice aA oa.out.length cA) oa.out.length (oa.out.map (Value.int .u32))) := by show World.ownsRow _ _ _ _ _ _ _; rw [hwn]; exact own_put4 OA.out _ (rows_ne OA.out (own_box (B := w1.heap.size) Z8.out hlo8 rfl) (by decide)) _ _ _ _
                      have OB : Hid (wn.ownsRow w1.heap.size 35 1 (.slice aB ob.out.length cB) ob.out.length (ob.out.map (Value.int .u32))) := by show World.ownsRow _ _ _ _ _ _ _; rw [hwn]; exact own_put4 OB.out _ (rows_ne OB.out (own_box (B := w1.heap.size) Z8.out hlo8 rfl) (by decide)) _ _ _ _
                      have Z7 : Hid (wn.heap[b7]? = some (.cells #[.slice aA oa.out.length cA, .int .i64 oa.ins, .int .u32 oa.exit, .int .i64 oa.e] 70 (0, 0))) := by show _ = _; rw [hwn]; exact (put4_other _ _ _ _ _ _ _ n78).trans Z7.out
                      have Z8 : Hid (wn.heap[b8]? = some (.cells #[.slice aB ob.out.length cB, .int .i64 ob.ins, .int .u32 ob.exit, .int .i64 ob.e] 70 (0, 0))) := by show _ = _; rw [hwn]; exact put4_heap Z8.out _ _ _ _
                      clear hwn hbn
                      clear c0 c1 c2 c3 f0 f1 f2 f3
                      refine J_done (by kernel_rfl) (fun wk hk => ?_) _
                      have BC := Lib.hid (BC.out.trans (hk.mono BC.out.size))
                      have OA := Lib.hid (own_below OA.out hk)
                      have OB := Lib.hid (own_below OB.out hk)
                      have Z7 := Lib.hid ((hk.block b7 (Array.getElem?_eq_some_iff.1 Z7.out).1).trans Z7.out)
                      have Z8 := Lib.hid ((hk.block b8 (Array.getElem?_eq_some_iff.1 Z8.out).1).trans Z8.out)
                      clear hk
                      go_wp2_with fail
                      go_meet
                      case rel => exact ⟨b7, b8, aA, cA, aB, cB, rfl, rfl, BC, OA, OB, Z7, Z8⟩
                    · simp only [List.getElem_toArray, List.getElem_cons_succ, List.getElem_cons_zero]
                      intro wj hj
                      have BC := Lib.hid (BC.out.trans (hj.mono BC.out.size))
                      have OA := Lib.hid (own_below OA.out hj)
                      have OB := Lib.hid (own_below OB.out hj)
                      clear hj
                      go_wp2_with fail
                      refine ⟨KeepX.below (below_alloc _ _), ?_⟩
                      obtain ⟨b8, hb8⟩ : ∃ b : Nat, b = wj.heap.size := ⟨_, rfl⟩
                      obtain ⟨wn, hwn⟩ : ∃ wn, wn = wj.alloc (.cells #[.slice none 0 0, .int .i64 0, .int .u32 0, .int .i64 0] 70) := ⟨_, rfl⟩
                      have hbn : Below wj.heap.size wj wn := by rw [hwn]; exact below_alloc wj _
                      have Z8_ : Hid (wn.heap[b8]? = some (.cells #[.slice none 0 0, .int .i64 0, .int .u32 0, .int .i64 0] 70 (0, 0))) := by rw [hb8]; exact heap_of_alloc wj _ _ hwn
                      have hlo8 : w1.heap.size ≤ b8 := by have := BC.out.size; omega
                      rw [← hwn, ← hb8]
                      have BC := Lib.hid (BC.out.trans (hbn.mono BC.out.size))
                      have OA := Lib.hid (own_below OA.out hbn)
                      have OB := Lib.hid (own_below OB.out hbn)
                      have Z8 := Z8_
                      clear hbn hwn hb8
                      refine J_loud1 13 _ rfl (by kernel_rfl) ?_
                      simp only [List.getElem_toArray, List.getElem_cons_succ, List.getElem_cons_zero]
                      intro wj hj
                      have BC := Lib.hid (BC.out.trans (hj.mono BC.out.size))
                      have OA := Lib.hid (own_below OA.out hj)
                      have OB := Lib.hid (own_below OB.out hj)
                      have Z8 := Lib.hid ((hj.block b8 (Array.getElem?_eq_some_iff.1 Z8.out).1).trans Z8.out)
                      clear hj
                      have Z8w := Z8
                      go_wp2_with fail
                      refine ⟨KeepX.below (below_alloc _ _), ?_⟩
                      obtain ⟨b7, hb7⟩ : ∃ b : Nat, b = wj.heap.size := ⟨_, rfl⟩
                      obtain ⟨wn, hwn⟩ : ∃ wn, wn = wj.alloc (.cells #[.slice none 0 0, .int .i64 0, .int .u32 0, .int .i64 0] 70) := ⟨_, rfl⟩
                      have hbn : Below wj.heap.size wj wn := by rw [hwn]; exact below_alloc wj _
                      have Z7_ : Hid (wn.heap[b7]? = some (.cells #[.slice none 0 0, .int .i64 0, .int .u32 0, .int .i64 0] 70 (0, 0))) := by rw [hb7]; exact heap_of_alloc wj _ _ hwn
                      have hlo7 : w1.heap.size ≤ b7 := by have := BC.out.size; omega
                      rw [← hwn, ← hb7]
                      have BC := Lib.hid (BC.out.trans (hbn.mono BC.out.size))
                      have OA := Lib.hid (own_below OA.out hbn)
                      have OB := Lib.hid (own_below OB.out hbn)
                      have Z8 := Lib.hid ((hbn.block b8 (Array.getElem?_eq_some_iff.1 Z8.out).1).trans Z8.out)
                      have Z7 := Z7_
                      have n78 : b7 ≠ b8 := by have := (Array.getElem?_eq_some_iff.1 Z8w.out).1; omega
                      clear hbn hwn hb7
                      refine J_loud1 15 _ rfl (by kernel_rfl) ?_
                      simp only [List.getElem_toArray, List.getElem_cons_succ, List.getElem_cons_zero]
                      intro wj hj
                      have BC := Lib.hid (BC.out.trans (hj.mono BC.out.size))
                      have OA := Lib.hid (own_below OA.out hj)
                      have OB := Lib.hid (own_below OB.out hj)
                      have Z7 := Lib.hid ((hj.block b7 (Array.getElem?_eq_some_iff.1 Z7.out).1).trans Z7.out)
                      have Z8 := Lib.hid ((hj.block b8 (Array.getElem?_eq_some_iff.1 Z8.out).1).trans Z8.out)
                      clear hj
                      have c0 := cell_of_heap Z7.out 0
                      have c1 := cell_of_heap Z7.out 1
                      have c2 := cell_of_heap Z7.out 2
                      have c3 := cell_of_heap Z7.out 3
                      have f0 := frozen_of_heap Z7.out 0
                      have f1 := frozen_of_heap Z7.out 1
                      have f2 := frozen_of_heap Z7.out 2
                      have f3 := frozen_of_heap Z7.out 3
                      simp only [List.getElem?_toArray, List.getElem?_cons_zero, List.getElem?_cons_succ] at c0 c1 c2 c3
                      have lb7 : b7 < wj.heap.size := (Array.getElem?_eq_some_iff.1 Z7.out).1
                      go_wp2_with fail
                      obtain ⟨wn, hwn⟩ : ∃ wn, wn = (((wj.setCell ⟨b7, 0, none⟩ (.slice aA oa.out.length cA)).setCell ⟨b7, 1, none⟩ (.int .i64 oa.ins)).setCell ⟨b7, 2, none⟩ (.int .u32 oa.exit)).setCell ⟨b7, 3, none⟩ (.int .i64 oa.e) := ⟨_, rfl⟩
                      rw [← hwn]
                      refine ⟨KeepX_put4 hwn (fun h => Nat.not_lt.2 hlo7 h), ?_⟩
                      have hbn : Below w1.heap.size w1 wn := by rw [hwn]; exact below_put4 BC.out hlo7 _ _ _ _
                      have BC := Lib.hid hbn
                      have OA : Hid (wn.ownsRow w1.heap.size 35 1 (.slice aA oa.out.length cA) oa.out.length (oa.out.map (Value.int .u32))) := by show World.ownsRow _ _ _ _ _ _ _; rw [hwn]; exact own_put4 OA.out _ (rows_ne OA.out (own_box (B := w1.heap.size) Z7.out hlo7 rfl) (by decide)) _ _ _ _
                      have OB : Hid (wn.ownsRow w1.heap.size 35 1 (.slice aB ob.out.length cB) ob.out.length (ob.out.map (Value.int .u32))) := by show World.ownsRow _ _ _ _ _ _ _; rw [hwn]; exact own_put4 OB.out _ (rows_ne OB.out (own_box (B := w1.heap.size) Z7.out hlo7 rfl) (by decide)) _ _ _ _
                      have Z8 : Hid (wn.heap[b8]? = some (.cells #[.slice none 0 0, .int .i64 0, .int .u32 0, .int .i64 0] 70 (0, 0))) := by show _ = _; rw [hwn]; exact (put4_other _ _ _ _ _ _ _ (Ne.symm n78)).trans Z8.out
                      have Z7 : Hid (wn.heap[b7]? = some (.cells #[.slice aA oa.out.length cA, .int .i64 oa.ins, .int .u32 oa.exit, .int .i64 oa.e] 70 (0, 0))) := by show _ = _; rw [hwn]; exact put4_heap Z7.out _ _ _ _
                      clear hwn hbn
                      clear c0 c1 c2 c3 f0 f1 f2 f3
                      refine J_last 16 _ rfl (by kernel_rfl) ?_
                      simp only [List.getElem_toArray, List.getElem_cons_succ, List.getElem_cons_zero]
                      intro wj hj
                      have BC := Lib.hid (BC.out.trans (hj.mono BC.out.size))
                      have OA := Lib.hid (own_below OA.out hj)
                      have OB := Lib.hid (own_below OB.out hj)
                      have Z7 := Lib.hid ((hj.block b7 (Array.getElem?_eq_some_iff.1 Z7.out).1).trans Z7.out)
                      have Z8 := Lib.hid ((hj.block b8 (Array.getElem?_eq_some_iff.1 Z8.out).1).trans Z8.out)
                      clear hj
                      have c0 := cell_of_heap Z8.out 0
                      have c1 := cell_of_heap Z8.out 1
                      have c2 := cell_of_heap Z8.out 2
                      have c3 := cell_of_heap Z8.out 3
                      have f0 := frozen_of_heap Z8.out 0
                      have f1 := frozen_of_heap Z8.out 1
                      have f2 := frozen_of_heap Z8.out 2
                      have f3 := frozen_of_heap Z8.out 3
                      simp only [List.getElem?_toArray, List.getElem?_cons_zero, List.getElem?_cons_succ] at c0 c1 c2 c3
                      have lb8 : b8 < wj.heap.size := (Array.getElem?_eq_some_iff.1 Z8.out).1
                      go_wp2_with fail
                      obtain ⟨wn, hwn⟩ : ∃ wn, wn = (((wj.setCell ⟨b8, 0, none⟩ (.slice aB ob.out.length cB)).setCell ⟨b8, 1, none⟩ (.int .i64 ob.ins)).setCell ⟨b8, 2, none⟩ (.int .u32 ob.exit)).setCell ⟨b8, 3, none⟩ (.int .i64 ob.e) := ⟨_, rfl⟩
                      rw [← hwn]
                      have hbn : Below w1.heap.size w1 wn := by rw [hwn]; exact below_put4 BC.out hlo8 _ _ _ _
                      have BC := Lib.hid hbn
                      have OA : Hid (wn.ownsRow w1.heap.size 35 1 (.slice aA oa.out.length cA) oa.out.length (oa.out.map (Value.int .u32))) := by show World.ownsRow _ _ _ _ _ _ _; rw [hwn]; exact own_put4 OA.out _ (rows_ne OA.out (own_box (B := w1.heap.size) Z8.out hlo8 rfl) (by decide)) _ _ _ _
                      have OB : Hid (wn.ownsRow w1.heap.size 35 1 (.slice aB ob.out.length cB) ob.out.length (ob.out.map (Value.int .u32))) := by show World.ownsRow _ _ _ _ _ _ _; rw [hwn]; exact own_put4 OB.out _ (rows_ne OB.out (own_box (B := w1.heap.size) Z8.out hlo8 rfl) (by decide)) _ _ _ _
                      have Z7 : Hid (wn.heap[b7]? = some (.cells #[.slice aA oa.out.length cA, .int .i64 oa.ins, .int .u32 oa.exit, .int .i64 oa.e] 70 (0, 0))) := by show _ = _; rw [hwn]; exact (put4_other _ _ _ _ _ _ _ n78).trans Z7.out
                      have Z8 : Hid (wn.heap[b8]? = some (.cells #[.slice aB ob.out.length cB, .int .i64 ob.ins, .int .u32 ob.exit, .int .i64 ob.e] 70 (0, 0))) := by show _ = _; rw [hwn]; exact put4_heap Z8.out _ _ _ _
                      clear hwn hbn
                      clear c0 c1 c2 c3 f0 f1 f2 f3
                      refine J_done (by kernel_rfl) (fun wk hk => ?_) _
                      have BC := Lib.hid (BC.out.trans (hk.mono BC.out.size))
                      have OA := Lib.hid (own_below OA.out hk)
                      have OB := Lib.hid (own_below OB.out hk)
                      have Z7 := Lib.hid ((hk.block b7 (Array.getElem?_eq_some_iff.1 Z7.out).1).trans Z7.out)
                      have Z8 := Lib.hid ((hk.block b8 (Array.getElem?_eq_some_iff.1 Z8.out).1).trans Z8.out)
                      clear hk
                      go_wp2_with fail
                      go_meet
                      case rel => exact ⟨b7, b8, aA, cA, aB, cB, rfl, rfl, BC, OA, OB, Z7, Z8⟩
                  · simp only [List.getElem_toArray, List.getElem_cons_succ, List.getElem_cons_zero]
                    intro wj hj
                    have BC := Lib.hid (BC.out.trans (hj.mono BC.out.size))
                    have OA := Lib.hid (own_below OA.out hj)
                    clear hj
                    go_wp2_with fail
                    refine ⟨KeepX.below (below_alloc _ _), ?_⟩
                    obtain ⟨b7, hb7⟩ : ∃ b : Nat, b = wj.heap.size := ⟨_, rfl⟩
                    obtain ⟨wn, hwn⟩ : ∃ wn, wn = wj.alloc (.cells #[.slice none 0 0, .int .i64 0, .int .u32 0, .int .i64 0] 70) := ⟨_, rfl⟩
                    have hbn : Below wj.heap.size wj wn := by rw [hwn]; exact below_alloc wj _
                    have Z7_ : Hid (wn.heap[b7]? = some (.cells #[.slice none 0 0, .int .i64 0, .int .u32 0, .int .i64 0] 70 (0, 0))) := by rw [hb7]; exact heap_of_alloc wj _ _ hwn
                    have hlo7 : w1.heap.size ≤ b7 := by have := BC.out.size; omega
                    rw [← hwn, ← hb7]
                    have BC := Lib.hid (BC.out.trans (hbn.mono BC.out.size))
                    have OA := Lib.hid (own_below OA.out hbn)
                    have Z7 := Z7_
                    clear hbn hwn hb7
                    refine J_loud2 12 14 _ _ rfl rfl (by kernel_rfl) ?_ ?_
                    · simp only [List.getElem_toArray, List.getElem_cons_succ, List.getElem_cons_zero]
                      intro wj hj
                      have BC := Lib.hid (BC.out.trans (hj.mono BC.out.size))
                      have OA := Lib.hid (own_below OA.out hj)
                      have Z7 := Lib.hid ((hj.block b7 (Array.getElem?_eq_some_iff.1 Z7.out).1).trans Z7.out)
                      clear hj
                      go_wp2_with fail
                      refine (HR1.out wj (hBO.out _ BC.out)).mono ?_
                      rintro e wn ⟨vn, rfl, hon, hbn⟩
                      obtain ⟨von, rfl, OB_⟩ := hon
                      obtain ⟨aB, cB, rfl⟩ := row_shape OB_
                      have OB := Lib.hid (own_base OB_ (B' := w1.heap.size) BC.out.size)
                      clear OB_
                      go_wp2_with fail
                      refine ⟨KeepX.below hbn, ?_⟩
                      have BC := Lib.hid (BC.out.trans (hbn.mono BC.out.size))
                      have OA := Lib.hid (own_below OA.out hbn)
                      have Z7 := Lib.hid ((hbn.block b7 (Array.getElem?_eq_some_iff.1 Z7.out).1).trans Z7.out)
                      clear hbn
                      refine J_loud1 14 _ rfl (by kernel_rfl) ?_
                      simp only [List.getElem_toArray, List.getElem_cons_succ, List.getElem_cons_zero]
                      intro wj hj
                      have BC := Lib.hid (BC.out.trans (hj.mono BC.out.size))
                      have OA := Lib.hid (own_below OA.out hj)
                      have OB := Lib.hid (own_below OB.out hj)
                      have Z7 := Lib.hid ((hj.block b7 (Array.getElem?_eq_some_iff.1 Z7.out).1).trans Z7.out)
                      clear hj
                      have Z7w := Z7
                      go_wp2_with fail
                      refine ⟨KeepX.below (below_alloc _ _), ?_⟩
                      obtain ⟨b8, hb8⟩ : ∃ b : Nat, b = wj.heap.size := ⟨_, rfl⟩
                      obtain ⟨wn, hwn⟩ : ∃ wn, wn = wj.alloc (.cells #[.slice none 0 0, .int .i64 0, .int .u32 0, .int .i64 0] 70) := ⟨_, rfl⟩
                      have hbn : Below wj.heap.size wj wn := by rw [hwn]; exact below_alloc wj _
                      have Z8_ : Hid (wn.heap[b8]? = some (.cells #[.slice none 0 0, .int .i64 0, .int .u32 0, .int .i64 0] 70 (0, 0))) := by rw [hb8]; exact heap_of_alloc wj _ _ hwn
                      have hlo8 : w1.heap.size ≤ b8 := by have := BC.out.size; omega
                      rw [← hwn, ← hb8]
                      have BC := Lib.hid (BC.out.trans (hbn.mono BC.out.size))
                      have OA := Lib.hid (own_below OA.out hbn)
                      have OB := Lib.hid (own_below OB.out hbn)
                      have Z7 := Lib.hid ((hbn.block b7 (Array.getElem?_eq_some_iff.1 Z7.out).1).trans Z7.out)
                      have Z8 := Z8_
                      have n78 : b7 ≠ b8 := by have := (Array.getElem?_eq_some_iff.1 Z7w.out).1; omega
                      clear hbn hwn hb8
                      refine J_loud1 15 _ rfl (by kernel_rfl) ?_
                      simp only [List.getElem_toArray, List.getElem_cons_succ, List.getElem_cons_zero]
                      intro wj hj
                      have BC := Lib.hid (BC.out.trans (hj.mono BC.out.size))
                      have OA := Lib.hid (own_below OA.out hj)
                      have OB := Lib.hid (own_below OB.out hj)
                      have Z7 := Lib.hid ((hj.block b7 (Array.getElem?_eq_some_iff.1 Z7.out).1).trans Z7.out)
                      have Z8 := Lib.hid ((hj.block b8 (Array.getElem?_eq_some_iff.1 Z8.out).1).trans Z8.out)
                      clear hj
                      have c0 := cell_of_heap Z7.out 0
                      have c1 := cell_of_heap Z7.out 1
                      have c2 := cell_of_heap Z7.out 2
                      have c3 := cell_of_heap Z7.out 3
                      have f0 := frozen_of_heap Z7.out 0
                      have f1 := frozen_of_heap Z7.out 1
                      have f2 := frozen_of_heap Z7.out 2
                      have f3 := frozen_of_heap Z7.out 3
                      simp only [List.getElem?_toArray, List.getElem?_cons_zero, List.getElem?_cons_succ] at c0 c1 c2 c3
                      have lb7 : b7 < wj.heap.size := (Array.getElem?_eq_some_iff.1 Z7.out).1
                      go_wp2_with fail
                      obtain ⟨wn, hwn⟩ : ∃ wn, wn = (((wj.setCell ⟨b7, 0, none⟩ (.slice aA oa.out.length cA)).setCell ⟨b7, 1, none⟩ (.int .i64 oa.ins)).setCell ⟨b7, 2, none⟩ (.int .u32 oa.exit)).setCell ⟨b7, 3, none⟩ (.int .i64 oa.e) := ⟨_, rfl⟩
                      rw [← hwn]
                      refine ⟨KeepX_put4 hwn (fun h => Nat.not_lt.2 hlo7 h), ?_⟩
                      have hbn : Below w1.heap.size w1 wn := by rw [hwn]; exact below_put4 BC.out hlo7 _ _ _ _
                      have BC := Lib.hid hbn
                      have OA : Hid (wn.ownsRow w1.heap.size 35 1 (.slice aA oa.out.length cA) oa.out.length (oa.out.map (Value.int .u32))) := by show World.ownsRow _ _ _ _ _ _ _; rw [hwn]; exact own_put4 OA.out _ (rows_ne OA.out (own_box (B := w1.heap.size) Z7.out hlo7 rfl) (by decide)) _ _ _ _
                      have OB : Hid (wn.ownsRow w1.heap.size 35 1 (.slice aB ob.out.length cB) ob.out.length (ob.out.map (Value.int .u32))) := by show World.ownsRow _ _ _ _ _ _ _; rw [hwn]; exact own_put4 OB.out _ (rows_ne OB.out (own_box (B := w1.heap.size) Z7.out hlo7 rfl) (by decide)) _ _ _ _
                      have Z8 : Hid (wn.heap[b8]? = some (.cells #[.slice none 0 0, .int .i64 0, .int .u32 0, .int .i64 0] 70 (0, 0))) := by show _ = _; rw [hwn]; exact (put4_other _ _ _ _ _ _ _ (Ne.symm n78)).trans Z8.out
                      have Z7 : Hid (wn.heap[b7]? = some (.cells #[.slice aA oa.out.length cA, .int .i64 oa.ins, .int .u32 oa.exit, .int .i64 oa.e] 70 (0, 0))) := by show _ = _; rw [hwn]; exact put4_heap Z7.out _ _ _ _
                      clear hwn hbn
                      clear c0 c1 c2 c3 f0 f1 f2 f3
                      refine J_last 16 _ rfl (by kernel_rfl) ?_
                      simp only [List.getElem_toArray, List.getElem_cons_succ, List.getElem_cons_zero]
                      intro wj hj
                      have BC := Lib.hid (BC.out.trans (hj.mono BC.out.size))
                      have OA := Lib.hid (own_below OA.out hj)
                      have OB := Lib.hid (own_below OB.out hj)
                      have Z7 := Lib.hid ((hj.block b7 (Array.getElem?_eq_some_iff.1 Z7.out).1).trans Z7.out)
                      have Z8 := Lib.hid ((hj.block b8 (Array.getElem?_eq_some_iff.1 Z8.out).1).trans Z8.out)
                      clear hj
                      have c0 := cell_of_heap Z8.out 0
                      have c1 := cell_of_heap Z8.out 1
                      have c2 := cell_of_heap Z8.out 2
                      have c3 := cell_of_heap Z8.out 3
                      have f0 := frozen_of_heap Z8.out 0
                      have f1 := frozen_of_heap Z8.out 1
                      have f2 := frozen_of_heap Z8.out 2
                      have f3 := frozen_of_heap Z8.out 3
                      simp only [List.getElem?_toArray, List.getElem?_cons_zero, List.getElem?_cons_succ] at c0 c1 c2 c3
                      have lb8 : b8 < wj.heap.size := (Array.getElem?_eq_some_iff.1 Z8.out).1
                      go_wp2_with fail
                      obtain ⟨wn, hwn⟩ : ∃ wn, wn = (((wj.setCell ⟨b8, 0, none⟩ (.slice aB ob.out.length cB)).setCell ⟨b8, 1, none⟩ (.int .i64 ob.ins)).setCell ⟨b8, 2, none⟩ (.int .u32 ob.exit)).setCell ⟨b8, 3, none⟩ (.int .i64 ob.e) := ⟨_, rfl⟩
                      rw [← hwn]
                      have hbn : Below w1.heap.size w1 wn := by rw [hwn]; exact below_put4 BC.out hlo8 _ _ _ _
                      have BC := Lib.hid hbn
                      have OA : Hid (wn.ownsRow w1.heap.size 35 1 (.slice aA oa.out.length cA) oa.out.length (oa.out.map (Value.int .u32))) := by show World.ownsRow _ _ _ _ _ _ _; rw [hwn]; exact own_put4 OA.out _ (rows_ne OA.out (own_box (B := w1.heap.size) Z8.out hlo8 rfl) (by decide)) _ _ _ _
                      have OB : Hid (wn.ownsRow w1.heap.size 35 1 (.slice aB ob.out.length cB) ob.out.length (ob.out.map (Value.int .u32))) := by show World.ownsRow _ _ _ _ _ _ _; rw [hwn]; exact own_put4 OB.out _ (rows_ne OB.out (own_box (B := w1.heap.size) Z8.out hlo8 rfl) (by decide)) _ _ _ _
                      have Z7 : Hid (wn.heap[b7]? = some (.cells #[.slice aA oa.out.length cA, .int .i64 oa.ins, .int .u32 oa.exit, .int .i64 oa.e] 70 (0, 0))) := by show _ = _; rw [hwn]; exact (put4_other _ _ _ _ _ _ _ n78).trans Z7.out
                      have Z8 : Hid (wn.heap[b8]? = some (.cells #[.slice aB ob.out.length cB, .int .i64 ob.ins, .int .u32 ob.exit, .int .i64 ob.e] 70 (0, 0))) := by show _ = _; rw [hwn]; exact put4_heap Z8.out _ _ _ _
                      clear hwn hbn
                      clear c0 c1 c2 c3 f0 f1 f2 f3
                      refine J_done (by kernel_rfl) (fun wk hk => ?_) _
                      have BC := Lib.hid (BC.out.trans (hk.mono BC.out.size))
                      have OA := Lib.hid (own_below OA.out hk)
                      have OB := Lib.hid (own_below OB.out hk)
                      have Z7 := Lib.hid ((hk.block b7 (Array.getElem?_eq_some_iff.1 Z7.out).1).trans Z7.out)
                      have Z8 := Lib.hid ((hk.block b8 (Array.getElem?_eq_some_iff.1 Z8.out).1).trans Z8.out)
                      clear hk
                      go_wp2_with fail
                      go_meet
                      case rel => exact ⟨b7, b8, aA, cA, aB, cB, rfl, rfl, BC, OA, OB, Z7, Z8⟩
                    · simp only [List.getElem_toArray, List.getElem_cons_succ, List.getElem_cons_zero]
                      intro wj hj
                      have BC := Lib.hid (BC.out.trans (hj.mono BC.out.size))
                      have OA := Lib.hid (own_below OA.out hj)
                      have Z7 := Lib.hid ((hj.block b7 (Array.getElem?_eq_some_iff.1 Z7.out).1).trans Z7.out)
                      clear hj
                      have Z7w := Z7
                      go_wp2_with fail
                      refine ⟨KeepX.below (below_alloc _ _), ?_⟩
                      obtain ⟨b8, hb8⟩ : ∃ b : Nat, b = wj.heap.size := ⟨_, rfl⟩
                      obtain ⟨wn, hwn⟩ : ∃ wn, wn = wj.alloc (.cells #[.slice none 0 0, .int .i64 0, .int .u32 0, .int .i64 0] 70) := ⟨_, rfl⟩
                      have hbn : Below wj.heap.size wj wn := by rw [hwn]; exact below_alloc wj _
                      have Z8_ : Hid (wn.heap[b8]? = some (.cells #[.slice none 0 0, .int .i64 0, .int .u32 0, .int .i64 0] 70 (0, 0))) := by rw [hb8]; exact heap_of_alloc wj _ _ hwn
                      have hlo8 : w1.heap.size ≤ b8 := by have := BC.out.size; omega
                      rw [← hwn, ← hb8]
                      have BC := Lib.hid (BC.out.trans (hbn.mono BC.out.size))
                      have OA := Lib.hid (own_below OA.out hbn)
                      have Z7 := Lib.hid ((hbn.block b7 (Array.getElem?_eq_some_iff.1 Z7.out).1).trans Z7.out)
                      have Z8 := Z8_
                      have n78 : b7 ≠ b8 := by have := (Array.getElem?_eq_some_iff.1 Z7w.out).1; omega
                      clear hbn hwn hb8
                      refine J_loud1 12 _ rfl (by kernel_rfl) ?_
                      simp only [List.getElem_toArray, List.getElem_cons_succ, List.getElem_cons_zero]
                      intro wj hj
                      have BC := Lib.hid (BC.out.trans (hj.mono BC.out.size))
                      have OA := Lib.hid (own_below OA.out hj)
                      have Z7 := Lib.hid ((hj.block b7 (Array.getElem?_eq_some_iff.1 Z7.out).1).trans Z7.out)
                      have Z8 := Lib.hid ((hj.block b8 (Array.getElem?_eq_some_iff.1 Z8.out).1).trans Z8.out)
                      clear hj
                      go_wp2_with fail
                      refine (HR1.out wj (hBO.out _ BC.out)).mono ?_
                      rintro e wn ⟨vn, rfl, hon, hbn⟩
                      obtain ⟨von, rfl, OB_⟩ := hon
                      obtain ⟨aB, cB, rfl⟩ := row_shape OB_
                      have OB := Lib.hid (own_base OB_ (B' := w1.heap.size) BC.out.size)
                      clear OB_
                      go_wp2_with fail
                      refine ⟨KeepX.below hbn, ?_⟩
                      have BC := Lib.hid (BC.out.trans (hbn.mono BC.out.size))
                      have OA := Lib.hid (own_below OA.out hbn)
                      have Z7 := Lib.hid ((hbn.block b7 (Array.getElem?_eq_some_iff.1 Z7.out).1).trans Z7.out)
                      have Z8 := Lib.hid ((hbn.block b8 (Array.getElem?_eq_some_iff.1 Z8.out).1).trans Z8.out)
                      clear hbn
                      refine J_loud1 15 _ rfl (by kernel_rfl) ?_
                      simp only [List.getElem_toArray, List.getElem_cons_succ, List.getElem_cons_zero]
                      intro wj hj
                      have BC := Lib.hid (BC.out.trans (hj.mono BC.out.size))
                      have OA := Lib.hid (own_below OA.out hj)
                      have OB := Lib.hid (own_below OB.out hj)
                      have Z7 := Lib.hid ((hj.block b7 (Array.getElem?_eq_some_iff.1 Z7.out).1).trans Z7.out)
                      have Z8 := Lib.hid ((hj.block b8 (Array.getElem?_eq_some_iff.1 Z8.out).1).trans Z8.out)
                      clear hj
                      have c0 := cell_of_heap Z7.out 0
                      have c1 := cell_of_heap Z7.out 1
                      have c2 := cell_of_heap Z7.out 2
                      have c3 := cell_of_heap Z7.out 3
                      have f0 := frozen_of_heap Z7.out 0
                      have f1 := frozen_of_heap Z7.out 1
                      have f2 := frozen_of_heap Z7.out 2
                      have f3 := frozen_of_heap Z7.out 3
                      simp only [List.getElem?_toArray, List.getElem?_cons_zero, List.getElem?_cons_succ] at c0 c1 c2 c3
                      have lb7 : b7 < wj.heap.size := (Array.getElem?_eq_some_iff.1 Z7.out).1
                      go_wp2_with fail
                      obtain ⟨wn, hwn⟩ : ∃ wn, wn = (((wj.setCell ⟨b7, 0, none⟩ (.slice aA oa.out.length cA)).setCell ⟨b7, 1, none⟩ (.int .i64 oa.ins)).setCell ⟨b7, 2, none⟩ (.int .u32 oa.exit)).setCell ⟨b7, 3, none⟩ (.int .i64 oa.e) := ⟨_, rfl⟩
                      rw [← hwn]
                      refine ⟨KeepX_put4 hwn (fun h => Nat.not_lt.2 hlo7 h), ?_⟩
                      have hbn : Below w1.heap.size w1 wn := by rw [hwn]; exact below_put4 BC.out hlo7 _ _ _ _
                      have BC := Lib.hid hbn
                      have OA : Hid (wn.ownsRow w1.heap.size 35 1 (.slice aA oa.out.length cA) oa.out.length (oa.out.map (Value.int .u32))) := by show World.ownsRow _ _ _ _ _ _ _; rw [hwn]; exact own_put4 OA.out _ (rows_ne OA.out (own_box (B := w1.heap.size) Z7.out hlo7 rfl) (by decide)) _ _ _ _
                      have OB : Hid (wn.ownsRow w1.heap.size 35 1 (.slice aB ob.out.length cB) ob.out.length (ob.out.map (Value.int .u32))) := by show World.ownsRow _ _ _ _ _ _ _; rw [hwn]; exact own_put4 OB.out _ (rows_ne OB.out (own_box (B := w1.heap.size) Z7.out hlo7 rfl) (by decide)) _ _ _ _
                      have Z8 : Hid (wn.heap[b8]? = some (.cells #[.slice none 0 0, .int .i64 0, .int .u32 0, .int .i64 0] 70 (0, 0))) := by show _ = _; rw [hwn]; exact (put4_other _ _ _ _ _ _ _ (Ne.symm n78)).trans Z8.out
                      have Z7 : Hid (wn.heap[b7]? = some (.cells #[.slice aA oa.out.length cA, .int .i64 oa.ins, .int .u32 oa.exit, .int .i64 oa.e] 70 (0, 0))) := by show _ = _; rw [hwn]; exact put4_heap Z7.out _ _ _ _
                      clear hwn hbn
                      clear c0 c1 c2 c3 f0 f1 f2 f3
                      refine J_last 16 _ rfl (by kernel_rfl) ?_
                      simp only [List.getElem_toArray, List.getElem_cons_succ, List.getElem_cons_zero]
                      intro wj hj
                      have BC := Lib.hid (BC.out.trans (hj.mono BC.out.size))
                      have OA := Lib.hid (own_below OA.out hj)
                      have OB := Lib.hid (own_below OB.out hj)
                      have Z7 := Lib.hid ((hj.block b7 (Array.getElem?_eq_some_iff.1 Z7.out).1).trans Z7.out)
                      have Z8 := Lib.hid ((hj.block b8 (Array.getElem?_eq_some_iff.1 Z8.out).1).trans Z8.out)
                      clear hj
                      have c0 := cell_of_heap Z8.out 0
                      have c1 := cell_of_heap Z8.out 1
                      have c2 := cell_of_heap Z8.out 2
                      have c3 := cell_of_heap Z8.out 3
                      have f0 := frozen_of_heap Z8.out 0
                      have f1 := frozen_of_heap Z8.out 1
                      have f2 := frozen_of_heap Z8.out 2
                      have f3 := frozen_of_heap Z8.out 3
                      simp only [List.getElem?_toArray, List.getElem?_cons_zero, List.getElem?_cons_succ] at c0 c1 c2 c3
                      have lb8 : b8 < wj.heap.size := (Array.getElem?_eq_some_iff.1 Z8.out).1
                      go_wp2_with fail
                      obtain ⟨wn, hwn⟩ : ∃ wn, wn = (((wj.setCell ⟨b8, 0, none⟩ (.slice aB ob.out.length cB)).setCell ⟨b8, 1, none⟩ (.int .i64 ob.ins)).setCell ⟨b8, 2, none⟩ (.int .u32 ob.exit)).setCell ⟨b8, 3, none⟩ (.int .i64 ob.e) := ⟨_, rfl⟩
                      rw [← hwn]
                      have hbn : Below w1.heap.size w1 wn := by rw [hwn]; exact below_put4 BC.out hlo8 _ _ _ _
                      have BC := Lib.hid hbn
                      have OA : Hid (wn.ownsRow w1.heap.size 35 1 (.slice aA oa.out.length cA) oa.out.length (oa.out.map (Value.int .u32))) := by show World.ownsRow _ _ _ _ _ _ _; rw [hwn]; exact own_put4 OA.out _ (rows_ne OA.out (own_box (B := w1.heap.size) Z8.out hlo8 rfl) (by decide)) _ _ _ _
                      have OB : Hid (wn.ownsRow w1.heap.size 35 1 (.slice aB ob.out.length cB) ob.out.length (ob.out.map (Value.int .u32))) := by show World.ownsRow _ _ _ _ _ _ _; rw [hwn]; exact own_put4 OB.out _ (rows_ne OB.out (own_box (B := w1.heap.size) Z8.out hlo8 rfl) (by decide)) _ _ _ _
                      have Z7 : Hid (wn.heap[b7]? = some (.cells #[.slice aA oa.out.length cA, .int .i64 oa.ins, .int .u32 oa.exit, .int .i64 oa.e] 70 (0, 0))) := by show _ = _; rw [hwn]; exact (put4_other _ _ _ _ _ _ _ n78).trans Z7.out
                      have Z8 : Hid (wn.heap[b8]? = some (.cells #[.slice aB ob.out.length cB, .int .i64 ob.ins, .int .u32 ob.exit, .int .i64 ob.e] 70 (0, 0))) := by show _ = _; rw [hwn]; exact put4_heap Z8.out _ _ _ _
                      clear hwn hbn
                      clear c0 c1 c2 c3 f0 f1 f2 f3
                      refine J_done (by kernel_rfl) (fun wk hk => ?_) _
                      have BC := Lib.hid (BC.out.trans (hk.mono BC.out.size))
                      have OA := Lib.hid (own_below OA.out hk)
                      have OB := Lib.hid (own_below OB.out hk)
                      have Z7 := Lib.hid ((hk.block b7 (Array.getElem?_eq_some_iff.1 Z7.out).1).trans Z7.out)
                      have Z8 := Lib.hid ((hk.block b8 (Array.getElem?_eq_some_iff.1 Z8.out).1).trans Z8.out)
                      clear hk
                      go_wp2_with fail
                      go_meet
                      case rel => exact ⟨b7, b8, aA, cA, aB, cB, rfl, rfl, BC, OA, OB, Z7, Z8⟩
                  · simp only [List.getElem_toArray, List.getElem_cons_succ, List.getElem_cons_zero]
                    intro wj hj
                    have BC := Lib.hid (BC.out.trans (hj.mono BC.out.size))
                    have OA := Lib.hid (own_below OA.out hj)
                    clear hj
                    go_wp2_with fail
                    refine ⟨KeepX.below (below_alloc _ _), ?_⟩
                    obtain ⟨b8, hb8⟩ : ∃ b : Nat, b = wj.heap.size := ⟨_, rfl⟩
                    obtain ⟨wn, hwn⟩ : ∃ wn, wn = wj.alloc (.cells #[.slice none 0 0, .int .i64 0, .int .u32 0, .int .i64 0] 70) := ⟨_, rfl⟩
                    have hbn : Below wj.heap.size wj wn := by rw [hwn]; exact below_alloc wj _
                    have Z8_ : Hid (wn.heap[b8]? = some (.cells #[.slice none 0 0, .int .i64 0, .int .u32 0, .int .i64 0] 70 (0, 0))) := by rw [hb8]; exact heap_of_alloc wj _ _ hwn
                    have hlo8 : w1.heap.size ≤ b8 := by have := BC.out.size; omega
                    rw [← hwn, ← hb8]
                    have BC := Lib.hid (BC.out.trans (hbn.mono BC.out.size))
                    have OA := Lib.hid (own_below OA.out hbn)
                    have Z8 := Z8_
                    clear hbn hwn hb8
                    refine J_loud2 12 13 _ _ rfl rfl (by kernel_rfl) ?_ ?_
                    · simp only [List.getElem_toArray, List.getElem_cons_succ, List.getElem_cons_zero]
                      intro wj hj
                      have BC := Lib.hid (BC.out.trans (hj.mono BC.out.size))
                      have OA := Lib.hid (own_below OA.out hj)
                      have Z8 := Lib.hid ((hj.block b8 (Array.getElem?_eq_some_iff.1 Z8.out).1).trans Z8.out)
                      clear hj
                      go_wp2_with fail
                      refine (HR1.out wj (hBO.out _ BC.out)).mono ?_
                      rintro e wn ⟨vn, rfl, hon, hbn⟩
                      obtain ⟨von, rfl, OB_⟩ := hon
                      obtain ⟨aB, cB, rfl⟩ := row_shape OB_
                      have OB := Lib.hid (own_base OB_ (B' := w1.heap.size) BC.out.size)
                      clear OB_
                      go_wp2_with fail
                      refine ⟨KeepX.below hbn, ?_⟩
                      have BC := Lib.hid (BC.out.trans (hbn.mono BC.out.size))
                      have OA := Lib.hid (own_below OA.out hbn)
                      have Z8 := Lib.hid ((hbn.block b8 (Array.getElem?_eq_some_iff.1 Z8.out).1).trans Z8.out)
                      clear hbn
                      refine J_loud1 13 _ rfl (by kernel_rfl) ?_
                      simp only [List.getElem_toArray, List.getElem_cons_succ, List.getElem_cons_zero]
                      intro wj hj
                      have BC := Lib.hid (BC.out.trans (hj.mono BC.out.size))
                      have OA := Lib.hid (own_below OA.out hj)
                      have OB := Lib.hid (own_below OB.out hj)
                      have Z8 := Lib.hid ((hj.block b8 (Array.getElem?_eq_some_iff.1 Z8.out).1).trans Z8.out)
                      clear hj
                      have Z8w := Z8
                      go_wp2_with fail
                      refine ⟨KeepX.below (below_alloc _ _), ?_⟩
                      obtain ⟨b7, hb7⟩ : ∃ b : Nat, b = wj.heap.size := ⟨_, rfl⟩
                      obtain ⟨wn, hwn⟩ : ∃ wn, wn = wj.alloc (.cells #[.slice none 0 0, .int .i64 0, .int .u32 0, .int .i64 0] 70) := ⟨_, rfl⟩
                      have hbn : Below wj.heap.size wj wn := by rw [hwn]; exact below_alloc wj _
                      have Z7_ : Hid (wn.heap[b7]? = some (.cells #[.slice none 0 0, .int .i64 0, .int .u32 0, .int .i64 0] 70 (0, 0))) := by rw [hb7]; exact heap_of_alloc wj _ _ hwn
                      have hlo7 : w1.heap.size ≤ b7 := by have := BC.out.size; omega
                      rw [← hwn, ← hb7]
                      have BC := Lib.hid (BC.out.trans (hbn.mono BC.out.size))
                      have OA := Lib.hid (own_below OA.out hbn)
                      have OB := Lib.hid (own_below OB.out hbn)
                      have Z8 := Lib.hid ((hbn.block b8 (Array.getElem?_eq_some_iff.1 Z8.out).1).trans Z8.out)
                      have Z7 := Z7_
                      have n78 : b7 ≠ b8 := by have := (Array.getElem?_eq_some_iff.1 Z8w.out).1; omega
                      clear hbn hwn hb7
                      refine J_loud1 15 _ rfl (by kernel_rfl) ?_
                      simp only [List.getElem_toArray, List.getElem_cons_succ, List.getElem_cons_zero]
                      intro wj hj
                      have BC := Lib.hid (BC.out.trans (hj.mono BC.out.size))
                      have OA := Lib.hid (own_below OA.out hj)
                      have OB := Lib.hid (own_below OB.out hj)
                      have Z7 := Lib.hid ((hj.block b7 (Array.getElem?_eq_some_iff.1 Z7.out).1).trans Z7.out)
                      have Z8 := Lib.hid ((hj.block b8 (Array.getElem?_eq_some_iff.1 Z8.out).1).trans Z8.out)
                      clear hj
                      have c0 := cell_of_heap Z7.out 0
                      have c1 := cell_of_heap Z7.out 1
                      have c2 := cell_of_heap Z7.out 2
                      have c3 := cell_of_heap Z7.out 3
                      have f0 := frozen_of_heap Z7.out 0
                      have f1 := frozen_of_heap Z7.out 1
                      have f2 := frozen_of_heap Z7.out 2
                      have f3 := frozen_of_heap Z7.out 3
                      simp only [List.getElem?_toArray, List.getElem?_cons_zero, List.getElem?_cons_succ] at c0 c1 c2 c3
                      have lb7 : b7 < wj.heap.size := (Array.getElem?_eq_some_iff.1 Z7.out).1
                      go_wp2_with fail
                      obtain ⟨wn, hwn⟩ : ∃ wn, wn = (((wj.setCell ⟨b7, 0, none⟩ (.slice aA oa.out.length cA)).setCell ⟨b7, 1, none⟩ (.int .i64 oa.ins)).setCell ⟨b7, 2, none⟩ (.int .u32 oa.exit)).setCell ⟨b7, 3, none⟩ (.int .i64 oa.e) := ⟨_, rfl⟩
                      rw [← hwn]
                      refine ⟨KeepX_put4 hwn (fun h => Nat.not_lt.2 hlo7 h), ?_⟩
                      have hbn : Below w1.heap.size w1 wn := by rw [hwn]; exact below_put4 BC.out hlo7 _ _ _ _
                      have BC := Lib.hid hbn
                      have OA : Hid (wn.ownsRow w1.heap.size 35 1 (.slice aA oa.out.length cA) oa.out.length (oa.out.map (Value.int .u32))) := by show World.ownsRow _ _ _ _ _ _ _; rw [hwn]; exact own_put4 OA.out _ (rows_ne OA.out (own_box (B := w1.heap.size) Z7.out hlo7 rfl) (by decide)) _ _ _ _
                      have OB : Hid (wn.ownsRow w1.heap.size 35 1 (.slice aB ob.out.length cB) ob.out.length (ob.out.map (Value.int .u32))) := by show World.ownsRow _ _ _ _ _ _ _; rw [hwn]; exact own_put4 OB.out _ (rows_ne OB.out (own_box (B := w1.heap.size) Z7.out hlo7 rfl) (by decide)) _ _ _ _
                      have Z8 : Hid (wn.heap[b8]? = some (.cells #[.slice none 0 0, .int .i64 0, .int .u32 0, .int .i64 0] 70 (0, 0))) := by show _ = _; rw [hwn]; exact (put4_other _ _ _ _ _ _ _ (Ne.symm n78)).trans Z8.out
                      have Z7 : Hid (wn.heap[b7]? = some (.cells #[.slice aA oa.out.length cA, .int .i64 oa.ins, .int .u32 oa.exit, .int .i64 oa.e] 70 (0, 0))) := by show _ = _; rw [hwn]; exact put4_heap Z7.out _ _ _ _
                      clear hwn hbn
                      clear c0 c1 c2 c3 f0 f1 f2 f3
                      refine J_last 16 _ rfl (by kernel_rfl) ?_
                      simp only [List.getElem_toArray, List.getElem_cons_succ, List.getElem_cons_zero]
                      intro wj hj
                      have BC := Lib.hid (BC.out.trans (hj.mono BC.out.size))
                      have OA := Lib.hid (own_below OA.out hj)
                      have OB := Lib.hid (own_below OB.out hj)
                      have Z7 := Lib.hid ((hj.block b7 (Array.getElem?_eq_some_iff.1 Z7.out).1).trans Z7.out)
                      have Z8 := Lib.hid ((hj.block b8 (Array.getElem?_eq_some_iff.1 Z8.out).1).trans Z8.out)
                      clear hj
                      have c0 := cell_of_heap Z8.out 0
                      have c1 := cell_of_heap Z8.out 1
                      have c2 := cell_of_heap Z8.out 2
                      have c3 := cell_of_heap Z8.out 3
                      have f0 := frozen_of_heap Z8.out 0
                      have f1 := frozen_of_heap Z8.out 1
                      have f2 := frozen_of_heap Z8.out 2
                      have f3 := frozen_of_heap Z8.out 3
                      simp only [List.getElem?_toArray, List.getElem?_cons_zero, List.getElem?_cons_succ] at c0 c1 c2 c3
                      have lb8 : b8 < wj.heap.size := (Array.getElem?_eq_some_iff.1 Z8.out).1
                      go_wp2_with fail
                      obtain ⟨wn, hwn⟩ : ∃ wn, wn = (((wj.setCell ⟨b8, 0, none⟩ (.slice aB ob.out.length cB)).setCell ⟨b8, 1, none⟩ (.int .i64 ob.ins)).setCell ⟨b8, 2, none⟩ (.int .u32 ob.exit)).setCell ⟨b8, 3, none⟩ (.int .i64 ob.e) := ⟨_, rfl⟩
                      rw [← hwn]
                      have hbn : Below w1.heap.size w1 wn := by rw [hwn]; exact below_put4 BC.out hlo8 _ _ _ _
                      have BC := Lib.hid hbn
                      have OA : Hid (wn.ownsRow w1.heap.size 35 1 (.slice aA oa.out.length cA) oa.out.length (oa.out.map (Value.int .u32))) := by show World.ownsRow _ _ _ _ _ _ _; rw [hwn]; exact own_put4 OA.out _ (rows_ne OA.out (own_box (B := w1.heap.size) Z8.out hlo8 rfl) (by decide)) _ _ _ _
                      have OB : Hid (wn.ownsRow w1.heap.size 35 1 (.slice aB ob.out.length cB) ob.out.length (ob.out.map (Value.int .u32))) := by show World.ownsRow _ _ _ _ _ _ _; rw [hwn]; exact own_put4 OB.out _ (rows_ne OB.out (own_box (B := w1.heap.size) Z8.out hlo8 rfl) (by decide)) _ _ _ _
                      have Z7 : Hid (wn.heap[b7]? = some (.cells #[.slice aA oa.out.length cA, .int .i64 oa.ins, .int .u32 oa.exit, .int .i64 oa.e] 70 (0, 0))) := by show _ = _; rw [hwn]; exact (put4_other _ _ _ _ _ _ _ n78).trans Z7.out
                      have Z8 : Hid (wn.heap[b8]? = some (.cells #[.slice aB ob.out.length cB, .int .i64 ob.ins, .int .u32 ob.exit, .int .i64 ob.e] 70 (0, 0))) := by show _ = _; rw [hwn]; exact put4_heap Z8.out _ _ _ _
                      clear hwn hbn
                      clear c0 c1 c2 c3 f0 f1 f2 f3
                      refine J_done (by kernel_rfl) (fun wk hk => ?_) _
                      have BC := Lib.hid (BC.out.trans (hk.mono BC.out.size))
                      have OA := Lib.hid (own_below OA.out hk)
                      have OB := Lib.hid (own_below OB.out hk)
                      have Z7 := Lib.hid ((hk.block b7 (Array.getElem?_eq_some_iff.1 Z7.out).1).trans Z7.out)
                      have Z8 := Lib.hid ((hk.block b8 (Array.getElem?_eq_some_iff.1 Z8.out).1).trans Z8.out)
                      clear hk
                      go_wp2_with fail
                      go_meet
                      case rel => exact ⟨b7, b8, aA, cA, aB, cB, rfl, rfl, BC, OA, OB, Z7, Z8⟩
                    · simp only [List.getElem_toArray, List.getElem_cons_succ, List.getElem_cons_zero]
                      intro wj hj
                      have BC := Lib.hid (BC.out.trans (hj.mono BC.out.size))
                      have OA := Lib.hid (own_below OA.out hj)
                      have Z8 := Lib.hid ((hj.block b8 (Array.getElem?_eq_some_iff.1 Z8.out).1).trans Z8.out)
                      clear hj
                      have Z8w := Z8
                      go_wp2_with fail
                      refine ⟨KeepX.below (below_alloc _ _), ?_⟩
                      obtain ⟨b7, hb7⟩ : ∃ b : Nat, b = wj.heap.size := ⟨_, rfl⟩
                      obtain ⟨wn, hwn⟩ : ∃ wn, wn = wj.alloc (.cells #[.slice none 0 0, .int .i64 0, .int .u32 0, .int .i64 0] 70) := ⟨_, rfl⟩
                      have hbn : Below wj.heap.size wj wn := by rw [hwn]; exact below_alloc wj _
                      have Z7_ : Hid (wn.heap[b7]? = some (.cells #[.slice none 0 0, .int .i64 0, .int .u32 0, .int .i64 0] 70 (0, 0))) := by rw [hb7]; exact heap_of_alloc wj _ _ hwn
                      have hlo7 : w1.heap.size ≤ b7 := by have := BC.out.size; omega
                      rw [← hwn, ← hb7]
                      have BC := Lib.hid (BC.out.trans (hbn.mono BC.out.size))
                      have OA := Lib.hid (own_below OA.out hbn)
                      have Z8 := Lib.hid ((hbn.block b8 (Array.getElem?_eq_some_iff.1 Z8.out).1).trans Z8.out)
                      have Z7 := Z7_
                      have n78 : b7 ≠ b8 := by have := (Array.getElem?_eq_some_iff.1 Z8w.out).1; omega
                      clear hbn hwn hb7
                      refine J_loud1 12 _ rfl (by kernel_rfl) ?_
                      simp only [List.getElem_toArray, List.getElem_cons_succ, List.getElem_cons_zero]
                      intro wj hj
                      have BC := Lib.hid (BC.out.trans (hj.mono BC.out.size))
                      have OA := Lib.hid (own_below OA.out hj)
                      have Z7 := Lib.hid ((hj.block b7 (Array.getElem?_eq_some_iff.1 Z7.out).1).trans Z7.out)
                      have Z8 := Lib.hid ((hj.block b8 (Array.getElem?_eq_some_iff.1 Z8.out).1).trans Z8.out)
                      clear hj
                      go_wp2_with fail
                      refine (HR1.out wj (hBO.out _ BC.out)).mono ?_
                      rintro e wn ⟨vn, rfl, hon, hbn⟩
                      obtain ⟨von, rfl, OB_⟩ := hon
                      obtain ⟨aB, cB, rfl⟩ := row_shape OB_
                      have OB := Lib.hid (own_base OB_ (B' := w1.heap.size) BC.out.size)
                      clear OB_
                      go_wp2_with fail
                      refine ⟨KeepX.below hbn, ?_⟩
                      have BC := Lib.hid (BC.out.trans (hbn.mono BC.out.size))
                      have OA := Lib.hid (own_below OA.out hbn)
                      have Z7 := Lib.hid ((hbn.block b7 (Array.getElem?_eq_some_iff.1 Z7.out).1).trans Z7.out)
                      have Z8 := Lib.hid ((hbn.block b8 (Array.getElem?_eq_some_iff.1 Z8.out).1).trans Z8.out)
                      clear hbn
                      refine J_loud1 15 _ rfl (by kernel_rfl) ?_
                      simp only [List.getElem_toArray, List.getElem_cons_succ, List.getElem_cons_zero]
                      intro wj hj
                      have BC := Lib.hid (BC.out.trans (hj.mono BC.out.size))
                      have OA := Lib.hid (own_below OA.out hj)
                      have OB := Lib.hid (own_below OB.out hj)
                      have Z7 := Lib.hid ((hj.block b7 (Array.getElem?_eq_some_iff.1 Z7.out).1).trans Z7.out)
                      have Z8 := Lib.hid ((hj.block b8 (Array.getElem?_eq_some_iff.1 Z8.out).1).trans Z8.out)
                      clear hj
                      have c0 := cell_of_heap Z7.out 0
                      have c1 := cell_of_heap Z7.out 1
                      have c2 := cell_of_heap Z7.out 2
                      have c3 := cell_of_heap Z7.out 3
                      have f0 := frozen_of_heap Z7.out 0
                      have f1 := frozen_of_heap Z7.out 1
                      have f2 := frozen_of_heap Z7.out 2
                      have f3 := frozen_of_heap Z7.out 3
                      simp only [List.getElem?_toArray, List.getElem?_cons_zero, List.getElem?_cons_succ] at c0 c1 c2 c3
                      have lb7 : b7 < wj.heap.size := (Array.getElem?_eq_some_iff.1 Z7.out).1
                      go_wp2_with fail
                      obtain ⟨wn, hwn⟩ : ∃ wn, wn = (((wj.setCell ⟨b7, 0, none⟩ (.slice aA oa.out.length cA)).setCell ⟨b7, 1, none⟩ (.int .i64 oa.ins)).setCell ⟨b7, 2, none⟩ (.int .u32 oa.exit)).setCell ⟨b7, 3, none⟩ (.int .i64 oa.e) := ⟨_, rfl⟩
                      rw [← hwn]
                      refine ⟨KeepX_put4 hwn (fun h => Nat.not_lt.2 hlo7 h), ?_⟩
                      have hbn : Below w1.heap.size w1 wn := by rw [hwn]; exact below_put4 BC.out hlo7 _ _ _ _
                      have BC := Lib.hid hbn
                      have OA : Hid (wn.ownsRow w1.heap.size 35 1 (.slice aA oa.out.length cA) oa.out.length (oa.out.map (Value.int .u32))) := by show World.ownsRow _ _ _ _ _ _ _; rw [hwn]; exact own_put4 OA.out _ (rows_ne OA.out (own_box (B := w1.heap.size) Z7.out hlo7 rfl) (by decide)) _ _ _ _
                      have OB : Hid (wn.ownsRow w1.heap.size 35 1 (.slice aB ob.out.length cB) ob.out.length (ob.out.map (Value.int .u32))) := by show World.ownsRow _ _ _ _ _ _ _; rw [hwn]; exact own_put4 OB.out _ (rows_ne OB.out (own_box (B := w1.heap.size) Z7.out hlo7 rfl) (by decide)) _ _ _ _
                      have Z8 : Hid (wn.heap[b8]? = some (.cells #[.slice none 0 0, .int .i64 0, .int .u32 0, .int .i64 0] 70 (0, 0))) := by show _ = _; rw [hwn]; exact (put4_other _ _ _ _ _ _ _ (Ne.symm n78)).trans Z8.out
                      have Z7 : Hid (wn.heap[b7]? = some (.cells #[.slice aA oa.out.length cA, .int .i64 oa.ins, .int .u32 oa.exit, .int .i64 oa.e] 70 (0, 0))) := by show _ = _; rw [hwn]; exact put4_heap Z7.out _ _ _ _
                      clear hwn hbn
                      clear c0 c1 c2 c3 f0 f1 f2 f3
                      refine J_last 16 _ rfl (by kernel_rfl) ?_
                      simp only [List.getElem_toArray, List.getElem_cons_succ, List.getElem_cons_zero]
                      intro wj hj
                      have BC := Lib.hid (BC.out.trans (hj.mono BC.out.size))
                      have OA := Lib.hid (own_below OA.out hj)
                      have OB := Lib.hid (own_below OB.out hj)
                      have Z7 := Lib.hid ((hj.block b7 (Array.getElem?_eq_some_iff.1 Z7.out).1).trans Z7.out)
                      have Z8 := Lib.hid ((hj.block b8 (Array.getElem?_eq_some_iff.1 Z8.out).1).trans Z8.out)
                      clear hj
                      have c0 := cell_of_heap Z8.out 0
                      have c1 := cell_of_heap Z8.out 1
                      have c2 := cell_of_heap Z8.out 2
                      have c3 := cell_of_heap Z8.out 3
                      have f0 := frozen_of_heap Z8.out 0
                      have f1 := frozen_of_heap Z8.out 1
                      have f2 := frozen_of_heap Z8.out 2
                      have f3 := frozen_of_heap Z8.out 3
                      simp only [List.getElem?_toArray, List.getElem?_cons_zero, List.getElem?_cons_succ] at c0 c1 c2 c3
                      have lb8 : b8 < wj.heap.size := (Array.getElem?_eq_some_iff.1 Z8.out).1
                      go_wp2_with fail
                      obtain ⟨wn, hwn⟩ : ∃ wn, wn = (((wj.setCell ⟨b8, 0, none⟩ (.slice aB ob.out.length cB)).setCell ⟨b8, 1, none⟩ (.int .i64 ob.ins)).setCell ⟨b8, 2, none⟩ (.int .u32 ob.exit)).setCell ⟨b8, 3, none⟩ (.int .i64 ob.e) := ⟨_, rfl⟩
                      rw [← hwn]
                      have hbn : Below w1.heap.size w1 wn := by rw [hwn]; exact below_put4 BC.out hlo8 _ _ _ _
                      have BC := Lib.hid hbn
                      have OA : Hid (wn.ownsRow w1.heap.size 35 1 (.slice aA oa.out.length cA) oa.out.length (oa.out.map (Value.int .u32))) := by show World.ownsRow _ _ _ _ _ _ _; rw [hwn]; exact own_put4 OA.out _ (rows_ne OA.out (own_box (B := w1.heap.size) Z8.out hlo8 rfl) (by decide)) _ _ _ _
                      have OB : Hid (wn.ownsRow w1.heap.size 35 1 (.slice aB ob.out.length cB) ob.out.length (ob.out.map (Value.int .u32))) := by show World.ownsRow _ _ _ _ _ _ _; rw [hwn]; exact own_put4 OB.out _ (rows_ne OB.out (own_box (B := w1.heap.size) Z8.out hlo8 rfl) (by decide)) _ _ _ _
                      have Z7 : Hid (wn.heap[b7]? = some (.cells #[.slice aA oa.out.length cA, .int .i64 oa.ins, .int .u32 oa.exit, .int .i64 oa.e] 70 (0, 0))) := by show _ = _; rw [hwn]; exact (put4_other _ _ _ _ _ _ _ n78).trans Z7.out
                      have Z8 : Hid (wn.heap[b8]? = some (.cells #[.slice aB ob.out.length cB, .int .i64 ob.ins, .int .u32 ob.exit, .int .i64 ob.e] 70 (0, 0))) := by show _ = _; rw [hwn]; exact put4_heap Z8.out _ _ _ _
                      clear hwn hbn
                      clear c0 c1 c2 c3 f0 f1 f2 f3
                      refine J_done (by kernel_rfl) (fun wk hk => ?_) _
                      have BC := Lib.hid (BC.out.trans (hk.mono BC.out.size))
                      have OA := Lib.hid (own_below OA.out hk)
                      have OB := Lib.hid (own_below OB.out hk)
                      have Z7 := Lib.hid ((hk.block b7 (Array.getElem?_eq_some_iff.1 Z7.out).1).trans Z7.out)
                      have Z8 := Lib.hid ((hk.block b8 (Array.getElem?_eq_some_iff.1 Z8.out).1).trans Z8.out)
                      clear hk
                      go_wp2_with fail
                      go_meet
                      case rel => exact ⟨b7, b8, aA, cA, aB, cB, rfl, rfl, BC, OA, OB, Z7, Z8⟩
                · simp only [List.getElem_toArray, List.getElem_cons_succ, List.getElem_cons_zero]
                  intro wj hj
                  have BC := Lib.hid (BC.out.trans (hj.mono BC.out.size))
                  clear hj
                  go_wp2_with fail
                  refine ⟨KeepX.below (below_alloc _ _), ?_⟩
                  obtain ⟨b7, hb7⟩ : ∃ b : Nat, b = wj.heap.size := ⟨_, rfl⟩
                  obtain ⟨wn, hwn⟩ : ∃ wn, wn = wj.alloc (.cells #[.slice none 0 0, .int .i64 0, .int .u32 0, .int .i64 0] 70) := ⟨_, rfl⟩
                  have hbn : Below wj.heap.size wj wn := by rw [hwn]; exact below_alloc wj _
                  have Z7_ : Hid (wn.heap[b7]? = some (.cells #[.slice none 0 0, .int .i64 0, .int .u32 0, .int .i64 0] 70 (0, 0))) := by rw [hb7]; exact heap_of_alloc wj _ _ hwn
                  have hlo7 : w1.heap.size ≤ b7 := by have := BC.out.size; omega
                  rw [← hwn, ← hb7]
                  have BC := Lib.hid (BC.out.trans (hbn.mono BC.out.size))
                  have Z7 := Z7_
                  clear hbn hwn hb7
                  refine J_loud2 4 14 _ _ rfl rfl (by kernel_rfl) ?_ ?_
                  · simp only [List.getElem_toArray, List.getElem_cons_succ, List.getElem_cons_zero]
                    intro wj hj
                    have BC := Lib.hid (BC.out.trans (hj.mono BC.out.size))
                    have Z7 := Lib.hid ((hj.block b7 (Array.getElem?_eq_some_iff.1 Z7.out).1).trans Z7.out)
                    clear hj
                    go_wp2_with fail
                    refine (HR0.out wj (hBO.out _ BC.out)).mono ?_
                    rintro e wn ⟨vn, rfl, hon, hbn⟩
                    obtain ⟨von, rfl, OA_⟩ := hon
                    obtain ⟨aA, cA, rfl⟩ := row_shape OA_
                    have OA := Lib.hid (own_base OA_ (B' := w1.heap.size) BC.out.size)
                    clear OA_
                    go_wp2_with fail
                    refine ⟨KeepX.below hbn, ?_⟩
                    have BC := Lib.hid (BC.out.trans (hbn.mono BC.out.size))
                    have Z7 := Lib.hid ((hbn.block b7 (Array.getElem?_eq_some_iff.1 Z7.out).1).trans Z7.out)
                    clear hbn
                    refine J_loud2 12 14 _ _ rfl rfl (by kernel_rfl) ?_ ?_
                    · simp only [List.getElem_toArray, List.getElem_cons_succ, List.getElem_cons_zero]
                      intro wj hj
                      have BC := Lib.hid (BC.out.trans (hj.mono BC.out.size))
                      have OA := Lib.hid (own_below OA.out hj)
                      have Z7 := Lib.hid ((hj.block b7 (Array.getElem?_eq_some_iff.1 Z7.out).1).trans Z7.out)
                      clear hj
                      go_wp2_with fail
                      refine (HR1.out wj (hBO.out _ BC.out)).mono ?_
                      rintro e wn ⟨vn, rfl, hon, hbn⟩
                      obtain ⟨von, rfl, OB_⟩ := hon
                      obtain ⟨aB, cB, rfl⟩ := row_shape OB_
                      have OB := Lib.hid (own_base OB_ (B' := w1.heap.size) BC.out.size)
                      clear OB_
                      go_wp2_with fail
                      refine ⟨KeepX.below hbn, ?_⟩
                      have BC := Lib.hid (BC.out.trans (hbn.mono BC.out.size))
                      have OA := Lib.hid (own_below OA.out hbn)
                      have Z7 := Lib.hid ((hbn.block b7 (Array.getElem?_eq_some_iff.1 Z7.out).1).trans Z7.out)
                      clear hbn
                      refine J_loud1 14 _ rfl (by kernel_rfl) ?_
                      simp only [List.getElem_toArray, List.getElem_cons_succ, List.getElem_cons_zero]
                      intro wj hj
                      have BC := Lib.hid (BC.out.trans (hj.mono BC.out.size))
                      have OA := Lib.hid (own_below OA.out hj)
                      have OB := Lib.hid (own_below OB.out hj)
                      have Z7 := Lib.hid ((hj.block b7 (Array.getElem?_eq_some_iff.1 Z7.out).1).trans Z7.out)
                      clear hj
                      have Z7w := Z7
                      go_wp2_with fail
                      refine ⟨KeepX.below (below_alloc _ _), ?_⟩
                      obtain ⟨b8, hb8⟩ : ∃ b : Nat, b = wj.heap.size := ⟨_, rfl⟩
                      obtain ⟨wn, hwn⟩ : ∃ wn, wn = wj.alloc (.cells #[.slice none 0 0, .int .i64 0, .int .u32 0, .int .i64 0] 70) := ⟨_, rfl⟩
                      have hbn : Below wj.heap.size wj wn := by rw [hwn]; exact below_alloc wj _
                      have Z8_ : Hid (wn.heap[b8]? = some (.cells #[.slice none 0 0, .int .i64 0, .int .u32 0, .int .i64 0] 70 (0, 0))) := by rw [hb8]; exact heap_of_alloc wj _ _ hwn
                      have hlo8 : w1.heap.size ≤ b8 := by have := BC.out.size; omega
                      rw [← hwn, ← hb8]
                      have BC := Lib.hid (BC.out.trans (hbn.mono BC.out.size))
                      have OA := Lib.hid (own_below OA.out hbn)
                      have OB := Lib.hid (own_below OB.out hbn)
                      have Z7 := Lib.hid ((hbn.block b7 (Array.getElem?_eq_some_iff.1 Z7.out).1).trans Z7.out)
                      have Z8 := Z8_
                      have n78 : b7 ≠ b8 := by have := (Array.getElem?_eq_some_iff.1 Z7w.out).1; omega
                      clear hbn hwn hb8
                      refine J_loud1 15 _ rfl (by kernel_rfl) ?_
                      simp only [List.getElem_toArray, List.getElem_cons_succ, List.getElem_cons_zero]
                      intro wj hj
                      have BC := Lib.hid (BC.out.trans (hj.mono BC.out.size))
                      have OA := Lib.hid (own_below OA.out hj)
                      have OB := Lib.hid (own_below OB.out hj)
                      have Z7 := Lib.hid ((hj.block b7 (Array.getElem?_eq_some_iff.1 Z7.out).1).trans Z7.out)
                      have Z8 := Lib.hid ((hj.block b8 (Array.getElem?_eq_some_iff.1 Z8.out).1).trans Z8.out)
                      clear hj
                      have c0 := cell_of_heap Z7.out 0
                      have c1 := cell_of_heap Z7.out 1
                      have c2 := cell_of_heap Z7.out 2
                      have c3 := cell_of_heap Z7.out 3
                      have f0 := frozen_of_heap Z7.out 0
                      have f1 := frozen_of_heap Z7.out 1
                      have f2 := frozen_of_heap Z7.out 2
                      have f3 := frozen_of_heap Z7.out 3
                      simp only [List.getElem?_toArray, List.getElem?_cons_zero, List.getElem?_cons_succ] at c0 c1 c2 c3
                      have lb7 : b7 < wj.heap.size := (Array.getElem?_eq_some_iff.1 Z7.out).1
                      go_wp2_with fail
                      obtain ⟨wn, hwn⟩ : ∃ wn, wn = (((wj.setCell ⟨b7, 0, none⟩ (.slice aA oa.out.length cA)).setCell ⟨b7, 1, none⟩ (.int .i64 oa.ins)).setCell ⟨b7, 2, none⟩ (.int .u32 oa.exit)).setCell ⟨b7, 3, none⟩ (.int .i64 oa.e) := ⟨_, rfl⟩
                      rw [← hwn]
                      refine ⟨KeepX_put4 hwn (fun h => Nat.not_lt.2 hlo7 h), ?_⟩
                      have hbn : Below w1.heap.size w1 wn := by rw [hwn]; exact below_put4 BC.out hlo7 _ _ _ _
                      have BC := Lib.hid hbn
                      have OA : Hid (wn.ownsRow w1.heap.size 35 1 (.slice aA oa.out.length cA) oa.out.length (oa.out.map (Value.int .u32))) := by show World.ownsRow _ _ _ _ _ _ _; rw [hwn]; exact own_put4 OA.out _ (rows_ne OA.out (own_box (B := w1.heap.size) Z7.out hlo7 rfl) (by decide)) _ _ _ _
                      have OB : Hid (wn.ownsRow w1.heap.size 35 1 (.slice aB ob.out.length cB) ob.out.length (ob.out.map (Value.int .u32))) := by show World.ownsRow _ _ _ _ _ _ _; rw [hwn]; exact own_put4 OB.out _ (rows_ne OB.out (own_box (B := w1.heap.size) Z7.out hlo7 rfl) (by decide)) _ _ _ _
                      have Z8 : Hid (wn.heap[b8]? = some (.cells #[.slice none 0 0, .int .i64 0, .int .u32 0, .int .i64 0] 70 (0, 0))) := by show _ = _; rw [hwn]; exact (put4_other _ _ _ _ _ _ _ (Ne.symm n78)).trans Z8.out
                      have Z7 : Hid (wn.heap[b7]? = some (.cells #[.slice aA oa.out.length cA, .int .i64 oa.ins, .int .u32 oa.exit, .int .i64 oa.e] 70 (0, 0))) := by show _ = _; rw [hwn]; exact put4_heap Z7.out _ _ _ _
                      clear hwn hbn
                      clear c0 c1 c2 c3 f0 f1 f2 f3
                      refine J_last 16 _ rfl (by kernel_rfl) ?_
                      simp only [List.getElem_toArray, List.getElem_cons_succ, List.getElem_cons_zero]
                      intro wj hj
                      have BC := Lib.hid (BC.out.trans (hj.mono BC.out.size))
                      have OA := Lib.hid (own_below OA.out hj)
                      have OB := Lib.hid (own_below OB.out hj)
                      have Z7 := Lib.hid ((hj.block b7 (Array.getElem?_eq_some_iff.1 Z7.out).1).trans Z7.out)
                      have Z8 := Lib.hid ((hj.block b8 (Array.getElem?_eq_some_iff.1 Z8.out).1).trans Z8.out)
                      clear hj
                      have c0 := cell_of_heap Z8.out 0
                      have c1 := cell_of_heap Z8.out 1
                      have c2 := cell_of_heap Z8.out 2
                      have c3 := cell_of_heap Z8.out 3
                      have f0 := frozen_of_heap Z8.out 0
                      have f1 := frozen_of_heap Z8.out 1
                      have f2 := frozen_of_heap Z8.out 2
                      have f3 := frozen_of_heap Z8.out 3
                      simp only [List.getElem?_toArray, List.getElem?_cons_zero, List.getElem?_cons_succ] at c0 c1 c2 c3
                      have lb8 : b8 < wj.heap.size := (Array.getElem?_eq_some_iff.1 Z8.out).1
                      go_wp2_with fail
                      obtain ⟨wn, hwn⟩ : ∃ wn, wn = (((wj.setCell ⟨b8, 0, none⟩ (.slice aB ob.out.length cB)).setCell ⟨b8, 1, none⟩ (.int .i64 ob.ins)).setCell ⟨b8, 2, none⟩ (.int .u32 ob.exit)).setCell ⟨b8, 3, none⟩ (.int .i64 ob.e) := ⟨_, rfl⟩
                      rw [← hwn]
                      have hbn : Below w1.heap.size w1 wn := by rw [hwn]; exact below_put4 BC.out hlo8 _ _ _ _
                      have BC := Lib.hid hbn
                      have OA : Hid (wn.ownsRow w1.heap.size 35 1 (.slice aA oa.out.length cA) oa.out.length (oa.out.map (Value.int .u32))) := by show World.ownsRow _ _ _ _ _ _ _; rw [hwn]; exact own_put4 OA.out _ (rows_ne OA.out (own_box (B := w1.heap.size) Z8.out hlo8 rfl) (by decide)) _ _ _ _
                      have OB : Hid (wn.ownsRow w1.heap.size 35 1 (.slice aB ob.out.length cB) ob.out.length (ob.out.map (Value.int .u32))) := by show World.ownsRow _ _ _ _ _ _ _; rw [hwn]; exact own_put4 OB.out _ (rows_ne OB.out (own_box (B := w1.heap.size) Z8.out hlo8 rfl) (by decide)) _ _ _ _
                      have Z7 : Hid (wn.heap[b7]? = some (.cells #[.slice aA oa.out.length cA, .int .i64 oa.ins, .int .u32 oa.exit, .int .i64 oa.e] 70 (0, 0))) := by show _ = _; rw [hwn]; exact (put4_other _ _ _ _ _ _ _ n78).trans Z7.out
                      have Z8 : Hid (wn.heap[b8]? = some (.cells #[.slice aB ob.out.length cB, .int .i64 ob.ins, .int .u32 ob.exit, .int .i64 ob.e] 70 (0, 0))) := by show _ = _; rw [hwn]; exact put4_heap Z8.out _ _ _ _
                      clear hwn hbn
                      clear c0 c1 c2 c3 f0 f1 f2 f3
                      refine J_done (by kernel_rfl) (fun wk hk => ?_) _
                      have BC := Lib.hid (BC.out.trans (hk.mono BC.out.size))
                      have OA := Lib.hid (own_below OA.out hk)
                      have OB := Lib.hid (own_below OB.out hk)
                      have Z7 := Lib.hid ((hk.block b7 (Array.getElem?_eq_some_iff.1 Z7.out).1).trans Z7.out)
                      have Z8 := Lib.hid ((hk.block b8 (Array.getElem?_eq_some_iff.1 Z8.out).1).trans Z8.out)
                      clear hk
                      go_wp2_with fail
                      go_meet
                      case rel => exact ⟨b7, b8, aA, cA, aB, cB, rfl, rfl, BC, OA, OB, Z7, Z8⟩
                    · simp only [List.getElem_toArray, List.getElem_cons_succ, List.getElem_cons_zero]
                      intro wj hj
                      have BC := Lib.hid (BC.out.trans (hj.mono BC.out.size))
                      have OA := Lib.hid (own_below OA.out hj)
                      have Z7 := Lib.hid ((hj.block b7 (Array.getElem?_eq_some_iff.1 Z7.out).1).trans Z7.out)
                      clear hj
                      have Z7w := Z7
                      go_wp2_with fail
                      refine ⟨KeepX.below (below_alloc _ _), ?_⟩
                      obtain ⟨b8, hb8⟩ : ∃ b : Nat, b = wj.heap.size := ⟨_, rfl⟩
                      obtain ⟨wn, hwn⟩ : ∃ wn, wn = wj.alloc (.cells #[.slice none 0 0, .int .i64 0, .int .u32 0, .int .i64 0] 70) := ⟨_, rfl⟩
                      have hbn : Below wj.heap.size wj wn := by rw [hwn]; exact below_alloc wj _
                      have Z8_ : Hid (wn.heap[b8]? = some (.cells #[.slice none 0 0, .int .i64 0, .int .u32 0, .int .i64 0] 70 (0, 0))) := by rw [hb8]; exact heap_of_alloc wj _ _ hwn
                      have hlo8 : w1.heap.size ≤ b8 := by have := BC.out.size; omega
                      rw [← hwn, ← hb8]
                      have BC := Lib.hid (BC.out.trans (hbn.mono BC.out.size))
                      have OA := Lib.hid (own_below OA.out hbn)
                      have Z7 := Lib.hid ((hbn.block b7 (Array.getElem?_eq_some_iff.1 Z7.out).1).trans Z7.out)
                      have Z8 := Z8_
                      have n78 : b7 ≠ b8 := by have := (Array.getElem?_eq_some_iff.1 Z7w.out).1; omega
                      clear hbn hwn hb8
                      refine J_loud1 12 _ rfl (by kernel_rfl) ?_
                      simp only [List.getElem_toArray, List.getElem_cons_succ, List.getElem_cons_zero]
                      intro wj hj
                      have BC := Lib.hid (BC.out.trans (hj.mono BC.out.size))
                      have OA := Lib.hid (own_below OA.out hj)
                      have Z7 := Lib.hid ((hj.block b7 (Array.getElem?_eq_some_iff.1 Z7.out).1).trans Z7.out)
                      have Z8 := Lib.hid ((hj.block b8 (Array.getElem?_eq_some_iff.1 Z8.out).1).trans Z8.out)
                      clear hj
                      go_wp2_with fail
                      refine (HR1.out wj (hBO.out _ BC.out)).mono ?_
                      rintro e wn ⟨vn, rfl, hon, hbn⟩
                      obtain ⟨von, rfl, OB_⟩ := hon
                      obtain ⟨aB, cB, rfl⟩ := row_shape OB_
                      have OB := Lib.hid (own_base OB_ (B' := w1.heap.size) BC.out.size)
                      clear OB_
                      go_wp2_with fail
                      refine ⟨KeepX.below hbn, ?_⟩
                      have BC := Lib.hid (BC.out.trans (hbn.mono BC.out.size))
                      have OA := Lib.hid (own_below OA.out hbn)
                      have Z7 := Lib.hid ((hbn.block b7 (Array.getElem?_eq_some_iff.1 Z7.out).1).trans Z7.out)
                      have Z8 := Lib.hid ((hbn.block b8 (Array.getElem?_eq_some_iff.1 Z8.out).1).trans Z8.out)
                      clear hbn
                      refine J_loud1 15 _ rfl (by kernel_rfl) ?_
                      simp only [List.getElem_toArray, List.getElem_cons_succ, List.getElem_cons_zero]
                      intro wj hj
                      have BC := Lib.hid (BC.out.trans (hj.mono BC.out.size))
                      have OA := Lib.hid (own_below OA.out hj)
                      have OB := Lib.hid (own_below OB.out hj)
                      have Z7 := Lib.hid ((hj.block b7 (Array.getElem?_eq_some_iff.1 Z7.out).1).trans Z7.out)
                      have Z8 := Lib.hid ((hj.block b8 (Array.getElem?_eq_some_iff.1 Z8.out).1).trans Z8.out)
                      clear hj
                      have c0 := cell_of_heap Z7.out 0
                      have c1 := cell_of_heap Z7.out 1
                      have c2 := cell_of_heap Z7.out 2
                      have c3 := cell_of_heap Z7.out 3
                      have f0 := frozen_of_heap Z7.out 0
                      have f1 := frozen_of_heap Z7.out 1
                      have f2 := frozen_of_heap Z7.out 2
                      have f3 := frozen_of_heap Z7.out 3
                      simp only [List.getElem?_toArray, List.getElem?_cons_zero, List.getElem?_cons_succ] at c0 c1 c2 c3
                      have lb7 : b7 < wj.heap.size := (Array.getElem?_eq_some_iff.1 Z7.out).1
                      go_wp2_with fail
                      obtain ⟨wn, hwn⟩ : ∃ wn, wn = (((wj.setCell ⟨b7, 0, none⟩ (.slice aA oa.out.length cA)).setCell ⟨b7, 1, none⟩ (.int .i64 oa.ins)).setCell ⟨b7, 2, none⟩ (.int .u32 oa.exit)).setCell ⟨b7, 3, none⟩ (.int .i64 oa.e) := ⟨_, rfl⟩
                      rw [← hwn]
                      refine ⟨KeepX_put4 hwn (fun h => Nat.not_lt.2 hlo7 h), ?_⟩
                      have hbn : Below w1.heap.size w1 wn := by rw [hwn]; exact below_put4 BC.out hlo7 _ _ _ _
                      have BC := Lib.hid hbn
                      have OA : Hid (wn.ownsRow w1.heap.size 35 1 (.slice aA oa.out.length cA) oa.out.length (oa.out.map (Value.int .u32))) := by show World.ownsRow _ _ _ _ _ _ _; rw [hwn]; exact own_put4 OA.out _ (rows_ne OA.out (own_box (B := w1.heap.size) Z7.out hlo7 rfl) (by decide)) _ _ _ _
                      have OB : Hid (wn.ownsRow w1.heap.size 35 1 (.slice aB ob.out.length cB) ob.out.length (ob.out.map (Value.int .u32))) := by show World.ownsRow _ _ _ _ _ _ _; rw [hwn]; exact own_put4 OB.out _ (rows_ne OB.out (own_box (B := w1.heap.size) Z7.out hlo7 rfl) (by decide)) _ _ _ _
                      have Z8 : Hid (wn.heap[b8]? = some (.cells #[.slice none 0 0, .int .i64 0, .int .u32 0, .int .i64 0] 70 (0, 0))) := by show _ = _; rw [hwn]; exact (put4_other _ _ _ _ _ _ _ (Ne.symm n78)).trans Z8.out
                      have Z7 : Hid (wn.heap[b7]? = some (.cells #[.slice aA oa.out.length cA, .int .i64 oa.ins, .int .u32 oa.exit, .int .i64 oa.e] 70 (0, 0))) := by show _ = _; rw [hwn]; exact put4_heap Z7.out _ _ _ _
                      clear hwn hbn
                      clear c0 c1 c2 c3 f0 f1 f2 f3
                      refine J_last 16 _ rfl (by kernel_rfl) ?_
                      simp only [List.getElem_toArray, List.getElem_cons_succ, List.getElem_cons_zero]
                      intro wj hj
                      have BC := Lib.hid (BC.out.trans (hj.mono BC.out.size))
                      have OA := Lib.hid (own_below OA.out hj)
                      have OB := Lib.hid (own_below OB.out hj)
                      have Z7 := Lib.hid ((hj.block b7 (Array.getElem?_eq_some_iff.1 Z7.out).1).trans Z7.out)
                      have Z8 := Lib.hid ((hj.block b8 (Array.getElem?_eq_some_iff.1 Z8.out).1).trans Z8.out)
                      clear hj
                      have c0 := cell_of_heap Z8.out 0
                      have c1 := cell_of_heap Z8.out 1
                      have c2 := cell_of_heap Z8.out 2
                      have c3 := cell_of_heap Z8.out 3
                      have f0 := frozen_of_heap Z8.out 0
                      have f1 := frozen_of_heap Z8.out 1
                      have f2 := frozen_of_heap Z8.out 2
                      have f3 := frozen_of_heap Z8.out 3
                      simp only [List.getElem?_toArray, List.getElem?_cons_zero, List.getElem?_cons_succ] at c0 c1 c2 c3
                      have lb8 : b8 < wj.heap.size := (Array.getElem?_eq_some_iff.1 Z8.out).1
                      go_wp2_with fail
                      obtain ⟨wn, hwn⟩ : ∃ wn, wn = (((wj.setCell ⟨b8, 0, none⟩ (.slice aB ob.out.length cB)).setCell ⟨b8, 1, none⟩ (.int .i64 ob.ins)).setCell ⟨b8, 2, none⟩ (.int .u32 ob.exit)).setCell ⟨b8, 3, none⟩ (.int .i64 ob.e) := ⟨_, rfl⟩
                      rw [← hwn]
                      have hbn : Below w1.heap.size w1 wn := by rw [hwn]; exact below_put4 BC.out hlo8 _ _ _ _
                      have BC := Lib.hid hbn
                      have OA : Hid (wn.ownsRow w1.heap.size 35 1 (.slice aA oa.out.length cA) oa.out.length (oa.out.map (Value.int .u32))) := by show World.ownsRow _ _ _ _ _ _ _; rw [hwn]; exact own_put4 OA.out _ (rows_ne OA.out (own_box (B := w1.heap.size) Z8.out hlo8 rfl) (by decide)) _ _ _ _
                      have OB : Hid (wn.ownsRow w1.heap.size 35 1 (.slice aB ob.out.length cB) ob.out.length (ob.out.map (Value.int .u32))) := by show World.ownsRow _ _ _ _ _ _ _; rw [hwn]; exact own_put4 OB.out _ (rows_ne OB.out (own_box (B := w1.heap.size) Z8.out hlo8 rfl) (by decide)) _ _ _ _
                      have Z7 : Hid (wn.heap[b7]? = some (.cells #[.slice aA oa.out.length cA, .int .i64 oa.ins, .int .u32 oa.exit, .int .i64 oa.e] 70 (0, 0))) := by show _ = _; rw [hwn]; exact (put4_other _ _ _ _ _ _ _ n78).trans Z7.out
                      have Z8 : Hid (wn.heap[b8]? = some (.cells #[.slice aB ob.out.length cB, .int .i64 ob.ins, .int .u32 ob.exit, .int .i64 ob.e] 70 (0, 0))) := by show _ = _; rw [hwn]; exact put4_heap Z8.out _ _ _ _
                      clear hwn hbn
                      clear c0 c1 c2 c3 f0 f1 f2 f3
                      refine J_done (by kernel_rfl) (fun wk hk => ?_) _
                      have BC := Lib.hid (BC.out.trans (hk.mono BC.out.size))
                      have OA := Lib.hid (own_below OA.out hk)
                      have OB := Lib.hid (own_below OB.out hk)
                      have Z7 := Lib.hid ((hk.block b7 (Array.getElem?_eq_some_iff.1 Z7.out).1).trans Z7.out)
                      have Z8 := Lib.hid ((hk.block b8 (Array.getElem?_eq_some_iff.1 Z8.out).1).trans Z8.out)
                      clear hk
                      go_wp2_with fail
                      go_meet
                      case rel => exact ⟨b7, b8, aA, cA, aB, cB, rfl, rfl, BC, OA, OB, Z7, Z8⟩
                  · simp only [List.getElem_toArray, List.getElem_cons_succ, List.getElem_cons_zero]
                    intro wj hj
                    have BC := Lib.hid (BC.out.trans (hj.mono BC.out.size))
                    have Z7 := Lib.hid ((hj.block b7 (Array.getElem?_eq_some_iff.1 Z7.out).1).trans Z7.out)
                    clear hj
                    have Z7w := Z7
                    go_wp2_with fail
                    refine ⟨KeepX.below (below_alloc _ _), ?_⟩
                    obtain ⟨b8, hb8⟩ : ∃ b : Nat, b = wj.heap.size := ⟨_, rfl⟩
                    obtain ⟨wn, hwn⟩ : ∃ wn, wn = wj.alloc (.cells #[.slice none 0 0, .int .i64 0, .int .u32 0, .int .i64 0] 70) := ⟨_, rfl⟩
                    have hbn : Below wj.heap.size wj wn := by rw [hwn]; exact below_alloc wj _
                    have Z8_ : Hid (wn.heap[b8]? = some (.cells #[.slice none 0 0, .int .i64 0, .int .u32 0, .int .i64 0] 70 (0, 0))) := by rw [hb8]; exact heap_of_alloc wj _ _ hwn
                    have hlo8 : w1.heap.size ≤ b8 := by have := BC.out.size; omega
                    rw [← hwn, ← hb8]
                    have BC := Lib.hid (BC.out.trans (hbn.mono BC.out.size))
                    have Z7 := Lib.hid ((hbn.block b7 (Array.getElem?_eq_some_iff.1 Z7.out).1).trans Z7.out)
                    have Z8 := Z8_
                    have n78 : b7 ≠ b8 := by have := (Array.getElem?_eq_some_iff.1 Z7w.out).1; omega
                    clear hbn hwn hb8
                    refine J_loud1 4 _ rfl (by kernel_rfl) ?_
                    simp only [List.getElem_toArray, List.getElem_cons_succ, List.getElem_cons_zero]
                    intro wj hj
                    have BC := Lib.hid (BC.out.trans (hj.mono BC.out.size))
                    have Z7 := Lib.hid ((hj.block b7 (Array.getElem?_eq_some_iff.1 Z7.out).1).trans Z7.out)
                    have Z8 := Lib.hid ((hj.block b8 (Array.getElem?_eq_some_iff.1 Z8.out).1).trans Z8.out)
                    clear hj
                    go_wp2_with fail
                    refine (HR0.out wj (hBO.out _ BC.out)).mono ?_
                    rintro e wn ⟨vn, rfl, hon, hbn⟩
                    obtain ⟨von, rfl, OA_⟩ := hon
                    obtain ⟨aA, cA, rfl⟩ := row_shape OA_
                    have OA := Lib.hid (own_base OA_ (B' := w1.heap.size) BC.out.size)
                    clear OA_
                    go_wp2_with fail
                    refine ⟨KeepX.below hbn, ?_⟩
                    have BC := Lib.hid (BC.out.trans (hbn.mono BC.out.size))
                    have Z7 := Lib.hid ((hbn.block b7 (Array.getElem?_eq_some_iff.1 Z7.out).1).trans Z7.out)
                    have Z8 := Lib.hid ((hbn.block b8 (Array.getElem?_eq_some_iff.1 Z8.out).1).trans Z8.out)
                    clear hbn
                    refine J_loud1 12 _ rfl (by kernel_rfl) ?_
                    simp only [List.getElem_toArray, List.getElem_cons_succ, List.getElem_cons_zero]
                    intro wj hj
                    have BC := Lib.hid (BC.out.trans (hj.mono BC.out.size))
                    have OA := Lib.hid (own_below OA.out hj)
                    have Z7 := Lib.hid ((hj.block b7 (Array.getElem?_eq_some_iff.1 Z7.out).1).trans Z7.out)
                    have Z8 := Lib.hid ((hj.block b8 (Array.getElem?_eq_some_iff.1 Z8.out).1).trans Z8.out)
                    clear hj
                    go_wp2_with fail
                    refine (HR1.out wj (hBO.out _ BC.out)).mono ?_
                    rintro e wn ⟨vn, rfl, hon, hbn⟩
                    obtain ⟨von, rfl, OB_⟩ := hon
                    obtain ⟨aB, cB, rfl⟩ := row_shape OB_
                    have OB := Lib.hid (own_base OB_ (B' := w1.heap.size) BC.out.size)
                    clear OB_
                    go_wp2_with fail
                    refine ⟨KeepX.below hbn, ?_⟩
                    have BC := Lib.hid (BC.out.trans (hbn.mono BC.out.size))
                    have OA := Lib.hid (own_below OA.out hbn)
                    have Z7 := Lib.hid ((hbn.block b7 (Array.getElem?_eq_some_iff.1 Z7.out).1).trans Z7.out)
                    have Z8 := Lib.hid ((hbn.block b8 (Array.getElem?_eq_some_iff.1 Z8.out).1).trans Z8.out)
                    clear hbn
                    refine J_loud1 15 _ rfl (by kernel_rfl) ?_
                    simp only [List.getElem_toArray, List.getElem_cons_succ, List.getElem_cons_zero]
                    intro wj hj
                    have BC := Lib.hid (BC.out.trans (hj.mono BC.out.size))
                    have OA := Lib.hid (own_below OA.out hj)
                    have OB := Lib.hid (own_below OB.out hj)
                    have Z7 := Lib.hid ((hj.block b7 (Array.getElem?_eq_some_iff.1 Z7.out).1).trans Z7.out)
                    have Z8 := Lib.hid ((hj.block b8 (Array.getElem?_eq_some_iff.1 Z8.out).1).trans Z8.out)
                    clear hj
                    have c0 := cell_of_heap Z7.out 0
                    have c1 := cell_of_heap Z7.out 1
                    have c2 := cell_of_heap Z7.out 2
                    have c3 := cell_of_heap Z7.out 3
                    have f0 := frozen_of_heap Z7.out 0
                    have f1 := frozen_of_heap Z7.out 1
                    have f2 := frozen_of_heap Z7.out 2
                    have f3 := frozen_of_heap Z7.out 3
                    simp only [List.getElem?_toArray, List.getElem?_cons_zero, List.getElem?_cons_succ] at c0 c1 c2 c3
                    have lb7 : b7 < wj.heap.size := (Array.getElem?_eq_some_iff.1 Z7.out).1
                    go_wp2_with fail
                    obtain ⟨wn, hwn⟩ : ∃ wn, wn = (((wj.setCell ⟨b7, 0, none⟩ (.slice aA oa.out.length cA)).setCell ⟨b7, 1, none⟩ (.int .i64 oa.ins)).setCell ⟨b7, 2, none⟩ (.int .u32 oa.exit)).setCell ⟨b7, 3, none⟩ (.int .i64 oa.e) := ⟨_, rfl⟩
                    rw [← hwn]
                    refine ⟨KeepX_put4 hwn (fun h => Nat.not_lt.2 hlo7 h), ?_⟩
                    have hbn : Below w1.heap.size w1 wn := by rw [hwn]; exact below_put4 BC.out hlo7 _ _ _ _
                    have BC := Lib.hid hbn
                    have OA : Hid (wn.ownsRow w1.heap.size 35 1 (.slice aA oa.out.length cA) oa.out.length (oa.out.map (Value.int .u32))) := by show World.ownsRow _ _ _ _ _ _ _; rw [hwn]; exact own_put4 OA.out _ (rows_ne OA.out (own_box (B := w1.heap.size) Z7.out hlo7 rfl) (by decide)) _ _ _ _
                    have OB : Hid (wn.ownsRow w1.heap.size 35 1 (.slice aB ob.out.length cB) ob.out.length (ob.out.map (Value.int .u32))) := by show World.ownsRow _ _ _ _ _ _ _; rw [hwn]; exact own_put4 OB.out _ (rows_ne OB.out (own_box (B := w1.heap.size) Z7.out hlo7 rfl) (by decide)) _ _ _ _
                    have Z8 : Hid (wn.heap[b8]? = some (.cells #[.slice none 0 0, .int .i64 0, .int .u32 0, .int .i64 0] 70 (0, 0))) := by show _ = _; rw [hwn]; exact (put4_other _ _ _ _ _ _ _ (Ne.symm n78)).trans Z8.out
                    have Z7 : Hid (wn.heap[b7]? = some (.cells #[.slice aA oa.out.length cA, .int .i64 oa.ins, .int .u32 oa.exit, .int .i64 oa.e] 70 (0, 0))) := by show _ = _; rw [hwn]; exact put4_heap Z7.out _ _ _ _
                    clear hwn hbn
                    clear c0 c1 c2 c3 f0 f1 f2 f3
                    refine J_last 16 _ rfl (by kernel_rfl) ?_
                    simp only [List.getElem_toArray, List.getElem_cons_succ, List.getElem_cons_zero]
                    intro wj hj
                    have BC := Lib.hid (BC.out.trans (hj.mono BC.out.size))
                    have OA := Lib.hid (own_below OA.out hj)
                    have OB := Lib.hid (own_below OB.out hj)
                    have Z7 := Lib.hid ((hj.block b7 (Array.getElem?_eq_some_iff.1 Z7.out).1).trans Z7.out)
                    have Z8 := Lib.hid ((hj.block b8 (Array.getElem?_eq_some_iff.1 Z8.out).1).trans Z8.out)
                    clear hj
                    have c0 := cell_of_heap Z8.out 0
                    have c1 := cell_of_heap Z8.out 1
                    have c2 := cell_of_heap Z8.out 2
                    have c3 := cell_of_heap Z8.out 3
                    have f0 := frozen_of_heap Z8.out 0
                    have f1 := frozen_of_heap Z8.out 1
                    have f2 := frozen_of_heap Z8.out 2
                    have f3 := frozen_of_heap Z8.out 3
                    simp only [List.getElem?_toArray, List.getElem?_cons_zero, List.getElem?_cons_succ] at c0 c1 c2 c3
                    have lb8 : b8 < wj.heap.size := (Array.getElem?_eq_some_iff.1 Z8.out).1
                    go_wp2_with fail
                    obtain ⟨wn, hwn⟩ : ∃ wn, wn = (((wj.setCell ⟨b8, 0, none⟩ (.slice aB ob.out.length cB)).setCell ⟨b8, 1, none⟩ (.int .i64 ob.ins)).setCell ⟨b8, 2, none⟩ (.int .u32 ob.exit)).setCell ⟨b8, 3, none⟩ (.int .i64 ob.e) := ⟨_, rfl⟩
                    rw [← hwn]
                    have hbn : Below w1.heap.size w1 wn := by rw [hwn]; exact below_put4 BC.out hlo8 _ _ _ _
                    have BC := Lib.hid hbn
                    have OA : Hid (wn.ownsRow w1.heap.size 35 1 (.slice aA oa.out.length cA) oa.out.length (oa.out.map (Value.int .u32))) := by show World.ownsRow _ _ _ _ _ _ _; rw [hwn]; exact own_put4 OA.out _ (rows_ne OA.out (own_box (B := w1.heap.size) Z8.out hlo8 rfl) (by decide)) _ _ _ _
                    have OB : Hid (wn.ownsRow w1.heap.size 35 1 (.slice aB ob.out.length cB) ob.out.length (ob.out.map (Value.int .u32))) := by show World.ownsRow _ _ _ _ _ _ _; rw [hwn]; exact own_put4 OB.out _ (rows_ne OB.out (own_box (B := w1.heap.size) Z8.out hlo8 rfl) (by decide)) _ _ _ _
                    have Z7 : Hid (wn.heap[b7]? = some (.cells #[.slice aA oa.out.length cA, .int .i64 oa.ins, .int .u32 oa.exit, .int .i64 oa.e] 70 (0, 0))) := by show _ = _; rw [hwn]; exact (put4_other _ _ _ _ _ _ _ n78).trans Z7.out
                    have Z8 : Hid (wn.heap[b8]? = some (.cells #[.slice aB ob.out.length cB, .int .i64 ob.ins, .int .u32 ob.exit, .int .i64 ob.e] 70 (0, 0))) := by show _ = _; rw [hwn]; exact put4_heap Z8.out _ _ _ _
                    clear hwn hbn
                    clear c0 c1 c2 c3 f0 f1 f2 f3
                    refine J_done (by kernel_rfl) (fun wk hk => ?_) _
                    have BC := Lib.hid (BC.out.trans (hk.mono BC.out.size))
                    have OA := Lib.hid (own_below OA.out hk)
                    have OB := Lib.hid (own_below OB.out hk)
                    have Z7 := Lib.hid ((hk.block b7 (Array.getElem?_eq_some_iff.1 Z7.out).1).trans Z7.out)
                    have Z8 := Lib.hid ((hk.block b8 (Array.getElem?_eq_some_iff.1 Z8.out).1).trans Z8.out)
                    clear hk
                    go_wp2_with fail
                    go_meet
                    case rel => exact ⟨b7, b8, aA, cA, aB, cB, rfl, rfl, BC, OA, OB, Z7, Z8⟩
                · simp only [List.getElem_toArray, List.getElem_cons_succ, List.getElem_cons_zero]
                  intro wj hj
                  have BC := Lib.hid (BC.out.trans (hj.mono BC.out.size))
                  clear hj
                  go_wp2_with fail
                  refine ⟨KeepX.below (below_alloc _ _), ?_⟩
                  obtain ⟨b8, hb8⟩ : ∃ b : Nat, b = wj.heap.size := ⟨_, rfl⟩
                  obtain ⟨wn, hwn⟩ : ∃ wn, wn = wj.alloc (.cells #[.slice none 0 0, .int .i64 0, .int .u32 0, .int .i64 0] 70) := ⟨_, rfl⟩
                  have hbn : Below wj.heap.size wj wn := by rw [hwn]; exact below_alloc wj _
                  have Z8_ : Hid (wn.heap[b8]? = some (.cells #[.slice none 0 0, .int .i64 0, .int .u32 0, .int .i64 0] 70 (0, 0))) := by rw [hb8]; exact heap_of_alloc wj _ _ hwn
                  have hlo8 : w1.heap.size ≤ b8 := by have := BC.out.size; omega
                  rw [← hwn, ← hb8]
                  have BC := Lib.hid (BC.out.trans (hbn.mono BC.out.size))
                  have Z8 := Z8_
                  clear hbn hwn hb8
                  refine J_loud2 4 13 _ _ rfl rfl (by kernel_rfl) ?_ ?_
                  · simp only [List.getElem_toArray, List.getElem_cons_succ, List.getElem_cons_zero]
                    intro wj hj
                    have BC := Lib.hid (BC.out.trans (hj.mono BC.out.size))
                    have Z8 := Lib.hid ((hj.block b8 (Array.getElem?_eq_some_iff.1 Z8.out).1).trans Z8.out)
                    clear hj
                    go_wp2_with fail
                    refine (HR0.out wj (hBO.out _ BC.out)).mono ?_
                    rintro e wn ⟨vn, rfl, hon, hbn⟩
                    obtain ⟨von, rfl, OA_⟩ := hon
                    obtain ⟨aA, cA, rfl⟩ := row_shape OA_
                    have OA := Lib.hid (own_base OA_ (B' := w1.heap.size) BC.out.size)
                    clear OA_
                    go_wp2_with fail
                    refine ⟨KeepX.below hbn, ?_⟩
                    have BC := Lib.hid (BC.out.trans (hbn.mono BC.out.size))
                    have Z8 := Lib.hid ((hbn.block b8 (Array.getElem?_eq_some_iff.1 Z8.out).1).trans Z8.out)
                    clear hbn
                    refine J_loud2 12 13 _ _ rfl rfl (by kernel_rfl) ?_ ?_
                    · simp only [List.getElem_toArray, List.getElem_cons_succ, List.getElem_cons_zero]
                      intro wj hj
                      have BC := Lib.hid (BC.out.trans (hj.mono BC.out.size))
                      have OA := Lib.hid (own_below OA.out hj)
                      have Z8 := Lib.hid ((hj.block b8 (Array.getElem?_eq_some_iff.1 Z8.out).1).trans Z8.out)
                      clear hj
                      go_wp2_with fail
                      refine (HR1.out wj (hBO.out _ BC.out)).mono ?_
                      rintro e wn ⟨vn, rfl, hon, hbn⟩
                      obtain ⟨von, rfl, OB_⟩ := hon
                      obtain ⟨aB, cB, rfl⟩ := row_shape OB_
                      have OB := Lib.hid (own_base OB_ (B' := w1.heap.size) BC.out.size)
                      clear OB_
                      go_wp2_with fail
                      refine ⟨KeepX.below hbn, ?_⟩
                      have BC := Lib.hid (BC.out.trans (hbn.mono BC.out.size))
                      have OA := Lib.hid (own_below OA.out hbn)
                      have Z8 := Lib.hid ((hbn.block b8 (Array.getElem?_eq_some_iff.1 Z8.out).1).trans Z8.out)
                      clear hbn
                      refine J_loud1 13 _ rfl (by kernel_rfl) ?_
                      simp only [List.getElem_toArray, List.getElem_cons_succ, List.getElem_cons_zero]
                      intro wj hj
                      have BC := Lib.hid (BC.out.trans (hj.mono BC.out.size))
                      have OA := Lib.hid (own_below OA.out hj)
                      have OB := Lib.hid (own_below OB.out hj)
                      have Z8 := Lib.hid ((hj.block b8 (Array.getElem?_eq_some_iff.1 Z8.out).1).trans Z8.out)
                      clear hj
                      have Z8w := Z8
                      go_wp2_with fail
                      refine ⟨KeepX.below (below_alloc _ _), ?_⟩
                      obtain ⟨b7, hb7⟩ : ∃ b : Nat, b = wj.heap.size := ⟨_, rfl⟩
                      obtain ⟨wn, hwn⟩ : ∃ wn, wn = wj.alloc (.cells #[.slice none 0 0, .int .i64 0, .int .u32 0, .int .i64 0] 70) := ⟨_, rfl⟩
                      have hbn : Below wj.heap.size wj wn := by rw [hwn]; exact below_alloc wj _
                      have Z7_ : Hid (wn.heap[b7]? = some (.cells #[.slice none 0 0, .int .i64 0, .int .u32 0, .int .i64 0] 70 (0, 0))) := by rw [hb7]; exact heap_of_alloc wj _ _ hwn
                      have hlo7 : w1.heap.size ≤ b7 := by have := BC.out.size; omega
                      rw [← hwn, ← hb7]
                      have BC := Lib.hid (BC.out.trans (hbn.mono BC.out.size))
                      have OA := Lib.hid (own_below OA.out hbn)
                      have OB := Lib.hid (own_below OB.out hbn)
                      have Z8 := Lib.hid ((hbn.block b8 (Array.getElem?_eq_some_iff.1 Z8.out).1).trans Z8.out)
                      have Z7 := Z7_
                      have n78 : b7 ≠ b8 := by have := (Array.getElem?_eq_some_iff.1 Z8w.out).1; omega
                      clear hbn hwn hb7
                      refine J_loud1 15 _ rfl (by kernel_rfl) ?_
                      simp only [List.getElem_toArray, List.getElem_cons_succ, List.getElem_cons_zero]
                      intro wj hj
                      have BC := Lib.hid (BC.out.trans (hj.mono BC.out.size))
                      have OA := Lib.hid (own_below OA.out hj)
                      have OB := Lib.hid (own_below OB.out hj)
                      have Z7 := Lib.hid ((hj.block b7 (Array.getElem?_eq_some_iff.1 Z7.out).1).trans Z7.out)
                      have Z8 := Lib.hid ((hj.block b8 (Array.getElem?_eq_some_iff.1 Z8.out).1).trans Z8.out)
                      clear hj
                      have c0 := cell_of_heap Z7.out 0
                      have c1 := cell_of_heap Z7.out 1
                      have c2 := cell_of_heap Z7.out 2
                      have c3 := cell_of_heap Z7.out 3
                      have f0 := frozen_of_heap Z7.out 0
                      have f1 := frozen_of_heap Z7.out 1
                      have f2 := frozen_of_heap Z7.out 2
                      have f3 := frozen_of_heap Z7.out 3
                      simp only [List.getElem?_toArray, List.getElem?_cons_zero, List.getElem?_cons_succ] at c0 c1 c2 c3
                      have lb7 : b7 < wj.heap.size := (Array.getElem?_eq_some_iff.1 Z7.out).1
                      go_wp2_with fail
                      obtain ⟨wn, hwn⟩ : ∃ wn, wn = (((wj.setCell ⟨b7, 0, none⟩ (.slice aA oa.out.length cA)).setCell ⟨b7, 1, none⟩ (.int .i64 oa.ins)).setCell ⟨b7, 2, none⟩ (.int .u32 oa.exit)).setCell ⟨b7, 3, none⟩ (.int .i64 oa.e) := ⟨_, rfl⟩
                      rw [← hwn]
                      refine ⟨KeepX_put4 hwn (fun h => Nat.not_lt.2 hlo7 h), ?_⟩
                      have hbn : Below w1.heap.size w1 wn := by rw [hwn]; exact below_put4 BC.out hlo7 _ _ _ _
                      have BC := Lib.hid hbn
                      have OA : Hid (wn.ownsRow w1.heap.size 35 1 (.slice aA oa.out.length cA) oa.out.length (oa.out.map (Value.int .u32))) := by show World.ownsRow _ _ _ _ _ _ _; rw [hwn]; exact own_put4 OA.out _ (rows_ne OA.out (own_box (B := w1.heap.size) Z7.out hlo7 rfl) (by decide)) _ _ _ _
                      have OB : Hid (wn.ownsRow w1.heap.size 35 1 (.slice aB ob.out.length cB) ob.out.length (ob.out.map (Value.int .u32))) := by show World.ownsRow _ _ _ _ _ _ _; rw [hwn]; exact own_put4 OB.out _ (rows_ne OB.out (own_box (B := w1.heap.size) Z7.out hlo7 rfl) (by decide)) _ _ _ _
                      have Z8 : Hid (wn.heap[b8]? = some (.cells #[.slice none 0 0, .int .i64 0, .int .u32 0, .int .i64 0] 70 (0, 0))) := by show _ = _; rw [hwn]; exact (put4_other _ _ _ _ _ _ _ (Ne.symm n78)).trans Z8.out
                      have Z7 : Hid (wn.heap[b7]? = some (.cells #[.slice aA oa.out.length cA, .int .i64 oa.ins, .int .u32 oa.exit, .int .i64 oa.e] 70 (0, 0))) := by show _ = _; rw [hwn]; exact put4_heap Z7.out _ _ _ _
                      clear hwn hbn
                      clear c0 c1 c2 c3 f0 f1 f2 f3
                      refine J_last 16 _ rfl (by kernel_rfl) ?_
                      simp only [List.getElem_toArray, List.getElem_cons_succ, List.getElem_cons_zero]
                      intro wj hj
                      have BC := Lib.hid (BC.out.trans (hj.mono BC.out.size))
                      have OA := Lib.hid (own_below OA.out hj)
                      have OB := Lib.hid (own_below OB.out hj)
                      have Z7 := Lib.hid ((hj.block b7 (Array.getElem?_eq_some_iff.1 Z7.out).1).trans Z7.out)
                      have Z8 := Lib.hid ((hj.block b8 (Array.getElem?_eq_some_iff.1 Z8.out).1).trans Z8.out)
                      clear hj
                      have c0 := cell_of_heap Z8.out 0
                      have c1 := cell_of_heap Z8.out 1
                      have c2 := cell_of_heap Z8.out 2
                      have c3 := cell_of_heap Z8.out 3
                      have f0 := frozen_of_heap Z8.out 0
                      have f1 := frozen_of_heap Z8.out 1
                      have f2 := frozen_of_heap Z8.out 2
                      have f3 := frozen_of_heap Z8.out 3
                      simp only [List.getElem?_toArray, List.getElem?_cons_zero, List.getElem?_cons_succ] at c0 c1 c2 c3
                      have lb8 : b8 < wj.heap.size := (Array.getElem?_eq_some_iff.1 Z8.out).1
                      go_wp2_with fail
                      obtain ⟨wn, hwn⟩ : ∃ wn, wn = (((wj.setCell ⟨b8, 0, none⟩ (.slice aB ob.out.length cB)).setCell ⟨b8, 1, none⟩ (.int .i64 ob.ins)).setCell ⟨b8, 2, none⟩ (.int .u32 ob.exit)).setCell ⟨b8, 3, none⟩ (.int .i64 ob.e) := ⟨_, rfl⟩
                      rw [← hwn]
                      have hbn : Below w1.heap.size w1 wn := by rw [hwn]; exact below_put4 BC.out hlo8 _ _ _ _
                      have BC := Lib.hid hbn
                      have OA : Hid (wn.ownsRow w1.heap.size 35 1 (.slice aA oa.out.length cA) oa.out.length (oa.out.map (Value.int .u32))) := by show World.ownsRow _ _ _ _ _ _ _; rw [hwn]; exact own_put4 OA.out _ (rows_ne OA.out (own_box (B := w1.heap.size) Z8.out hlo8 rfl) (by decide)) _ _ _ _
                      have OB : Hid (wn.ownsRow w1.heap.size 35 1 (.slice aB ob.out.length cB) ob.out.length (ob.out.map (Value.int .u32))) := by show World.ownsRow _ _ _ _ _ _ _; rw [hwn]; exact own_put4 OB.out _ (rows_ne OB.out (own_box (B := w1.heap.size) Z8.out hlo8 rfl) (by decide)) _ _ _ _
                      have Z7 : Hid (wn.heap[b7]? = some (.cells #[.slice aA oa.out.length cA, .int .i64 oa.ins, .int .u32 oa.exit, .int .i64 oa.e] 70 (0, 0))) := by show _ = _; rw [hwn]; exact (put4_other _ _ _ _ _ _ _ n78).trans Z7.out
                      have Z8 : Hid (wn.heap[b8]? = some (.cells #[.slice aB ob.out.length cB, .int .i64 ob.ins, .int .u32 ob.exit, .int .i64 ob.e] 70 (0, 0))) := by show _ = _; rw [hwn]; exact put4_heap Z8.out _ _ _ _
                      clear hwn hbn
                      clear c0 c1 c2 c3 f0 f1 f2 f3
                      refine J_done (by kernel_rfl) (fun wk hk => ?_) _
                      have BC := Lib.hid (BC.out.trans (hk.mono BC.out.size))
                      have OA := Lib.hid (own_below OA.out hk)
                      have OB := Lib.hid (own_below OB.out hk)
                      have Z7 := Lib.hid ((hk.block b7 (Array.getElem?_eq_some_iff.1 Z7.out).1).trans Z7.out)
                      have Z8 := Lib.hid ((hk.block b8 (Array.getElem?_eq_some_iff.1 Z8.out).1).trans Z8.out)
                      clear hk
                      go_wp2_with fail
                      go_meet
                      case rel => exact ⟨b7, b8, aA, cA, aB, cB, rfl, rfl, BC, OA, OB, Z7, Z8⟩
                    · simp only [List.getElem_toArray, List.getElem_cons_succ, List.getElem_cons_zero]
                      intro wj hj
                      have BC := Lib.hid (BC.out.trans (hj.mono BC.out.size))
                      have OA := Lib.hid (own_below OA.out hj)
                      have Z8 := Lib.hid ((hj.block b8 (Array.getElem?_eq_some_iff.1 Z8.out).1).trans Z8.out)
                      clear hj
                      have Z8w := Z8
                      go_wp2_with fail
                      refine ⟨KeepX.below (below_alloc _ _), ?_⟩
                      obtain ⟨b7, hb7⟩ : ∃ b : Nat, b = wj.heap.size := ⟨_, rfl⟩
                      obtain ⟨wn, hwn⟩ : ∃ wn, wn = wj.alloc (.cells #[.slice none 0 0, .int .i64 0, .int .u32 0, .int .i64 0] 70) := ⟨_, rfl⟩
                      have hbn : Below wj.heap.size wj wn := by rw [hwn]; exact below_alloc wj _
                      have Z7_ : Hid (wn.heap[b7]? = some (.cells #[.slice none 0 0, .int .i64 0, .int .u32 0, .int .i64 0] 70 (0, 0))) := by rw [hb7]; exact heap_of_alloc wj _ _ hwn
                      have hlo7 : w1.heap.size ≤ b7 := by have := BC.out.size; omega
                      rw [← hwn, ← hb7]
                      have BC := Lib.hid (BC.out.trans (hbn.mono BC.out.size))
                      have OA := Lib.hid (own_below OA.out hbn)
                      have Z8 := Lib.hid ((hbn.block b8 (Array.getElem?_eq_some_iff.1 Z8.out).1).trans Z8.out)
                      have Z7 := Z7_
                      have n78 : b7 ≠ b8 := by have := (Array.getElem?_eq_some_iff.1 Z8w.out).1; omega
                      clear hbn hwn hb7
                      refine J_loud1 12 _ rfl (by kernel_rfl) ?_
                      simp only [List.getElem_toArray, List.getElem_cons_succ, List.getElem_cons_zero]
                      intro wj hj
                      have BC := Lib.hid (BC.out.trans (hj.mono BC.out.size))
                      have OA := Lib.hid (own_below OA.out hj)
                      have Z7 := Lib.hid ((hj.block b7 (Array.getElem?_eq_some_iff.1 Z7.out).1).trans Z7.out)
                      have Z8 := Lib.hid ((hj.block b8 (Array.getElem?_eq_some_iff.1 Z8.out).1).trans Z8.out)
                      clear hj
                      go_wp2_with fail
                      refine (HR1.out wj (hBO.out _ BC.out)).mono ?_
                      rintro e wn ⟨vn, rfl, hon, hbn⟩
                      obtain ⟨von, rfl, OB_⟩ := hon
                      obtain ⟨aB, cB, rfl⟩ := row_shape OB_
                      have OB := Lib.hid (own_base OB_ (B' := w1.heap.size) BC.out.size)
                      clear OB_
                      go_wp2_with fail
                      refine ⟨KeepX.below hbn, ?_⟩
                      have BC := Lib.hid (BC.out.trans (hbn.mono BC.out.size))
                      have OA := Lib.hid (own_below OA.out hbn)
                      have Z7 := Lib.hid ((hbn.block b7 (Array.getElem?_eq_some_iff.1 Z7.out).1).trans Z7.out)
                      have Z8 := Lib.hid ((hbn.block b8 (Array.getElem?_eq_some_iff.1 Z8.out).1).trans Z8.out)
                      clear hbn
                      refine J_loud1 15 _ rfl (by kernel_rfl) ?_
                      simp only [List.getElem_toArray, List.getElem_cons_succ, List.getElem_cons_zero]
                      intro wj hj
                      have BC := Lib.hid (BC.out.trans (hj.mono BC.out.size))
                      have OA := Lib.hid (own_below OA.out hj)
                      have OB := Lib.hid (own_below OB.out hj)
                      have Z7 := Lib.hid ((hj.block b7 (Array.getElem?_eq_some_iff.1 Z7.out).1).trans Z7.out)
                      have Z8 := Lib.hid ((hj.block b8 (Array.getElem?_eq_some_iff.1 Z8.out).1).trans Z8.out)
                      clear hj
                      have c0 := cell_of_heap Z7.out 0
                      have c1 := cell_of_heap Z7.out 1
                      have c2 := cell_of_heap Z7.out 2
                      have c3 := cell_of_heap Z7.out 3
                      have f0 := frozen_of_heap Z7.out 0
                      have f1 := frozen_of_heap Z7.out 1
                      have f2 := frozen_of_heap Z7.out 2
                      have f3 := frozen_of_heap Z7.out 3
                      simp only [List.getElem?_toArray, List.getElem?_cons_zero, List.getElem?_cons_succ] at c0 c1 c2 c3
                      have lb7 : b7 < wj.heap.size := (Array.getElem?_eq_some_iff.1 Z7.out).1
                      go_wp2_with fail
                      obtain ⟨wn, hwn⟩ : ∃ wn, wn = (((wj.setCell ⟨b7, 0, none⟩ (.slice aA oa.out.length cA)).setCell ⟨b7, 1, none⟩ (.int .i64 oa.ins)).setCell ⟨b7, 2, none⟩ (.int .u32 oa.exit)).setCell ⟨b7, 3, none⟩ (.int .i64 oa.e) := ⟨_, rfl⟩
                      rw [← hwn]
                      refine ⟨KeepX_put4 hwn (fun h => Nat.not_lt.2 hlo7 h), ?_⟩
                      have hbn : Below w1.heap.size w1 wn := by rw [hwn]; exact below_put4 BC.out hlo7 _ _ _ _
                      have BC := Lib.hid hbn
                      have OA : Hid (wn.ownsRow w1.heap.size 35 1 (.slice aA oa.out.length cA) oa.out.length (oa.out.map (Value.int .u32))) := by show World.ownsRow _ _ _ _ _ _ _; rw [hwn]; exact own_put4 OA.out _ (rows_ne OA.out (own_box (B := w1.heap.size) Z7.out hlo7 rfl) (by decide)) _ _ _ _
                      have OB : Hid (wn.ownsRow w1.heap.size 35 1 (.slice aB ob.out.length cB) ob.out.length (ob.out.map (Value.int .u32))) := by show World.ownsRow _ _ _ _ _ _ _; rw [hwn]; exact own_put4 OB.out _ (rows_ne OB.out (own_box (B := w1.heap.size) Z7.out hlo7 rfl) (by decide)) _ _ _ _
                      have Z8 : Hid (wn.heap[b8]? = some (.cells #[.slice none 0 0, .int .i64 0, .int .u32 0, .int .i64 0] 70 (0, 0))) := by show _ = _; rw [hwn]; exact (put4_other _ _ _ _ _ _ _ (Ne.symm n78)).trans Z8.out
                      have Z7 : Hid (wn.heap[b7]? = some (.cells #[.slice aA oa.out.length cA, .int .i64 oa.ins, .int .u32 oa.exit, .int .i64 oa.e] 70 (0, 0))) := by show _ = _; rw [hwn]; exact put4_heap Z7.out _ _ _ _
                      clear hwn hbn
                      clear c0 c1 c2 c3 f0 f1 f2 f3
                      refine J_last 16 _ rfl (by kernel_rfl) ?_
                      simp only [List.getElem_toArray, List.getElem_cons_succ, List.getElem_cons_zero]
                      intro wj hj
                      have BC := Lib.hid (BC.out.trans (hj.mono BC.out.size))
                      have OA := Lib.hid (own_below OA.out hj)
                      have OB := Lib.hid (own_below OB.out hj)
                      have Z7 := Lib.hid ((hj.block b7 (Array.getElem?_eq_some_iff.1 Z7.out).1).trans Z7.out)
                      have Z8 := Lib.hid ((hj.block b8 (Array.getElem?_eq_some_iff.1 Z8.out).1).trans Z8.out)
                      clear hj
                      have c0 := cell_of_heap Z8.out 0
                      have c1 := cell_of_heap Z8.out 1
                      have c2 := cell_of_heap Z8.out 2
                      have c3 := cell_of_heap Z8.out 3
                      have f0 := frozen_of_heap Z8.out 0
                      have f1 := frozen_of_heap Z8.out 1
                      have f2 := frozen_of_heap Z8.out 2
                      have f3 := frozen_of_heap Z8.out 3
                      simp only [List.getElem?_toArray, List.getElem?_cons_zero, List.getElem?_cons_succ] at c0 c1 c2 c3
                      have lb8 : b8 < wj.heap.size := (Array.getElem?_eq_some_iff.1 Z8.out).1
                      go_wp2_with fail
                      obtain ⟨wn, hwn⟩ : ∃ wn, wn = (((wj.setCell ⟨b8, 0, none⟩ (.slice aB ob.out.length cB)).setCell ⟨b8, 1, none⟩ (.int .i64 ob.ins)).setCell ⟨b8, 2, none⟩ (.int .u32 ob.exit)).setCell ⟨b8, 3, none⟩ (.int .i64 ob.e) := ⟨_, rfl⟩
                      rw [← hwn]
                      have hbn : Below w1.heap.size w1 wn := by rw [hwn]; exact below_put4 BC.out hlo8 _ _ _ _
                      have BC := Lib.hid hbn
                      have OA : Hid (wn.ownsRow w1.heap.size 35 1 (.slice aA oa.out.length cA) oa.out.length (oa.out.map (Value.int .u32))) := by show World.ownsRow _ _ _ _ _ _ _; rw [hwn]; exact own_put4 OA.out _ (rows_ne OA.out (own_box (B := w1.heap.size) Z8.out hlo8 rfl) (by decide)) _ _ _ _
                      have OB : Hid (wn.ownsRow w1.heap.size 35 1 (.slice aB ob.out.length cB) ob.out.length (ob.out.map (Value.int .u32))) := by show World.ownsRow _ _ _ _ _ _ _; rw [hwn]; exact own_put4 OB.out _ (rows_ne OB.out (own_box (B := w1.heap.size) Z8.out hlo8 rfl) (by decide)) _ _ _ _
                      have Z7 : Hid (wn.heap[b7]? = some (.cells #[.slice aA oa.out.length cA, .int .i64 oa.ins, .int .u32 oa.exit, .int .i64 oa.e] 70 (0, 0))) := by show _ = _; rw [hwn]; exact (put4_other _ _ _ _ _ _ _ n78).trans Z7.out
                      have Z8 : Hid (wn.heap[b8]? = some (.cells #[.slice aB ob.out.length cB, .int .i64 ob.ins, .int .u32 ob.exit, .int .i64 ob.e] 70 (0, 0))) := by show _ = _; rw [hwn]; exact put4_heap Z8.out _ _ _ _
                      clear hwn hbn
                      clear c0 c1 c2 c3 f0 f1 f2 f3
                      refine J_done (by kernel_rfl) (fun wk hk => ?_) _
                      have BC := Lib.hid (BC.out.trans (hk.mono BC.out.size))
                      have OA := Lib.hid (own_below OA.out hk)
                      have OB := Lib.hid (own_below OB.out hk)
                      have Z7 := Lib.hid ((hk.block b7 (Array.getElem?_eq_some_iff.1 Z7.out).1).trans Z7.out)
                      have Z8 := Lib.hid ((hk.block b8 (Array.getElem?_eq_some_iff.1 Z8.out).1).trans Z8.out)
                      clear hk
                      go_wp2_with fail
                      go_meet
                      case rel => exact ⟨b7, b8, aA, cA, aB, cB, rfl, rfl, BC, OA, OB, Z7, Z8⟩
                  · simp only [List.getElem_toArray, List.getElem_cons_succ, List.getElem_cons_zero]
                    intro wj hj
                    have BC := Lib.hid (BC.out.trans (hj.mono BC.out.size))
                    have Z8 := Lib.hid ((hj.block b8 (Array.getElem?_eq_some_iff.1 Z8.out).1).trans Z8.out)
                    clear hj
                    have Z8w := Z8
                    go_wp2_with fail
                    refine ⟨KeepX.below (below_alloc _ _), ?_⟩
                    obtain ⟨b7, hb7⟩ : ∃ b : Nat, b = wj.heap.size := ⟨_, rfl⟩
                    obtain ⟨wn, hwn⟩ : ∃ wn, wn = wj.alloc (.cells #[.slice none 0 0, .int .i64 0, .int .u32 0, .int .i64 0] 70) := ⟨_, rfl⟩
                    have hbn : Below wj.heap.size wj wn := by rw [hwn]; exact below_alloc wj _
                    have Z7_ : Hid (wn.heap[b7]? = some (.cells #[.slice none 0 0, .int .i64 0, .int .u32 0, .int .i64 0] 70 (0, 0))) := by rw [hb7]; exact heap_of_alloc wj _ _ hwn
                    have hlo7 : w1.heap.size ≤ b7 := by have := BC.out.size; omega
                    rw [← hwn, ← hb7]
                    have BC := Lib.hid (BC.out.trans (hbn.mono BC.out.size))
                    have Z8 := Lib.hid ((hbn.block b8 (Array.getElem?_eq_some_iff.1 Z8.out).1).trans Z8.out)
                    have Z7 := Z7_
                    have n78 : b7 ≠ b8 := by have := (Array.getElem?_eq_some_iff.1 Z8w.out).1; omega
                    clear hbn hwn hb7
                    refine J_loud1 4 _ rfl (by kernel_rfl) ?_
                    simp only [List.getElem_toArray, List.getElem_cons_succ, List.getElem_cons_zero]
                    intro wj hj
                    have BC := Lib.hid (BC.out.trans (hj.mono BC.out.size))
                    have Z7 := Lib.hid ((hj.block b7 (Array.getElem?_eq_some_iff.1 Z7.out).1).trans Z7.out)
                    have Z8 := Lib.hid ((hj.block b8 (Array.getElem?_eq_some_iff.1 Z8.out).1).trans Z8.out)
                    clear hj
                    go_wp2_with fail
                    refine (HR0.out wj (hBO.out _ BC.out)).mono ?_
                    rintro e wn ⟨vn, rfl, hon, hbn⟩
                    obtain ⟨von, rfl, OA_⟩ := hon
                    obtain ⟨aA, cA, rfl⟩ := row_shape OA_
                    have OA := Lib.hid (own_base OA_ (B' := w1.heap.size) BC.out.size)
                    clear OA_
                    go_wp2_with fail
                    refine ⟨KeepX.below hbn, ?_⟩
                    have BC := Lib.hid (BC.out.trans (hbn.mono BC.out.size))
                    have Z7 := Lib.hid ((hbn.block b7 (Array.getElem?_eq_some_iff.1 Z7.out).1).trans Z7.out)
                    have Z8 := Lib.hid ((hbn.block b8 (Array.getElem?_eq_some_iff.1 Z8.out).1).trans Z8.out)
                    clear hbn
                    refine J_loud1 12 _ rfl (by kernel_rfl) ?_
                    simp only [List.getElem_toArray, List.getElem_cons_succ, List.getElem_cons_zero]
                    intro wj hj
                    have BC := Lib.hid (BC.out.trans (hj.mono BC.out.size))
                    have OA := Lib.hid (own_below OA.out hj)
                    have Z7 := Lib.hid ((hj.block b7 (Array.getElem?_eq_some_iff.1 Z7.out).1).trans Z7.out)
                    have Z8 := Lib.hid ((hj.block b8 (Array.getElem?_eq_some_iff.1 Z8.out).1).trans Z8.out)
                    clear hj
                    go_wp2_with fail
                    refine (HR1.out wj (hBO.out _ BC.out)).mono ?_
                    rintro e wn ⟨vn, rfl, hon, hbn⟩
                    obtain ⟨von, rfl, OB_⟩ := hon
                    obtain ⟨aB, cB, rfl⟩ := row_shape OB_
                    have OB := Lib.hid (own_base OB_ (B' := w1.heap.size) BC.out.size)
                    clear OB_
                    go_wp2_with fail
                    refine ⟨KeepX.below hbn, ?_⟩
                    have BC := Lib.hid (BC.out.trans (hbn.mono BC.out.size))
                    have OA := Lib.hid (own_below OA.out hbn)
                    have Z7 := Lib.hid ((hbn.block b7 (Array.getElem?_eq_some_iff.1 Z7.out).1).trans Z7.out)
                    have Z8 := Lib.hid ((hbn.block b8 (Array.getElem?_eq_some_iff.1 Z8.out).1).trans Z8.out)
                    clear hbn
                    refine J_loud1 15 _ rfl (by kernel_rfl) ?_
                    simp only [List.getElem_toArray, List.getElem_cons_succ, List.getElem_cons_zero]
                    intro wj hj
                    have BC := Lib.hid (BC.out.trans (hj.mono BC.out.size))
                    have OA := Lib.hid (own_below OA.out hj)
                    have OB := Lib.hid (own_below OB.out hj)
                    have Z7 := Lib.hid ((hj.block b7 (Array.getElem?_eq_some_iff.1 Z7.out).1).trans Z7.out)
                    have Z8 := Lib.hid ((hj.block b8 (Array.getElem?_eq_some_iff.1 Z8.out).1).trans Z8.out)
                    clear hj
                    have c0 := cell_of_heap Z7.out 0
                    have c1 := cell_of_heap Z7.out 1
                    have c2 := cell_of_heap Z7.out 2
                    have c3 := cell_of_heap Z7.out 3
                    have f0 := frozen_of_heap Z7.out 0
                    have f1 := frozen_of_heap Z7.out 1
                    have f2 := frozen_of_heap Z7.out 2
                    have f3 := frozen_of_heap Z7.out 3
                    simp only [List.getElem?_toArray, List.getElem?_cons_zero, List.getElem?_cons_succ] at c0 c1 c2 c3
                    have lb7 : b7 < wj.heap.size := (Array.getElem?_eq_some_iff.1 Z7.out).1
                    go_wp2_with fail
                    obtain ⟨wn, hwn⟩ : ∃ wn, wn = (((wj.setCell ⟨b7, 0, none⟩ (.slice aA oa.out.length cA)).setCell ⟨b7, 1, none⟩ (.int .i64 oa.ins)).setCell ⟨b7, 2, none⟩ (.int .u32 oa.exit)).setCell ⟨b7, 3, none⟩ (.int .i64 oa.e) := ⟨_, rfl⟩
                    rw [← hwn]
                    refine ⟨KeepX_put4 hwn (fun h => Nat.not_lt.2 hlo7 h), ?_⟩
                    have hbn : Below w1.heap.size w1 wn := by rw [hwn]; exact below_put4 BC.out hlo7 _ _ _ _
                    have BC := Lib.hid hbn
                    have OA : Hid (wn.ownsRow w1.heap.size 35 1 (.slice aA oa.out.length cA) oa.out.length (oa.out.map (Value.int .u32))) := by show World.ownsRow _ _ _ _ _ _ _; rw [hwn]; exact own_put4 OA.out _ (rows_ne OA.out (own_box (B := w1.heap.size) Z7.out hlo7 rfl) (by decide)) _ _ _ _
                    have OB : Hid (wn.ownsRow w1.heap.size 35 1 (.slice aB ob.out.length cB) ob.out.length (ob.out.map (Value.int .u32))) := by show World.ownsRow _ _ _ _ _ _ _; rw [hwn]; exact own_put4 OB.out _ (rows_ne OB.out (own_box (B := w1.heap.size) Z7.out hlo7 rfl) (by decide)) _ _ _ _
                    have Z8 : Hid (wn.heap[b8]? = some (.cells #[.slice none 0 0, .int .i64 0, .int .u32 0, .int .i64 0] 70 (0, 0))) := by show _ = _; rw [hwn]; exact (put4_other _ _ _ _ _ _ _ (Ne.symm n78)).trans Z8.out
                    have Z7 : Hid (wn.heap[b7]? = some (.cells #[.slice aA oa.out.length cA, .int .i64 oa.ins, .int .u32 oa.exit, .int .i64 oa.e] 70 (0, 0))) := by show _ = _; rw [hwn]; exact put4_heap Z7.out _ _ _ _
                    clear hwn hbn
                    clear c0 c1 c2 c3 f0 f1 f2 f3
                    refine J_last 16 _ rfl (by kernel_rfl) ?_
                    simp only [List.getElem_toArray, List.getElem_cons_succ, List.getElem_cons_zero]
                    intro wj hj
                    have BC := Lib.hid (BC.out.trans (hj.mono BC.out.size))
                    have OA := Lib.hid (own_below OA.out hj)
                    have OB := Lib.hid (own_below OB.out hj)
                    have Z7 := Lib.hid ((hj.block b7 (Array.getElem?_eq_some_iff.1 Z7.out).1).trans Z7.out)
                    have Z8 := Lib.hid ((hj.block b8 (Array.getElem?_eq_some_iff.1 Z8.out).1).trans Z8.out)
                    clear hj
                    have c0 := cell_of_heap Z8.out 0
                    have c1 := cell_of_heap Z8.out 1
                    have c2 := cell_of_heap Z8.out 2
                    have c3 := cell_of_heap Z8.out 3
                    have f0 := frozen_of_heap Z8.out 0
                    have f1 := frozen_of_heap Z8.out 1
                    have f2 := frozen_of_heap Z8.out 2
                    have f3 := frozen_of_heap Z8.out 3
                    simp only [List.getElem?_toArray, List.getElem?_cons_zero, List.getElem?_cons_succ] at c0 c1 c2 c3
                    have lb8 : b8 < wj.heap.size := (Array.getElem?_eq_some_iff.1 Z8.out).1
                    go_wp2_with fail
                    obtain ⟨wn, hwn⟩ : ∃ wn, wn = (((wj.setCell ⟨b8, 0, none⟩ (.slice aB ob.out.length cB)).setCell ⟨b8, 1, none⟩ (.int .i64 ob.ins)).setCell ⟨b8, 2, none⟩ (.int .u32 ob.exit)).setCell ⟨b8, 3, none⟩ (.int .i64 ob.e) := ⟨_, rfl⟩
                    rw [← hwn]
                    have hbn : Below w1.heap.size w1 wn := by rw [hwn]; exact below_put4 BC.out hlo8 _ _ _ _
                    have BC := Lib.hid hbn
                    have OA : Hid (wn.ownsRow w1.heap.size 35 1 (.slice aA oa.out.length cA) oa.out.length (oa.out.map (Value.int .u32))) := by show World.ownsRow _ _ _ _ _ _ _; rw [hwn]; exact own_put4 OA.out _ (rows_ne OA.out (own_box (B := w1.heap.size) Z8.out hlo8 rfl) (by decide)) _ _ _ _
                    have OB : Hid (wn.ownsRow w1.heap.size 35 1 (.slice aB ob.out.length cB) ob.out.length (ob.out.map (Value.int .u32))) := by show World.ownsRow _ _ _ _ _ _ _; rw [hwn]; exact own_put4 OB.out _ (rows_ne OB.out (own_box (B := w1.heap.size) Z8.out hlo8 rfl) (by decide)) _ _ _ _
                    have Z7 : Hid (wn.heap[b7]? = some (.cells #[.slice aA oa.out.length cA, .int .i64 oa.ins, .int .u32 oa.exit, .int .i64 oa.e] 70 (0, 0))) := by show _ = _; rw [hwn]; exact (put4_other _ _ _ _ _ _ _ n78).trans Z7.out
                    have Z8 : Hid (wn.heap[b8]? = some (.cells #[.slice aB ob.out.length cB, .int .i64 ob.ins, .int .u32 ob.exit, .int .i64 ob.e] 70 (0, 0))) := by show _ = _; rw [hwn]; exact put4_heap Z8.out _ _ _ _
                    clear hwn hbn
                    clear c0 c1 c2 c3 f0 f1 f2 f3
                    refine J_done (by kernel_rfl) (fun wk hk => ?_) _
                    have BC := Lib.hid (BC.out.trans (hk.mono BC.out.size))
                    have OA := Lib.hid (own_below OA.out hk)
                    have OB := Lib.hid (own_below OB.out hk)
                    have Z7 := Lib.hid ((hk.block b7 (Array.getElem?_eq_some_iff.1 Z7.out).1).trans Z7.out)
                    have Z8 := Lib.hid ((hk.block b8 (Array.getElem?_eq_some_iff.1 Z8.out).1).trans Z8.out)
                    clear hk
                    go_wp2_with fail
                    go_meet
                    case rel => exact ⟨b7, b8, aA, cA, aB, cB, rfl, rfl, BC, OA, OB, Z7, Z8⟩
              case rest =>
                obtain ⟨b7, b8, aA, cA, aB, cB, rfl, rfl, BC, OA, OB, Z7, Z8⟩ := hcut
                have HLA : Hid (oa.e = 16 → Later oa ob ∧ oa.exit = 0) := fun h => by
                  rcases HPM.out with e | ⟨-, e2, e3⟩
                  · refine ⟨e ▸ Later.refl _, ?_⟩
                    rcases HPE.out with h2 | h2
                    · exact absurd h h2
                    · exact h2
                  · exact ⟨e3, e2⟩
                have HEQ : Hid (oa.e ≠ 16 → ob = oa) := fun h => by
                  rcases HPM.out with e | ⟨e1, -⟩
                  · exact e
                  · exact absurd e1 h
                clear HPM HPE
                have hl7 : b7 < wc.heap.size := (Array.getElem?_eq_some_iff.1 Z7.out).1
                have hl8 : b8 < wc.heap.size := (Array.getElem?_eq_some_iff.1 Z8.out).1
                by_cases h16 : oa.e = 16
                · obtain ⟨hla, hex⟩ := HLA.out h16
                  have HB := Lib.hid (fun w' (he : Ext wc w') => begins_yes oa.out ob.out _ _ w' (RdW.ext (own_rows 0 OA.out) he) (RdW.ext (own_rows 0 OB.out) he) hla.out)
                  have hins := hla.ins
                  rw [h16, hex] at Z7
                  clear HLA HEQ hla h16 hex OA OB
                  generalize oa.out.length = la at *
                  generalize ob.out.length = lb at *
                  generalize oa.ins = ia at *
                  generalize ob.ins = ib at *
                  generalize ob.exit = xb at *
                  generalize ob.e = eb at *
                  have c0 := cell_of_heap Z7.out 0
                  have c1 := cell_of_heap Z7.out 1
                  have c2 := cell_of_heap Z7.out 2
                  have c3 := cell_of_heap Z7.out 3
                  have d0 := cell_of_heap Z8.out 0
                  have d1 := cell_of_heap Z8.out 1
                  have d2 := cell_of_heap Z8.out 2
                  have d3 := cell_of_heap Z8.out 3
                  simp only [List.getElem?_toArray, List.getElem?_cons_zero, List.getElem?_cons_succ] at c0 c1 c2 c3 d0 d1 d2 d3
                  go_wp2_with fail
                  refine (HA.out _).mono ?_
                  rintro e w5 ⟨rfl, hb5⟩
                  have B5 := Lib.hid hb5
                  clear c0 c1 c2 c3 d0 d1 d2 d3
                  have Z7 := Lib.hid ((hb5.block b7 hl7).trans Z7.out)
                  have Z8 := Lib.hid ((hb5.block b8 hl8).trans Z8.out)
                  have hl7 : b7 < w5.heap.size := Nat.lt_of_lt_of_le hl7 hb5.size
                  have hl8 : b8 < w5.heap.size := Nat.lt_of_lt_of_le hl8 hb5.size
                  clear hb5
                  have c0 := cell_of_heap Z7.out 0
                  have c1 := cell_of_heap Z7.out 1
                  have c2 := cell_of_heap Z7.out 2
                  have c3 := cell_of_heap Z7.out 3
                  have d0 := cell_of_heap Z8.out 0
                  have d1 := cell_of_heap Z8.out 1
                  have d2 := cell_of_heap Z8.out 2
                  have d3 := cell_of_heap Z8.out 3
                  simp only [List.getElem?_toArray, List.getElem?_cons_zero, List.getElem?_cons_succ] at c0 c1 c2 c3 d0 d1 d2 d3
                  go_wp2_with fail
                  refine (HB.out _ (Ext.below B5.out)).mono ?_
                  rintro e w6 ⟨rfl, hb6⟩
                  have B6 := Lib.hid (B5.out.trans (hb6.mono B5.out.size))
                  clear c0 c1 c2 c3 d0 d1 d2 d3
                  have Z7 := Lib.hid ((hb6.block b7 hl7).trans Z7.out)
                  have Z8 := Lib.hid ((hb6.block b8 hl8).trans Z8.out)
                  have hl7 : b7 < w6.heap.size := Nat.lt_of_lt_of_le hl7 hb6.size
                  have hl8 : b8 < w6.heap.size := Nat.lt_of_lt_of_le hl8 hb6.size
                  clear hb6
                  have gi : decide (ia ≤ ib) = true := decide_eq_true hins
                  have c0 := cell_of_heap Z7.out 0
                  have c1 := cell_of_heap Z7.out 1
                  have c2 := cell_of_heap Z7.out 2
                  have c3 := cell_of_heap Z7.out 3
                  have d0 := cell_of_heap Z8.out 0
                  have d1 := cell_of_heap Z8.out 1
                  have d2 := cell_of_heap Z8.out 2
                  have d3 := cell_of_heap Z8.out 3
                  simp only [List.getElem?_toArray, List.getElem?_cons_zero, List.getElem?_cons_succ] at c0 c1 c2 c3 d0 d1 d2 d3
                  go_wp2_with fail
                  go_ret
                  exact ⟨rfl, hBO.out _ (BC.out.trans (B6.out.mono BC.out.size))⟩
                · have heq := HEQ.out h16
                  subst heq
                  have g16 : (ob.e != 16) = true := bne_iff_ne.2 h16
                  have HB := Lib.hid (fun w' (he : Ext wc w') => same_yes ob aA aB cA cB w' (RdW.ext (own_rows 0 OA.out) he) (RdW.ext (own_rows 0 OB.out) he))
                  clear HLA HEQ h16 OA OB
                  generalize ob.out.length = la at *
                  generalize ob.ins = ia at *
                  generalize ob.exit = xb at *
                  generalize ob.e = eb at *
                  have c0 := cell_of_heap Z7.out 0
                  have c1 := cell_of_heap Z7.out 1
                  have c2 := cell_of_heap Z7.out 2
                  have c3 := cell_of_heap Z7.out 3
                  have d0 := cell_of_heap Z8.out 0
                  have d1 := cell_of_heap Z8.out 1
                  have d2 := cell_of_heap Z8.out 2
                  have d3 := cell_of_heap Z8.out 3
                  simp only [List.getElem?_toArray, List.getElem?_cons_zero, List.getElem?_cons_succ] at c0 c1 c2 c3 d0 d1 d2 d3
                  go_wp2_with fail
                  refine (HA.out _).mono ?_
                  rintro e w5 ⟨rfl, hb5⟩
                  have B5 := Lib.hid hb5
                  clear c0 c1 c2 c3 d0 d1 d2 d3
                  have Z7 := Lib.hid ((hb5.block b7 hl7).trans Z7.out)
                  have Z8 := Lib.hid ((hb5.block b8 hl8).trans Z8.out)
                  have hl7 : b7 < w5.heap.size := Nat.lt_of_lt_of_le hl7 hb5.size
                  have hl8 : b8 < w5.heap.size := Nat.lt_of_lt_of_le hl8 hb5.size
                  clear hb5
                  have c0 := cell_of_heap Z7.out 0
                  have c1 := cell_of_heap Z7.out 1
                  have c2 := cell_of_heap Z7.out 2
                  have c3 := cell_of_heap Z7.out 3
                  have d0 := cell_of_heap Z8.out 0
                  have d1 := cell_of_heap Z8.out 1
                  have d2 := cell_of_heap Z8.out 2
                  have d3 := cell_of_heap Z8.out 3
                  simp only [List.getElem?_toArray, List.getElem?_cons_zero, List.getElem?_cons_succ] at c0 c1 c2 c3 d0 d1 d2 d3
                  go_wp2_with fail
                  refine (HB.out _ (Ext.below B5.out)).mono ?_
                  rintro e w6 ⟨rfl, hb6⟩
                  have B6 := Lib.hid (B5.out.trans (hb6.mono B5.out.size))
                  clear hb6
                  go_wp2_with fail
                  go_ret
                  exact ⟨rfl, hBO.out _ (BC.out.trans (B6.out.mono BC.out.size))⟩
theorem IrrunFuel_x (m : Md) (v : Value) (inp : List Int) (vi : Value) (q : Int × Int) (v2 : Value) (w : World) (hn : MdOk m) (hv : MdV w v m) (hiw : ∀ x ∈ inp, 0 ≤ x ∧ x < 4294967296) (hi : RdW w vi inp) (_ : I64 q.1 ∧ I64 q.2) (e : v2 = .agg #[.int .i64 q.1, .int .i64 q.2]) :
    Calls Try.prog 11 #[v, vi, v2] w fun e w' => e = .returned (.bool true) ∧ Below w.heap.size w w' := by
  subst e
  exact IrrunFuel_w m inp v vi q.1 q.2 w hv hn hi hiw
end Go.Proofs.Ytedihiodmgnlpaa
