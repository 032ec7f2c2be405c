/-
  The document's slots, registers and ends of blocks.
-/
import Derived.Test.YtnnhobbabcfogaaDoorC9
import Derived.Test.YtnnhobbabcfogaaDoorC1
import Derived.Test.YtnnhobbabcfogaaDoorE2
import Derived.Test.YtnnhobbabcfogaaDoorN2
import Derived.Test.YtnnhobbabcfogaaDoorN1
import Derived.Deep.Cut
import Derived.IntWalk
set_option linter.all false
namespace Go.Proofs.YtnnhobbabcfogaaDoor
open Go.ChangeShapes Go.WideShapes Go.ChangeAt Go.RowKit
set_option maxHeartbeats 4000000
set_option linter.unusedVariables false
set_option maxRecDepth 20000

theorem below2 {w : World} {a b : Obj} : Below w.heap.size w ((w.alloc a).alloc b) := (below_alloc w _).trans ((below_alloc _ _).mono (by simp))
theorem below2c {w w1 : World} {a b : Obj} (h : Below ((w.alloc a).alloc b).heap.size ((w.alloc a).alloc b) w1) : Below w.heap.size w w1 := below2.trans (h.mono (by simp; omega))
theorem below3c {w w1 : World} {a b c : Obj} (h : Below (((w.alloc a).alloc b).alloc c).heap.size (((w.alloc a).alloc b).alloc c) w1) : Below w.heap.size w w1 := (below2.trans ((below_alloc _ _).mono (by simp; omega))).trans (h.mono (by simp; omega))
theorem rslots_c (l : List Sl) (v : Value) (most : Int) (w : World) (h : RdSls w v l) :
    Calls Tryd.prog 38 #[v, .int .i64 most] w fun e w' => e = .returned (.bool (l.all slotF && decide ((l.length : Int) ≤ most))) ∧ w = w' := by
  obtain ⟨a, c, rfl, h1, h2, -⟩ := id h
  have HS := Lib.hid (RdSls.at h).2
  unfold maxLen at h2
  obtain ⟨V, hV⟩ : ∃ V, (l.all slotF && decide ((l.length : Int) ≤ most)) = V := ⟨_, rfl⟩
  rw [hV]
  have HV := Lib.hid hV
  clear hV h
  go_enter Tryd.func38, Tryd.ntmps38
  go_wp2_with fail
  go_loop [5] (fun i => ∃ k : Nat, k ≤ l.length ∧ i = .int .i64 (k : Int) ∧ Hid ((l.take k).all slotF = true)) (fun i => l.length - (intOf i).toNat)
  case atStart => exact ⟨0, Nat.zero_le _, rfl, show _ = _ by simp⟩
  case round =>
    obtain ⟨k, hk, rfl, HA⟩ := hrel
    by_cases hlk : k < l.length
    · obtain ⟨b, o, nm, rfl, y0, y1, y2, y3⟩ := HS.out k hlk
      have lb0 : b < w.heap.size := World.block_lt_of_cell? w _ y1
      have HNO : Hid (slotF (l.getD k default) = false → V = false) := fun hh => by
        rw [← HV.out, allG_no slotF l k hlk hh]; rfl
      have HYE : Hid (slotF (l.getD k default) = true → (l.take (k + 1)).all slotF = true) := fun hh => allG_take slotF l k hlk HA.out hh
      unfold slotF at HNO HYE
      clear y0 y3
      generalize (l.getD k default).size = sz at *
      generalize (l.getD k default).align = al at *
      by_cases k1 : sz < 1
      · have gk1 : decide (sz < 1) = true := decide_eq_true k1
        have HV2 := Lib.hid (HNO.out (by rw [decide_eq_false (by omega : ¬ 1 ≤ sz)]; rfl))
        clear HNO HYE k1
        go_wp2_with fail
        go_ret
        exact ⟨ret_b HV2.out.symm, rfl⟩
      · have gk1 : decide (sz < 1) = false := decide_eq_false k1
        by_cases k2 : 32768 < sz
        · have gk2 : decide (32768 < sz) = true := decide_eq_true k2
          have HV2 := Lib.hid (HNO.out (by rw [decide_eq_false (by omega : ¬ sz ≤ 32768)]; simp))
          clear HNO HYE k2
          go_wp2_with fail
          go_ret
          exact ⟨ret_b HV2.out.symm, rfl⟩
        · have gk2 : decide (32768 < sz) = false := decide_eq_false k2
          by_cases k3 : al = 1
          · have gk3 : (al == 1) = true := beq_iff_eq.2 k3
            have gn3 : (al != 1) = false := bne_eq_false_iff_eq.2 k3
            have kh3 := Lib.hid k3
            clear k3
            have HY2 := Lib.hid (HYE.out (by rw [decide_eq_true (by omega : 1 ≤ sz), decide_eq_true (by omega : sz ≤ 32768), ‹(al == 1) = true›]; rfl))
            clear HNO HYE
            go_wp2_with fail
            go_round
            case rel => exact ⟨k + 1, by omega, by go_num, HY2⟩
            case measure => first | (simp [intOf]; done) | (simp [intOf]; omega)
          · have gk3 : (al == 1) = false := beq_eq_false_iff_ne.2 k3
            have gn3 : (al != 1) = true := bne_iff_ne.2 k3
            have kh3 := Lib.hid k3
            clear k3
            by_cases k4 : al = 4
            · have gk4 : (al == 4) = true := beq_iff_eq.2 k4
              have gn4 : (al != 4) = false := bne_eq_false_iff_eq.2 k4
              have kh4 := Lib.hid k4
              clear k4
              have HY2 := Lib.hid (HYE.out (by rw [decide_eq_true (by omega : 1 ≤ sz), decide_eq_true (by omega : sz ≤ 32768), ‹(al == 4) = true›]; simp))
              clear HNO HYE
              go_wp2_with fail
              go_round
              case rel => exact ⟨k + 1, by omega, by go_num, HY2⟩
              case measure => first | (simp [intOf]; done) | (simp [intOf]; omega)
            · have gk4 : (al == 4) = false := beq_eq_false_iff_ne.2 k4
              have gn4 : (al != 4) = true := bne_iff_ne.2 k4
              have kh4 := Lib.hid k4
              clear k4
              have HV2 := Lib.hid (HNO.out (by rw [‹(al == 1) = false›, ‹(al == 4) = false›]; simp))
              clear HNO HYE kh4
              go_wp2_with fail
              go_ret
              exact ⟨ret_b HV2.out.symm, rfl⟩
    · obtain rfl : k = l.length := by omega
      have HF : Hid (decide ((l.length : Int) ≤ most) = V) := by
        show _ = _
        have := HA.out
        rw [List.take_length] at this
        rw [← HV.out, this]; rfl
      go_wp2_with fail
      go_ret
      exact ⟨ret_b HF.out, rfl⟩
theorem rregister_c (p : Pr) (v : Value) (r : Int) (s : Bool) (w : World) (h : PrV w v p) (h0 : 0 ≤ p.regs) (h1 : p.regs ≤ 100000) :
    Calls Tryd.prog 63 #[v, .int .i64 r, .bool s] w fun e w' => e = .returned (.bool (regF p r s)) ∧ Below w.heap.size w w' := by
  obtain ⟨nm, vo, vb, rfl, ⟨ao, co, rfl, -⟩, ⟨ab, cb, rfl, -⟩⟩ := h
  cases s
  · have HF : Hid (regF p r false = (r == -1)) := rfl
    go_enter Tryd.func63, Tryd.ntmps63
    go_wp2_with fail
    go_ret
    exact ⟨ret_b HF.out.symm, below_alloc w _⟩
  · have HF : Hid (regF p r true = (decide (0 ≤ r) && decide (r < p.regs))) := rfl
    generalize hR : p.regs = R at *
    have hR := Lib.hid hR
    by_cases k1 : 0 ≤ r
    · have g1 := decide_eq_true k1
      have HF2 : Hid (regF p r true = decide (r ≤ R - 1)) := by
        show _ = _
        rw [HF.out, g1, Bool.true_and]
        by_cases q : r < R
        · rw [decide_eq_true q, decide_eq_true (by omega)]
        · rw [decide_eq_false q, decide_eq_false (by omega)]
      clear HF
      go_enter Tryd.func63, Tryd.ntmps63
      go_wp2_with fail
      go_ret
      exact ⟨ret_b HF2.out.symm, below_alloc w _⟩
    · have g1 := decide_eq_false k1
      have HF2 : Hid (regF p r true = false) := by show _ = _; rw [HF.out, g1]; rfl
      clear HF
      go_enter Tryd.func63, Tryd.ntmps63
      go_wp2_with fail
      go_ret
      exact ⟨ret_b HF2.out.symm, below_alloc w _⟩
theorem rend_c (p : Pr) (v V : Value) (b : Bk) (w : World) (h : PrV w v p) (hb : BkV w V b) (h0 : 0 ≤ p.regs) (h1 : p.regs ≤ 100000) :
    Calls Tryd.prog 40 #[v, V] w fun e w' => e = .returned (.bool (endF p b)) ∧ Below w.heap.size w w' := by
  have ER : Hid (∀ r s w', Ext w w' → Calls Tryd.prog 63 #[v, .int .i64 r, .bool s] w' fun e w'' => e = .returned (.bool (regF p r s)) ∧ Below w'.heap.size w' w'') := fun r s w' he => rregister_c p v r s w' (h.ext he) h0 h1
  obtain ⟨nm, vo, vb, rfl, ⟨ao, co, rfl, -⟩, ⟨ab, cb, rfl, hl1, hl2, -⟩⟩ := h
  obtain ⟨vi, rfl, ⟨ai, ci, rfl, -⟩⟩ := hb
  unfold maxLen at hl2
  obtain ⟨V, hV⟩ : ∃ V, endF p b = V := ⟨_, rfl⟩
  rw [hV]
  have HF : Hid (V = if b.fin = 1 then blockF p b.to && (b.a == -1 && b.els == 0) else if b.fin = 2 then blockF p b.to && (blockF p b.els && regF p b.a true) else if b.fin = 3 then regF p b.a (!p.void) && (b.to == 0 && b.els == 0) else false) := hV.symm
  have HB : Hid (∀ x, blockF p x = (decide (0 ≤ x) && decide (x < (p.blks.length : Int)))) := fun x => rfl
  clear hV
  generalize b.fin = fin at *
  generalize b.a = ra at *
  generalize b.to = tg at *
  generalize b.els = els at *
  generalize p.blks.length = N at *
  generalize p.void = void at *
  by_cases k5 : 0 ≤ tg
  · have gk5 : decide (0 ≤ tg) = true := decide_eq_true k5
    have gl5 : decide (tg < 0) = false := decide_eq_false (by omega)
    by_cases k6 : tg < (N : Int)
    · have gk6 : decide (tg < (N : Int)) = true := decide_eq_true k6
      by_cases k7 : fin = 1
      · have gk7 : (fin == 1) = true := beq_iff_eq.2 k7
        have gn7 : (fin != 1) = false := bne_eq_false_iff_eq.2 k7
        have kh7 := Lib.hid k7
        clear k7
        by_cases k8 : ra = -1
        · have gk8 : (ra == -1) = true := beq_iff_eq.2 k8
          have gn8 : (ra != -1) = false := bne_eq_false_iff_eq.2 k8
          have kh8 := Lib.hid k8
          clear k8
          have HV2 : Hid (V = (els == 0)) := by
            show _ = _
            rw [HF.out]
            rw [if_pos (‹Hid (fin = 1)›).out]; rw [HB.out, ‹decide (0 ≤ tg) = true›, ‹decide (tg < (N : Int)) = true›, ‹(ra == -1) = true›]; simp
          clear HF HB
          go_enter Tryd.func40, Tryd.ntmps40
          go_wp2_with fail
          go_ret
          exact ⟨ret_b HV2.out.symm, below2⟩
        · have gk8 : (ra == -1) = false := beq_eq_false_iff_ne.2 k8
          have gn8 : (ra != -1) = true := bne_iff_ne.2 k8
          have kh8 := Lib.hid k8
          clear k8
          have HV2 : Hid (V = false) := by
            show _ = _
            rw [HF.out]
            rw [if_pos (‹Hid (fin = 1)›).out]; rw [‹(ra == -1) = false›]; simp
          clear HF HB
          go_enter Tryd.func40, Tryd.ntmps40
          go_wp2_with fail
          go_ret
          exact ⟨ret_b HV2.out.symm, below2⟩
      · have gk7 : (fin == 1) = false := beq_eq_false_iff_ne.2 k7
        have gn7 : (fin != 1) = true := bne_iff_ne.2 k7
        have kh7 := Lib.hid k7
        clear k7
        by_cases k9 : fin = 2
        · have gk9 : (fin == 2) = true := beq_iff_eq.2 k9
          have gn9 : (fin != 2) = false := bne_eq_false_iff_eq.2 k9
          have kh9 := Lib.hid k9
          clear k9
          by_cases k10 : 0 ≤ els
          · have gk10 : decide (0 ≤ els) = true := decide_eq_true k10
            have gl10 : decide (els < 0) = false := decide_eq_false (by omega)
            by_cases k11 : els < (N : Int)
            · have gk11 : decide (els < (N : Int)) = true := decide_eq_true k11
              have HV2 : Hid (V = regF p ra true) := by
                show _ = _
                rw [HF.out]
                rw [if_neg (‹Hid (¬ fin = 1)›).out, if_pos (‹Hid (fin = 2)›).out]; rw [HB.out, HB.out, ‹decide (0 ≤ tg) = true›, ‹decide (tg < (N : Int)) = true›, ‹decide (0 ≤ els) = true›, ‹decide (els < (N : Int)) = true›]; simp
              clear HF HB
              go_enter Tryd.func40, Tryd.ntmps40
              go_wp2_with fail
              refine (ER.out _ true _ (Ext.below below2)).mono ?_
              rintro e w1 ⟨rfl, hb1⟩
              have HB1 := Lib.hid (below2c hb1)
              clear hb1
              go_wp2_with fail
              go_ret
              exact ⟨ret_b HV2.out.symm, HB1.out⟩
            · have gk11 : decide (els < (N : Int)) = false := decide_eq_false k11
              have HV2 : Hid (V = false) := by
                show _ = _
                rw [HF.out]
                rw [if_neg (‹Hid (¬ fin = 1)›).out, if_pos (‹Hid (fin = 2)›).out]; rw [HB.out els, ‹decide (els < (N : Int)) = false›]; simp
              clear HF HB
              go_enter Tryd.func40, Tryd.ntmps40
              go_wp2_with fail
              go_ret
              exact ⟨ret_b HV2.out.symm, below2⟩
          · have gk10 : decide (0 ≤ els) = false := decide_eq_false k10
            have gl10 : decide (els < 0) = true := decide_eq_true (by omega)
            have HV2 : Hid (V = false) := by
              show _ = _
              rw [HF.out]
              rw [if_neg (‹Hid (¬ fin = 1)›).out, if_pos (‹Hid (fin = 2)›).out]; rw [HB.out els, ‹decide (0 ≤ els) = false›]; simp
            clear HF HB
            go_enter Tryd.func40, Tryd.ntmps40
            go_wp2_with fail
            go_ret
            exact ⟨ret_b HV2.out.symm, below2⟩
        · have gk9 : (fin == 2) = false := beq_eq_false_iff_ne.2 k9
          have gn9 : (fin != 2) = true := bne_iff_ne.2 k9
          have kh9 := Lib.hid k9
          clear k9
          by_cases k12 : fin = 3
          · have gk12 : (fin == 3) = true := beq_iff_eq.2 k12
            have gn12 : (fin != 3) = false := bne_eq_false_iff_eq.2 k12
            have kh12 := Lib.hid k12
            clear k12
            by_cases k13 : tg = 0
            · have gk13 : (tg == 0) = true := beq_iff_eq.2 k13
              have gn13 : (tg != 0) = false := bne_eq_false_iff_eq.2 k13
              have kh13 := Lib.hid k13
              clear k13
              by_cases k14 : els = 0
              · have gk14 : (els == 0) = true := beq_iff_eq.2 k14
                have gn14 : (els != 0) = false := bne_eq_false_iff_eq.2 k14
                have kh14 := Lib.hid k14
                clear k14
                have HV2 : Hid (V = regF p ra (!void)) := by
                  show _ = _
                  rw [HF.out]
                  rw [if_neg (‹Hid (¬ fin = 1)›).out, if_neg (‹Hid (¬ fin = 2)›).out, if_pos (‹Hid (fin = 3)›).out]; rw [‹(tg == 0) = true›, ‹(els == 0) = true›]; simp
                clear HF HB
                go_enter Tryd.func40, Tryd.ntmps40
                go_wp2_with fail
                refine (ER.out _ _ _ (Ext.below below2)).mono ?_
                rintro e w1 ⟨rfl, hb1⟩
                have HB1 := Lib.hid (below2c hb1)
                clear hb1
                go_wp2_with fail
                go_ret
                exact ⟨ret_b HV2.out.symm, HB1.out⟩
              · have gk14 : (els == 0) = false := beq_eq_false_iff_ne.2 k14
                have gn14 : (els != 0) = true := bne_iff_ne.2 k14
                have kh14 := Lib.hid k14
                clear k14
                have HV2 : Hid (V = false) := by
                  show _ = _
                  rw [HF.out]
                  rw [if_neg (‹Hid (¬ fin = 1)›).out, if_neg (‹Hid (¬ fin = 2)›).out, if_pos (‹Hid (fin = 3)›).out]; rw [‹(els == 0) = false›]; simp
                clear HF HB
                go_enter Tryd.func40, Tryd.ntmps40
                go_wp2_with fail
                go_ret
                exact ⟨ret_b HV2.out.symm, below2⟩
            · have gk13 : (tg == 0) = false := beq_eq_false_iff_ne.2 k13
              have gn13 : (tg != 0) = true := bne_iff_ne.2 k13
              have kh13 := Lib.hid k13
              clear k13
              have HV2 : Hid (V = false) := by
                show _ = _
                rw [HF.out]
                rw [if_neg (‹Hid (¬ fin = 1)›).out, if_neg (‹Hid (¬ fin = 2)›).out, if_pos (‹Hid (fin = 3)›).out]; rw [‹(tg == 0) = false›]; simp
              clear HF HB
              go_enter Tryd.func40, Tryd.ntmps40
              go_wp2_with fail
              go_ret
              exact ⟨ret_b HV2.out.symm, below2⟩
          · have gk12 : (fin == 3) = false := beq_eq_false_iff_ne.2 k12
            have gn12 : (fin != 3) = true := bne_iff_ne.2 k12
            have kh12 := Lib.hid k12
            clear k12
            have HV2 : Hid (V = false) := by
              show _ = _
              rw [HF.out]
              rw [if_neg (‹Hid (¬ fin = 1)›).out, if_neg (‹Hid (¬ fin = 2)›).out, if_neg (‹Hid (¬ fin = 3)›).out]
            clear HF HB
            go_enter Tryd.func40, Tryd.ntmps40
            go_wp2_with fail
            go_ret
            exact ⟨ret_b HV2.out.symm, below2⟩
    · have gk6 : decide (tg < (N : Int)) = false := decide_eq_false k6
      by_cases k15 : fin = 1
      · have gk15 : (fin == 1) = true := beq_iff_eq.2 k15
        have gn15 : (fin != 1) = false := bne_eq_false_iff_eq.2 k15
        have kh15 := Lib.hid k15
        clear k15
        have HV2 : Hid (V = false) := by
          show _ = _
          rw [HF.out]
          rw [if_pos (‹Hid (fin = 1)›).out]; rw [HB.out, ‹decide (tg < (N : Int)) = false›]; simp
        clear HF HB
        go_enter Tryd.func40, Tryd.ntmps40
        go_wp2_with fail
        go_ret
        exact ⟨ret_b HV2.out.symm, below2⟩
      · have gk15 : (fin == 1) = false := beq_eq_false_iff_ne.2 k15
        have gn15 : (fin != 1) = true := bne_iff_ne.2 k15
        have kh15 := Lib.hid k15
        clear k15
        by_cases k16 : fin = 2
        · have gk16 : (fin == 2) = true := beq_iff_eq.2 k16
          have gn16 : (fin != 2) = false := bne_eq_false_iff_eq.2 k16
          have kh16 := Lib.hid k16
          clear k16
          have HV2 : Hid (V = false) := by
            show _ = _
            rw [HF.out]
            rw [if_neg (‹Hid (¬ fin = 1)›).out, if_pos (‹Hid (fin = 2)›).out]; rw [HB.out, ‹decide (tg < (N : Int)) = false›]; simp
          clear HF HB
          go_enter Tryd.func40, Tryd.ntmps40
          go_wp2_with fail
          go_ret
          exact ⟨ret_b HV2.out.symm, below2⟩
        · have gk16 : (fin == 2) = false := beq_eq_false_iff_ne.2 k16
          have gn16 : (fin != 2) = true := bne_iff_ne.2 k16
          have kh16 := Lib.hid k16
          clear k16
          by_cases k17 : fin = 3
          · have gk17 : (fin == 3) = true := beq_iff_eq.2 k17
            have gn17 : (fin != 3) = false := bne_eq_false_iff_eq.2 k17
            have kh17 := Lib.hid k17
            clear k17
            by_cases k18 : tg = 0
            · have gk18 : (tg == 0) = true := beq_iff_eq.2 k18
              have gn18 : (tg != 0) = false := bne_eq_false_iff_eq.2 k18
              have kh18 := Lib.hid k18
              clear k18
              by_cases k19 : els = 0
              · have gk19 : (els == 0) = true := beq_iff_eq.2 k19
                have gn19 : (els != 0) = false := bne_eq_false_iff_eq.2 k19
                have kh19 := Lib.hid k19
                clear k19
                have HV2 : Hid (V = regF p ra (!void)) := by
                  show _ = _
                  rw [HF.out]
                  rw [if_neg (‹Hid (¬ fin = 1)›).out, if_neg (‹Hid (¬ fin = 2)›).out, if_pos (‹Hid (fin = 3)›).out]; rw [‹(tg == 0) = true›, ‹(els == 0) = true›]; simp
                clear HF HB
                go_enter Tryd.func40, Tryd.ntmps40
                go_wp2_with fail
                refine (ER.out _ _ _ (Ext.below below2)).mono ?_
                rintro e w1 ⟨rfl, hb1⟩
                have HB1 := Lib.hid (below2c hb1)
                clear hb1
                go_wp2_with fail
                go_ret
                exact ⟨ret_b HV2.out.symm, HB1.out⟩
              · have gk19 : (els == 0) = false := beq_eq_false_iff_ne.2 k19
                have gn19 : (els != 0) = true := bne_iff_ne.2 k19
                have kh19 := Lib.hid k19
                clear k19
                have HV2 : Hid (V = false) := by
                  show _ = _
                  rw [HF.out]
                  rw [if_neg (‹Hid (¬ fin = 1)›).out, if_neg (‹Hid (¬ fin = 2)›).out, if_pos (‹Hid (fin = 3)›).out]; rw [‹(els == 0) = false›]; simp
                clear HF HB
                go_enter Tryd.func40, Tryd.ntmps40
                go_wp2_with fail
                go_ret
                exact ⟨ret_b HV2.out.symm, below2⟩
            · have gk18 : (tg == 0) = false := beq_eq_false_iff_ne.2 k18
              have gn18 : (tg != 0) = true := bne_iff_ne.2 k18
              have kh18 := Lib.hid k18
              clear k18
              have HV2 : Hid (V = false) := by
                show _ = _
                rw [HF.out]
                rw [if_neg (‹Hid (¬ fin = 1)›).out, if_neg (‹Hid (¬ fin = 2)›).out, if_pos (‹Hid (fin = 3)›).out]; rw [‹(tg == 0) = false›]; simp
              clear HF HB
              go_enter Tryd.func40, Tryd.ntmps40
              go_wp2_with fail
              go_ret
              exact ⟨ret_b HV2.out.symm, below2⟩
          · have gk17 : (fin == 3) = false := beq_eq_false_iff_ne.2 k17
            have gn17 : (fin != 3) = true := bne_iff_ne.2 k17
            have kh17 := Lib.hid k17
            clear k17
            have HV2 : Hid (V = false) := by
              show _ = _
              rw [HF.out]
              rw [if_neg (‹Hid (¬ fin = 1)›).out, if_neg (‹Hid (¬ fin = 2)›).out, if_neg (‹Hid (¬ fin = 3)›).out]
            clear HF HB
            go_enter Tryd.func40, Tryd.ntmps40
            go_wp2_with fail
            go_ret
            exact ⟨ret_b HV2.out.symm, below2⟩
  · have gk5 : decide (0 ≤ tg) = false := decide_eq_false k5
    have gl5 : decide (tg < 0) = true := decide_eq_true (by omega)
    by_cases k20 : fin = 1
    · have gk20 : (fin == 1) = true := beq_iff_eq.2 k20
      have gn20 : (fin != 1) = false := bne_eq_false_iff_eq.2 k20
      have kh20 := Lib.hid k20
      clear k20
      have HV2 : Hid (V = false) := by
        show _ = _
        rw [HF.out]
        rw [if_pos (‹Hid (fin = 1)›).out]; rw [HB.out, ‹decide (0 ≤ tg) = false›]; rfl
      clear HF HB
      go_enter Tryd.func40, Tryd.ntmps40
      go_wp2_with fail
      go_ret
      exact ⟨ret_b HV2.out.symm, below2⟩
    · have gk20 : (fin == 1) = false := beq_eq_false_iff_ne.2 k20
      have gn20 : (fin != 1) = true := bne_iff_ne.2 k20
      have kh20 := Lib.hid k20
      clear k20
      by_cases k21 : fin = 2
      · have gk21 : (fin == 2) = true := beq_iff_eq.2 k21
        have gn21 : (fin != 2) = false := bne_eq_false_iff_eq.2 k21
        have kh21 := Lib.hid k21
        clear k21
        have HV2 : Hid (V = false) := by
          show _ = _
          rw [HF.out]
          rw [if_neg (‹Hid (¬ fin = 1)›).out, if_pos (‹Hid (fin = 2)›).out]; rw [HB.out, ‹decide (0 ≤ tg) = false›]; rfl
        clear HF HB
        go_enter Tryd.func40, Tryd.ntmps40
        go_wp2_with fail
        go_ret
        exact ⟨ret_b HV2.out.symm, below2⟩
      · have gk21 : (fin == 2) = false := beq_eq_false_iff_ne.2 k21
        have gn21 : (fin != 2) = true := bne_iff_ne.2 k21
        have kh21 := Lib.hid k21
        clear k21
        by_cases k22 : fin = 3
        · have gk22 : (fin == 3) = true := beq_iff_eq.2 k22
          have gn22 : (fin != 3) = false := bne_eq_false_iff_eq.2 k22
          have kh22 := Lib.hid k22
          clear k22
          by_cases k23 : tg = 0
          · have gk23 : (tg == 0) = true := beq_iff_eq.2 k23
            have gn23 : (tg != 0) = false := bne_eq_false_iff_eq.2 k23
            have kh23 := Lib.hid k23
            clear k23
            by_cases k24 : els = 0
            · have gk24 : (els == 0) = true := beq_iff_eq.2 k24
              have gn24 : (els != 0) = false := bne_eq_false_iff_eq.2 k24
              have kh24 := Lib.hid k24
              clear k24
              have HV2 : Hid (V = regF p ra (!void)) := by
                show _ = _
                rw [HF.out]
                rw [if_neg (‹Hid (¬ fin = 1)›).out, if_neg (‹Hid (¬ fin = 2)›).out, if_pos (‹Hid (fin = 3)›).out]; rw [‹(tg == 0) = true›, ‹(els == 0) = true›]; simp
              clear HF HB
              go_enter Tryd.func40, Tryd.ntmps40
              go_wp2_with fail
              refine (ER.out _ _ _ (Ext.below below2)).mono ?_
              rintro e w1 ⟨rfl, hb1⟩
              have HB1 := Lib.hid (below2c hb1)
              clear hb1
              go_wp2_with fail
              go_ret
              exact ⟨ret_b HV2.out.symm, HB1.out⟩
            · have gk24 : (els == 0) = false := beq_eq_false_iff_ne.2 k24
              have gn24 : (els != 0) = true := bne_iff_ne.2 k24
              have kh24 := Lib.hid k24
              clear k24
              have HV2 : Hid (V = false) := by
                show _ = _
                rw [HF.out]
                rw [if_neg (‹Hid (¬ fin = 1)›).out, if_neg (‹Hid (¬ fin = 2)›).out, if_pos (‹Hid (fin = 3)›).out]; rw [‹(els == 0) = false›]; simp
              clear HF HB
              go_enter Tryd.func40, Tryd.ntmps40
              go_wp2_with fail
              go_ret
              exact ⟨ret_b HV2.out.symm, below2⟩
          · have gk23 : (tg == 0) = false := beq_eq_false_iff_ne.2 k23
            have gn23 : (tg != 0) = true := bne_iff_ne.2 k23
            have kh23 := Lib.hid k23
            clear k23
            have HV2 : Hid (V = false) := by
              show _ = _
              rw [HF.out]
              rw [if_neg (‹Hid (¬ fin = 1)›).out, if_neg (‹Hid (¬ fin = 2)›).out, if_pos (‹Hid (fin = 3)›).out]; rw [‹(tg == 0) = false›]; simp
            clear HF HB
            go_enter Tryd.func40, Tryd.ntmps40
            go_wp2_with fail
            go_ret
            exact ⟨ret_b HV2.out.symm, below2⟩
        · have gk22 : (fin == 3) = false := beq_eq_false_iff_ne.2 k22
          have gn22 : (fin != 3) = true := bne_iff_ne.2 k22
          have kh22 := Lib.hid k22
          clear k22
          have HV2 : Hid (V = false) := by
            show _ = _
            rw [HF.out]
            rw [if_neg (‹Hid (¬ fin = 1)›).out, if_neg (‹Hid (¬ fin = 2)›).out, if_neg (‹Hid (¬ fin = 3)›).out]
          clear HF HB
          go_enter Tryd.func40, Tryd.ntmps40
          go_wp2_with fail
          go_ret
          exact ⟨ret_b HV2.out.symm, below2⟩
end Go.Proofs.YtnnhobbabcfogaaDoor
