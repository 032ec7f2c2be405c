/-
  IrTells: the walk.
-/
import Derived.Test.YtnnhobbabcfogaaDoorT6
import Derived.Test.YtnnhobbabcfogaaDoorF5
import Derived.Test.YtnnhobbabcfogaaDoorP0
import Derived.Test.YtnnhobbabcfogaaDoorN2
import Derived.Test.YtnnhobbabcfogaaDoorJ
import Derived.BigQuiet
set_option linter.all false
namespace Go.Proofs.YtnnhobbabcfogaaDoor
open Go.ChangeShapes Go.WideShapes Go.ChangeAt Go.RowKit
set_option maxHeartbeats 4000000
set_option linter.unusedVariables false
set_option maxRecDepth 100000

theorem below_drewNt {B : Nat} {w w1 : World} (h : Below B w w1) (n : Nat) : Below B w (w1.drewN n) := ⟨h.os, h.tape, h.output, h.size, h.block⟩
theorem list_extJ (a b : List Int) (hl : a.length = b.length) (h : ∀ i, i < a.length → a.getD i 0 = b.getD i 0) : a = b := by
  apply List.ext_getElem hl
  intro i h1 h2
  have := h i h1
  simpa [List.getD, h1, h2] using this
theorem same13_c (l l' : List Int) (v v' : Value) (w : World) (hv : RdI w v l) (hv' : RdI w v' l') :
    Calls Tryd.prog 21 #[v, v'] w fun e w' => e = .returned (.bool (decide (l = l'))) ∧ Below w.heap.size w w' := by
  obtain ⟨a, c, rfl, h1, h2, h3⟩ := hv
  obtain ⟨a', c', rfl, h1', h2', h3'⟩ := hv'
  unfold maxLen at h2 h2'
  have H := Lib.hid h3
  have H' := Lib.hid h3'
  clear h3 h3'
  by_cases hl : l.length = l'.length
  · have hb : ((l.length : Int) == (l'.length : Int)) = true := by simp [hl]
    rw [← hl] at h1' ⊢
    go_enter Tryd.func21, Tryd.ntmps21
    go_wp2_with fail
    go_loopw [5] (fun i wr => ∃ k : Nat, k ≤ l.length ∧ i = .int .i64 (k : Int) ∧ Hid (∀ j, j < k → l.getD j 0 = l'.getD j 0) ∧ Hid (Below w.heap.size w wr)) (fun i _ => l.length - (intOf i).toNat)
    case atStart => exact ⟨0, Nat.zero_le _, rfl, fun j hj => absurd hj (by omega), Below.refl _ _⟩
    case round =>
      obtain ⟨k, hk, rfl, HA, hB⟩ := hrel
      by_cases hlt : k < l.length
      · obtain ⟨b, o, rfl, hc⟩ := H.out k hlt
        obtain ⟨b', o', rfl, hc'⟩ := H'.out k (by omega)
        simp only [Nat.mul_one, Nat.add_zero] at hc hc'
        replace hc := Ext.below hB.out _ _ hc
        replace hc' := Ext.below hB.out _ _ hc'
        by_cases hx : l.getD k 0 = l'.getD k 0
        · have HA2 : Hid (∀ j, j < k + 1 → l.getD j 0 = l'.getD j 0) := fun j hj => by
            by_cases e : j = k
            · rw [e]; exact hx
            · exact HA.out j (by omega)
          rw [← hx] at hc'
          generalize l.getD k 0 = x at *
          clear hx
          go_wp2_with fail
          go_quiet (fail)
          go_wp2_with fail
          go_roundw
          case rel => exact ⟨k + 1, by omega, by go_num, HA2, below_drewNt hB.out _⟩
          case measure => simp [intOf]; omega
        · have HF : Hid (decide (l = l') = false) := decide_eq_false (fun e => hx (by rw [e]))
          generalize l.getD k 0 = x at *
          generalize l'.getD k 0 = y at *
          have hxy : (x == y) = false := beq_eq_false_iff_ne.2 hx
          go_wp2_with fail
          go_quiet (fail)
          go_wp2_with fail
          go_ret
          exact ⟨ret_b HF.out.symm, below_drewNt hB.out _⟩
      · have HT : Hid (decide (l = l') = true) := decide_eq_true (list_extJ l l' hl (fun i hi => HA.out i (by omega)))
        go_wp2_with fail
        go_ret
        exact ⟨ret_b HT.out.symm, hB.out⟩
  · have hb : ((l.length : Int) == (l'.length : Int)) = false := beq_eq_false_iff_ne.2 (by omega)
    have HF : Hid (decide (l = l') = false) := decide_eq_false (fun e => hl (by rw [e]))
    go_enter Tryd.func21, Tryd.ntmps21
    go_wp2_with fail
    go_ret
    exact ⟨ret_b HF.out.symm, Below.refl _ _⟩

theorem RdI.sl {w : World} {v : Value} {l : List Int} (h : RdI w v l) : ∃ a c, v = .slice a l.length c ∧ l.length ≤ c ∧ c ≤ maxLen := by
  obtain ⟨a, c, h1, h2, h3, -⟩ := h
  exact ⟨a, c, h1, h2, h3⟩
theorem IrTells_w (i : In) (v : Value) (b : Bk) (vb : Value) (w : World) (hio : InOk i) (hv : InV w v i) (hbo : BkOk b) (hvb : BkV w vb b) (hpw : Pow w) (hg : 2 < w.heap.size) :
    Calls Tryd.prog 5 #[v, vb] w fun e w' => e = .returned (.bool true) ∧ Below w.heap.size w w' := by
  have HA : Hid (∀ w', Below w.heap.size w w' → Calls Tryd.prog 10 #[] w' fun e w'' => e = .returned (.bool true) ∧ Below w'.heap.size w' w'') := fun w' hb => awake13_c w' (Go.Joins.var_stays pow_named hpw hb (Nat.le_refl _)) (Nat.lt_of_lt_of_le hg hb.size)
  have HV := Lib.hid hv
  have HVB := Lib.hid hvb
  clear hpw hio hbo
  obtain ⟨va, rfl, ha⟩ := hv
  obtain ⟨aa, ca, rfl, hal, hac⟩ := RdI.sl ha
  clear ha
  unfold maxLen at hac
  obtain ⟨vi, rfl, -⟩ := hvb
  have HF : Hid (∀ w', Ext w w' → Calls Tryd.prog 15 #[_] w' fun e w'' => e = .returned (.bool (insF i)) ∧ Below w'.heap.size w' w'') := fun w' he => ins_c i _ w' (HV.out.ext he) (by omega)
  obtain ⟨W0, hW0⟩ : ∃ W0, W0 = (w.alloc (.cells #[.int .i64 i.op, .int .i64 i.d, .int .i64 i.a, .int .i64 i.b, .int .i64 i.fn, .int .i64 i.obj, .int .i64 i.off, .int .i64 i.size, .int .u32 i.num, .slice aa i.args.length ca, .bool i.log] 45)).alloc (.cells #[vi, .int .i64 b.fin, .int .i64 b.a, .int .i64 b.to, .int .i64 b.els] 40) := ⟨_, rfl⟩
  have hW0' : W0 = allocs w [.cells #[.int .i64 i.op, .int .i64 i.d, .int .i64 i.a, .int .i64 i.b, .int .i64 i.fn, .int .i64 i.obj, .int .i64 i.off, .int .i64 i.size, .int .u32 i.num, .slice aa i.args.length ca, .bool i.log] 45, .cells #[vi, .int .i64 b.fin, .int .i64 b.a, .int .i64 b.to, .int .i64 b.els] 40] := hW0
  have B0 : Hid (Below w.heap.size w W0) := by rw [hW0']; exact allocs_below _ _
  have H0 : Hid (W0.heap[w.heap.size]? = some (.cells #[.int .i64 i.op, .int .i64 i.d, .int .i64 i.a, .int .i64 i.b, .int .i64 i.fn, .int .i64 i.obj, .int .i64 i.off, .int .i64 i.size, .int .u32 i.num, .slice aa i.args.length ca, .bool i.log] 45 (0, 0))) := by rw [hW0']; exact allocs_heap _ w 0 (by simp)
  have H1 : Hid (W0.heap[w.heap.size + 1]? = some (.cells #[vi, .int .i64 b.fin, .int .i64 b.a, .int .i64 b.to, .int .i64 b.els] 40 (0, 0))) := by rw [hW0']; exact allocs_heap _ w 1 (by simp)
  have HW0 := Lib.hid hW0
  clear hW0 hW0'
  go_enter Tryd.func5, Tryd.ntmps5
  go_wp2_with fail
  have hf := HF.out W0 (Ext.below B0.out)
  rw [HW0.out] at hf
  refine Calls.mono hf ?_
  clear hf
  rw [← HW0.out]
  rintro e w1 ⟨rfl, hb1⟩
  have H0 := Lib.hid ((hb1.block w.heap.size (Array.getElem?_eq_some_iff.1 H0.out).1).trans H0.out)
  have H1 := Lib.hid ((hb1.block (w.heap.size + 1) (Array.getElem?_eq_some_iff.1 H1.out).1).trans H1.out)
  have BB := Lib.hid (B0.out.trans (hb1.mono B0.out.size))
  clear hb1 HF HW0 B0
  obtain ⟨x0, x1, x2, x3, x4, x5, x6, x7, x8, x9, x10, l0⟩ := cl11 H0.out
  obtain ⟨y0, y1, y2, y3, y4, l1⟩ := cl5 H1.out
  cases hfw : insF i
  · go_wp2_with fail
    refine (HA.out _ BB.out).mono ?_
    rintro e w2 ⟨rfl, hb2⟩
    have BB := Lib.hid (BB.out.trans (hb2.mono BB.out.size))
    clear hb2
    go_wp2_with fail
    go_ret
    exact ⟨rfl, BB.out⟩
  · have HL := Lib.hid (insF_args hfw)
    clear hfw
    have HP : Hid (pureI i = (decide (1 ≤ i.op) && decide (i.op ≤ 8) && (i.op != 6))) := by
      show _ = _
      unfold pureI
      rw [Bool.eq_iff_iff]
      simp
      omega
    by_cases h1 : 1 ≤ i.op
    · have g1 : decide (1 ≤ i.op) = true := decide_eq_true h1
      by_cases h2 : i.op ≤ 8
      · have g2 : decide (i.op ≤ 8) = true := decide_eq_true h2
        cases h3 : (i.op == 6)
        · have g3 : (i.op != 6) = true := by unfold bne; rw [h3]; rfl
          have hpi : Hid (pureI i = true) := by show _ = _; rw [HP.out, g1, g2, g3]; rfl
          clear HP
          go_wp2_with fail
          refine wp_region_junk (fun _ => True) (by kernel_rfl) ?_
          refine J_loud1 0 _ rfl (by kernel_rfl) ?_
          simp only [List.getElem_toArray, List.getElem_cons_succ, List.getElem_cons_zero]
          intro wj hj
          go_wp2_with fail
          refine (HA.out wj (BB.out.trans (hj.mono BB.out.size))).mono ?_
          rintro e w2 ⟨rfl, hb2⟩
          go_wp2_with fail
          refine ⟨KeepX.below hb2, ?_⟩
          have hb3 := Lib.hid (hj.trans (hb2.mono hj.size))
          have H0 := Lib.hid ((hb3.out.block w.heap.size l0).trans H0.out)
          have H1 := Lib.hid ((hb3.out.block (w.heap.size + 1) l1).trans H1.out)
          have BB := Lib.hid (BB.out.trans (hb3.out.mono BB.out.size))
          clear x0 x1 x2 x3 x4 x5 x6 x7 x8 x9 x10 y0 y1 y2 y3 y4 l0 l1
          obtain ⟨x0, x1, x2, x3, x4, x5, x6, x7, x8, x9, x10, l0⟩ := cl11 H0.out
          obtain ⟨y0, y1, y2, y3, y4, l1⟩ := cl5 H1.out
          clear hb2 hj hb3
          refine J_mobs [1, 2, 4] _ _ _ _ (by kernel_rfl) ?_
          simp only [List.map_cons, List.map_nil, List.getElem?_toArray, List.getElem?_cons_succ, List.getElem?_cons_zero, Option.getD_some, List.size_toArray, List.length_cons, List.length_nil, Nat.reduceAdd, Nat.reduceSub]
          repeat (go_big_quiet_step (fail))
          refine wpQuiet_nil ?_
          refine J_loud1 3 _ rfl (by kernel_rfl) ?_
          simp only [List.getElem_toArray, List.getElem_cons_succ, List.getElem_cons_zero]
          intro wj hj
          go_wp2_with fail
          refine (def_c i _ wj (HV.out.ext (Ext.below (BB.out.trans (hj.mono BB.out.size))))).mono ?_
          rintro e w3 ⟨rfl, hb2⟩
          go_wp2_with fail
          refine ⟨KeepX.below hb2, ?_⟩
          have hb3 := Lib.hid (hj.trans (hb2.mono hj.size))
          have H0 := Lib.hid ((hb3.out.block w.heap.size l0).trans H0.out)
          have H1 := Lib.hid ((hb3.out.block (w.heap.size + 1) l1).trans H1.out)
          have BB := Lib.hid (BB.out.trans (hb3.out.mono BB.out.size))
          clear x0 x1 x2 x3 x4 x5 x6 x7 x8 x9 x10 y0 y1 y2 y3 y4 l0 l1
          obtain ⟨x0, x1, x2, x3, x4, x5, x6, x7, x8, x9, x10, l0⟩ := cl11 H0.out
          obtain ⟨y0, y1, y2, y3, y4, l1⟩ := cl5 H1.out
          clear hb2 hj hb3
          refine J_loud1 5 _ rfl (by kernel_rfl) ?_
          simp only [List.getElem_toArray, List.getElem_cons_succ, List.getElem_cons_zero]
          intro wj hj
          go_wp2_with fail
          refine (rdef_c i _ wj (HV.out.ext (Ext.below (BB.out.trans (hj.mono BB.out.size))))).mono ?_
          rintro e w4 ⟨rfl, hb2⟩
          go_wp2_with fail
          refine ⟨KeepX.below hb2, ?_⟩
          have hb3 := Lib.hid (hj.trans (hb2.mono hj.size))
          have H0 := Lib.hid ((hb3.out.block w.heap.size l0).trans H0.out)
          have H1 := Lib.hid ((hb3.out.block (w.heap.size + 1) l1).trans H1.out)
          have BB := Lib.hid (BB.out.trans (hb3.out.mono BB.out.size))
          clear x0 x1 x2 x3 x4 x5 x6 x7 x8 x9 x10 y0 y1 y2 y3 y4 l0 l1
          obtain ⟨x0, x1, x2, x3, x4, x5, x6, x7, x8, x9, x10, l0⟩ := cl11 H0.out
          obtain ⟨y0, y1, y2, y3, y4, l1⟩ := cl5 H1.out
          clear hb2 hj hb3
          refine J_mobs [6, 7, 8, 9, 11] _ _ _ _ (by kernel_rfl) ?_
          simp only [List.map_cons, List.map_nil, List.getElem?_toArray, List.getElem?_cons_succ, List.getElem?_cons_zero, Option.getD_some, List.size_toArray, List.length_cons, List.length_nil, Nat.reduceAdd, Nat.reduceSub]
          repeat (go_big_quiet_step (fail))
          refine wpQuiet_nil ?_
          refine J_loud1 10 _ rfl (by kernel_rfl) ?_
          simp only [List.getElem_toArray, List.getElem_cons_succ, List.getElem_cons_zero]
          intro wj hj
          go_wp2_with fail
          refine (uses_c i _ wj (HV.out.ext (Ext.below (BB.out.trans (hj.mono BB.out.size)))) (by have := HL.out; omega)).mono ?_
          rintro e w5 ⟨vA, rfl, hoA, hb2⟩
          obtain ⟨aA, cA, rfl, -⟩ := RdI.sl hoA.rd
          have HOA := Lib.hid hoA.rd
          clear hoA
          go_wp2_with fail
          refine ⟨KeepX.below hb2, ?_⟩
          have hb3 := Lib.hid (hj.trans (hb2.mono hj.size))
          have H0 := Lib.hid ((hb3.out.block w.heap.size l0).trans H0.out)
          have H1 := Lib.hid ((hb3.out.block (w.heap.size + 1) l1).trans H1.out)
          have BB := Lib.hid (BB.out.trans (hb3.out.mono BB.out.size))
          clear x0 x1 x2 x3 x4 x5 x6 x7 x8 x9 x10 y0 y1 y2 y3 y4 l0 l1
          obtain ⟨x0, x1, x2, x3, x4, x5, x6, x7, x8, x9, x10, l0⟩ := cl11 H0.out
          obtain ⟨y0, y1, y2, y3, y4, l1⟩ := cl5 H1.out
          clear hb2 hj hb3
          refine J_loud1 12 _ rfl (by kernel_rfl) ?_
          simp only [List.getElem_toArray, List.getElem_cons_succ, List.getElem_cons_zero]
          intro wj hj
          go_wp2_with fail
          refine (ruses_c i _ wj (HV.out.ext (Ext.below (BB.out.trans (hj.mono BB.out.size)))) (by have := HL.out; omega)).mono ?_
          rintro e w6 ⟨vB, rfl, hoB, hb2⟩
          obtain ⟨aB, cB, rfl, -⟩ := RdI.sl hoB.rd
          have HOB := Lib.hid hoB.rd
          clear hoB
          go_wp2_with fail
          refine ⟨KeepX.below hb2, ?_⟩
          have hb3 := Lib.hid (hj.trans (hb2.mono hj.size))
          have H0 := Lib.hid ((hb3.out.block w.heap.size l0).trans H0.out)
          have H1 := Lib.hid ((hb3.out.block (w.heap.size + 1) l1).trans H1.out)
          have BB := Lib.hid (BB.out.trans (hb3.out.mono BB.out.size))
          clear x0 x1 x2 x3 x4 x5 x6 x7 x8 x9 x10 y0 y1 y2 y3 y4 l0 l1
          obtain ⟨x0, x1, x2, x3, x4, x5, x6, x7, x8, x9, x10, l0⟩ := cl11 H0.out
          obtain ⟨y0, y1, y2, y3, y4, l1⟩ := cl5 H1.out
          have HOA := Lib.hid (HOA.out.ext (Ext.below hb3.out))
          clear hb2 hj hb3
          refine J_loud1 13 _ rfl (by kernel_rfl) ?_
          simp only [List.getElem_toArray, List.getElem_cons_succ, List.getElem_cons_zero]
          intro wj hj
          have hsm := same13_c _ _ _ _ wj (HOA.out.ext (Ext.below hj)) (HOB.out.ext (Ext.below hj))
          rw [decide_eq_true rfl] at hsm
          go_wp2_with fail
          refine (hsm).mono ?_
          clear hsm
          rintro e w7 ⟨rfl, hb2⟩
          go_wp2_with fail
          refine ⟨KeepX.below hb2, ?_⟩
          have hb3 := Lib.hid (hj.trans (hb2.mono hj.size))
          have H0 := Lib.hid ((hb3.out.block w.heap.size l0).trans H0.out)
          have H1 := Lib.hid ((hb3.out.block (w.heap.size + 1) l1).trans H1.out)
          have BB := Lib.hid (BB.out.trans (hb3.out.mono BB.out.size))
          clear x0 x1 x2 x3 x4 x5 x6 x7 x8 x9 x10 y0 y1 y2 y3 y4 l0 l1
          obtain ⟨x0, x1, x2, x3, x4, x5, x6, x7, x8, x9, x10, l0⟩ := cl11 H0.out
          obtain ⟨y0, y1, y2, y3, y4, l1⟩ := cl5 H1.out
          clear hb2 hj hb3 HOA HOB
          refine J_mobs [14, 15, 16, 18] _ _ _ _ (by kernel_rfl) ?_
          simp only [List.map_cons, List.map_nil, List.getElem?_toArray, List.getElem?_cons_succ, List.getElem?_cons_zero, Option.getD_some, List.size_toArray, List.length_cons, List.length_nil, Nat.reduceAdd, Nat.reduceSub]
          repeat (go_big_quiet_step (fail))
          refine wpQuiet_nil ?_
          refine J_loud1 17 _ rfl (by kernel_rfl) ?_
          simp only [List.getElem_toArray, List.getElem_cons_succ, List.getElem_cons_zero]
          intro wj hj
          go_wp2_with fail
          refine (pure_c i _ wj (HV.out.ext (Ext.below (BB.out.trans (hj.mono BB.out.size))))).mono ?_
          rintro e w8 ⟨rfl, hb2⟩
          rw [hpi.out]
          go_wp2_with fail
          refine ⟨KeepX.below hb2, ?_⟩
          have hb3 := Lib.hid (hj.trans (hb2.mono hj.size))
          have H0 := Lib.hid ((hb3.out.block w.heap.size l0).trans H0.out)
          have H1 := Lib.hid ((hb3.out.block (w.heap.size + 1) l1).trans H1.out)
          have BB := Lib.hid (BB.out.trans (hb3.out.mono BB.out.size))
          clear x0 x1 x2 x3 x4 x5 x6 x7 x8 x9 x10 y0 y1 y2 y3 y4 l0 l1
          obtain ⟨x0, x1, x2, x3, x4, x5, x6, x7, x8, x9, x10, l0⟩ := cl11 H0.out
          obtain ⟨y0, y1, y2, y3, y4, l1⟩ := cl5 H1.out
          clear hb2 hj hb3
          refine J_mobs [19, 20, 21, 22, 24] _ _ _ _ (by kernel_rfl) ?_
          simp only [List.map_cons, List.map_nil, List.getElem?_toArray, List.getElem?_cons_succ, List.getElem?_cons_zero, Option.getD_some, List.size_toArray, List.length_cons, List.length_nil, Nat.reduceAdd, Nat.reduceSub]
          repeat (go_big_quiet_step (fail))
          refine wpQuiet_nil ?_
          refine J_loud1 23 _ rfl (by kernel_rfl) ?_
          simp only [List.getElem_toArray, List.getElem_cons_succ, List.getElem_cons_zero]
          intro wj hj
          go_wp2_with fail
          refine (outs_c b _ wj (HVB.out.ext (Ext.below (BB.out.trans (hj.mono BB.out.size))))).mono ?_
          rintro e w9 ⟨vA, rfl, hoA, hb2⟩
          obtain ⟨aA, cA, rfl, -⟩ := RdI.sl hoA.rd
          have HOA := Lib.hid hoA.rd
          clear hoA
          go_wp2_with fail
          refine ⟨KeepX.below hb2, ?_⟩
          have hb3 := Lib.hid (hj.trans (hb2.mono hj.size))
          have H0 := Lib.hid ((hb3.out.block w.heap.size l0).trans H0.out)
          have H1 := Lib.hid ((hb3.out.block (w.heap.size + 1) l1).trans H1.out)
          have BB := Lib.hid (BB.out.trans (hb3.out.mono BB.out.size))
          clear x0 x1 x2 x3 x4 x5 x6 x7 x8 x9 x10 y0 y1 y2 y3 y4 l0 l1
          obtain ⟨x0, x1, x2, x3, x4, x5, x6, x7, x8, x9, x10, l0⟩ := cl11 H0.out
          obtain ⟨y0, y1, y2, y3, y4, l1⟩ := cl5 H1.out
          clear hb2 hj hb3
          refine J_loud1 25 _ rfl (by kernel_rfl) ?_
          simp only [List.getElem_toArray, List.getElem_cons_succ, List.getElem_cons_zero]
          intro wj hj
          go_wp2_with fail
          refine (routs_c b _ wj (HVB.out.ext (Ext.below (BB.out.trans (hj.mono BB.out.size))))).mono ?_
          rintro e w10 ⟨vB, rfl, hoB, hb2⟩
          obtain ⟨aB, cB, rfl, -⟩ := RdI.sl hoB.rd
          have HOB := Lib.hid hoB.rd
          clear hoB
          go_wp2_with fail
          refine ⟨KeepX.below hb2, ?_⟩
          have hb3 := Lib.hid (hj.trans (hb2.mono hj.size))
          have H0 := Lib.hid ((hb3.out.block w.heap.size l0).trans H0.out)
          have H1 := Lib.hid ((hb3.out.block (w.heap.size + 1) l1).trans H1.out)
          have BB := Lib.hid (BB.out.trans (hb3.out.mono BB.out.size))
          clear x0 x1 x2 x3 x4 x5 x6 x7 x8 x9 x10 y0 y1 y2 y3 y4 l0 l1
          obtain ⟨x0, x1, x2, x3, x4, x5, x6, x7, x8, x9, x10, l0⟩ := cl11 H0.out
          obtain ⟨y0, y1, y2, y3, y4, l1⟩ := cl5 H1.out
          have HOA := Lib.hid (HOA.out.ext (Ext.below hb3.out))
          clear hb2 hj hb3
          refine J_loud1 26 _ rfl (by kernel_rfl) ?_
          simp only [List.getElem_toArray, List.getElem_cons_succ, List.getElem_cons_zero]
          intro wj hj
          have hsm := same13_c _ _ _ _ wj (HOA.out.ext (Ext.below hj)) (HOB.out.ext (Ext.below hj))
          rw [decide_eq_true rfl] at hsm
          go_wp2_with fail
          refine (hsm).mono ?_
          clear hsm
          rintro e w11 ⟨rfl, hb2⟩
          go_wp2_with fail
          refine ⟨KeepX.below hb2, ?_⟩
          have hb3 := Lib.hid (hj.trans (hb2.mono hj.size))
          have H0 := Lib.hid ((hb3.out.block w.heap.size l0).trans H0.out)
          have H1 := Lib.hid ((hb3.out.block (w.heap.size + 1) l1).trans H1.out)
          have BB := Lib.hid (BB.out.trans (hb3.out.mono BB.out.size))
          clear x0 x1 x2 x3 x4 x5 x6 x7 x8 x9 x10 y0 y1 y2 y3 y4 l0 l1
          obtain ⟨x0, x1, x2, x3, x4, x5, x6, x7, x8, x9, x10, l0⟩ := cl11 H0.out
          obtain ⟨y0, y1, y2, y3, y4, l1⟩ := cl5 H1.out
          clear hb2 hj hb3 HOA HOB
          refine J_mobs [27, 28] _ _ _ _ (by kernel_rfl) ?_
          simp only [List.map_cons, List.map_nil, List.getElem?_toArray, List.getElem?_cons_succ, List.getElem?_cons_zero, Option.getD_some, List.size_toArray, List.length_cons, List.length_nil, Nat.reduceAdd, Nat.reduceSub]
          repeat (go_big_quiet_step (fail))
          refine wpQuiet_nil ?_
          refine J_done (by kernel_rfl) (fun wk hk => ?_) _
          have BB := Lib.hid (BB.out.trans (hk.mono BB.out.size))
          clear hk
          go_wp2_with fail
          go_ret
          exact ⟨rfl, BB.out⟩
        · have g3 : (i.op != 6) = false := by unfold bne; rw [h3]; rfl
          have hpi : Hid (pureI i = false) := by show _ = _; rw [HP.out, g1, g2, g3]; rfl
          clear HP
          go_wp2_with fail
          refine wp_region_junk (fun _ => True) (by kernel_rfl) ?_
          refine J_loud1 0 _ rfl (by kernel_rfl) ?_
          simp only [List.getElem_toArray, List.getElem_cons_succ, List.getElem_cons_zero]
          intro wj hj
          go_wp2_with fail
          refine (HA.out wj (BB.out.trans (hj.mono BB.out.size))).mono ?_
          rintro e w2 ⟨rfl, hb2⟩
          go_wp2_with fail
          refine ⟨KeepX.below hb2, ?_⟩
          have hb3 := Lib.hid (hj.trans (hb2.mono hj.size))
          have H0 := Lib.hid ((hb3.out.block w.heap.size l0).trans H0.out)
          have H1 := Lib.hid ((hb3.out.block (w.heap.size + 1) l1).trans H1.out)
          have BB := Lib.hid (BB.out.trans (hb3.out.mono BB.out.size))
          clear x0 x1 x2 x3 x4 x5 x6 x7 x8 x9 x10 y0 y1 y2 y3 y4 l0 l1
          obtain ⟨x0, x1, x2, x3, x4, x5, x6, x7, x8, x9, x10, l0⟩ := cl11 H0.out
          obtain ⟨y0, y1, y2, y3, y4, l1⟩ := cl5 H1.out
          clear hb2 hj hb3
          refine J_mobs [1, 2, 4] _ _ _ _ (by kernel_rfl) ?_
          simp only [List.map_cons, List.map_nil, List.getElem?_toArray, List.getElem?_cons_succ, List.getElem?_cons_zero, Option.getD_some, List.size_toArray, List.length_cons, List.length_nil, Nat.reduceAdd, Nat.reduceSub]
          repeat (go_big_quiet_step (fail))
          refine wpQuiet_nil ?_
          refine J_loud1 3 _ rfl (by kernel_rfl) ?_
          simp only [List.getElem_toArray, List.getElem_cons_succ, List.getElem_cons_zero]
          intro wj hj
          go_wp2_with fail
          refine (def_c i _ wj (HV.out.ext (Ext.below (BB.out.trans (hj.mono BB.out.size))))).mono ?_
          rintro e w3 ⟨rfl, hb2⟩
          go_wp2_with fail
          refine ⟨KeepX.below hb2, ?_⟩
          have hb3 := Lib.hid (hj.trans (hb2.mono hj.size))
          have H0 := Lib.hid ((hb3.out.block w.heap.size l0).trans H0.out)
          have H1 := Lib.hid ((hb3.out.block (w.heap.size + 1) l1).trans H1.out)
          have BB := Lib.hid (BB.out.trans (hb3.out.mono BB.out.size))
          clear x0 x1 x2 x3 x4 x5 x6 x7 x8 x9 x10 y0 y1 y2 y3 y4 l0 l1
          obtain ⟨x0, x1, x2, x3, x4, x5, x6, x7, x8, x9, x10, l0⟩ := cl11 H0.out
          obtain ⟨y0, y1, y2, y3, y4, l1⟩ := cl5 H1.out
          clear hb2 hj hb3
          refine J_loud1 5 _ rfl (by kernel_rfl) ?_
          simp only [List.getElem_toArray, List.getElem_cons_succ, List.getElem_cons_zero]
          intro wj hj
          go_wp2_with fail
          refine (rdef_c i _ wj (HV.out.ext (Ext.below (BB.out.trans (hj.mono BB.out.size))))).mono ?_
          rintro e w4 ⟨rfl, hb2⟩
          go_wp2_with fail
          refine ⟨KeepX.below hb2, ?_⟩
          have hb3 := Lib.hid (hj.trans (hb2.mono hj.size))
          have H0 := Lib.hid ((hb3.out.block w.heap.size l0).trans H0.out)
          have H1 := Lib.hid ((hb3.out.block (w.heap.size + 1) l1).trans H1.out)
          have BB := Lib.hid (BB.out.trans (hb3.out.mono BB.out.size))
          clear x0 x1 x2 x3 x4 x5 x6 x7 x8 x9 x10 y0 y1 y2 y3 y4 l0 l1
          obtain ⟨x0, x1, x2, x3, x4, x5, x6, x7, x8, x9, x10, l0⟩ := cl11 H0.out
          obtain ⟨y0, y1, y2, y3, y4, l1⟩ := cl5 H1.out
          clear hb2 hj hb3
          refine J_mobs [6, 7, 8, 9, 11] _ _ _ _ (by kernel_rfl) ?_
          simp only [List.map_cons, List.map_nil, List.getElem?_toArray, List.getElem?_cons_succ, List.getElem?_cons_zero, Option.getD_some, List.size_toArray, List.length_cons, List.length_nil, Nat.reduceAdd, Nat.reduceSub]
          repeat (go_big_quiet_step (fail))
          refine wpQuiet_nil ?_
          refine J_loud1 10 _ rfl (by kernel_rfl) ?_
          simp only [List.getElem_toArray, List.getElem_cons_succ, List.getElem_cons_zero]
          intro wj hj
          go_wp2_with fail
          refine (uses_c i _ wj (HV.out.ext (Ext.below (BB.out.trans (hj.mono BB.out.size)))) (by have := HL.out; omega)).mono ?_
          rintro e w5 ⟨vA, rfl, hoA, hb2⟩
          obtain ⟨aA, cA, rfl, -⟩ := RdI.sl hoA.rd
          have HOA := Lib.hid hoA.rd
          clear hoA
          go_wp2_with fail
          refine ⟨KeepX.below hb2, ?_⟩
          have hb3 := Lib.hid (hj.trans (hb2.mono hj.size))
          have H0 := Lib.hid ((hb3.out.block w.heap.size l0).trans H0.out)
          have H1 := Lib.hid ((hb3.out.block (w.heap.size + 1) l1).trans H1.out)
          have BB := Lib.hid (BB.out.trans (hb3.out.mono BB.out.size))
          clear x0 x1 x2 x3 x4 x5 x6 x7 x8 x9 x10 y0 y1 y2 y3 y4 l0 l1
          obtain ⟨x0, x1, x2, x3, x4, x5, x6, x7, x8, x9, x10, l0⟩ := cl11 H0.out
          obtain ⟨y0, y1, y2, y3, y4, l1⟩ := cl5 H1.out
          clear hb2 hj hb3
          refine J_loud1 12 _ rfl (by kernel_rfl) ?_
          simp only [List.getElem_toArray, List.getElem_cons_succ, List.getElem_cons_zero]
          intro wj hj
          go_wp2_with fail
          refine (ruses_c i _ wj (HV.out.ext (Ext.below (BB.out.trans (hj.mono BB.out.size)))) (by have := HL.out; omega)).mono ?_
          rintro e w6 ⟨vB, rfl, hoB, hb2⟩
          obtain ⟨aB, cB, rfl, -⟩ := RdI.sl hoB.rd
          have HOB := Lib.hid hoB.rd
          clear hoB
          go_wp2_with fail
          refine ⟨KeepX.below hb2, ?_⟩
          have hb3 := Lib.hid (hj.trans (hb2.mono hj.size))
          have H0 := Lib.hid ((hb3.out.block w.heap.size l0).trans H0.out)
          have H1 := Lib.hid ((hb3.out.block (w.heap.size + 1) l1).trans H1.out)
          have BB := Lib.hid (BB.out.trans (hb3.out.mono BB.out.size))
          clear x0 x1 x2 x3 x4 x5 x6 x7 x8 x9 x10 y0 y1 y2 y3 y4 l0 l1
          obtain ⟨x0, x1, x2, x3, x4, x5, x6, x7, x8, x9, x10, l0⟩ := cl11 H0.out
          obtain ⟨y0, y1, y2, y3, y4, l1⟩ := cl5 H1.out
          have HOA := Lib.hid (HOA.out.ext (Ext.below hb3.out))
          clear hb2 hj hb3
          refine J_loud1 13 _ rfl (by kernel_rfl) ?_
          simp only [List.getElem_toArray, List.getElem_cons_succ, List.getElem_cons_zero]
          intro wj hj
          have hsm := same13_c _ _ _ _ wj (HOA.out.ext (Ext.below hj)) (HOB.out.ext (Ext.below hj))
          rw [decide_eq_true rfl] at hsm
          go_wp2_with fail
          refine (hsm).mono ?_
          clear hsm
          rintro e w7 ⟨rfl, hb2⟩
          go_wp2_with fail
          refine ⟨KeepX.below hb2, ?_⟩
          have hb3 := Lib.hid (hj.trans (hb2.mono hj.size))
          have H0 := Lib.hid ((hb3.out.block w.heap.size l0).trans H0.out)
          have H1 := Lib.hid ((hb3.out.block (w.heap.size + 1) l1).trans H1.out)
          have BB := Lib.hid (BB.out.trans (hb3.out.mono BB.out.size))
          clear x0 x1 x2 x3 x4 x5 x6 x7 x8 x9 x10 y0 y1 y2 y3 y4 l0 l1
          obtain ⟨x0, x1, x2, x3, x4, x5, x6, x7, x8, x9, x10, l0⟩ := cl11 H0.out
          obtain ⟨y0, y1, y2, y3, y4, l1⟩ := cl5 H1.out
          clear hb2 hj hb3 HOA HOB
          refine J_mobs [14, 15, 16, 18] _ _ _ _ (by kernel_rfl) ?_
          simp only [List.map_cons, List.map_nil, List.getElem?_toArray, List.getElem?_cons_succ, List.getElem?_cons_zero, Option.getD_some, List.size_toArray, List.length_cons, List.length_nil, Nat.reduceAdd, Nat.reduceSub]
          repeat (go_big_quiet_step (fail))
          refine wpQuiet_nil ?_
          refine J_loud1 17 _ rfl (by kernel_rfl) ?_
          simp only [List.getElem_toArray, List.getElem_cons_succ, List.getElem_cons_zero]
          intro wj hj
          go_wp2_with fail
          refine (pure_c i _ wj (HV.out.ext (Ext.below (BB.out.trans (hj.mono BB.out.size))))).mono ?_
          rintro e w8 ⟨rfl, hb2⟩
          rw [hpi.out]
          go_wp2_with fail
          refine ⟨KeepX.below hb2, ?_⟩
          have hb3 := Lib.hid (hj.trans (hb2.mono hj.size))
          have H0 := Lib.hid ((hb3.out.block w.heap.size l0).trans H0.out)
          have H1 := Lib.hid ((hb3.out.block (w.heap.size + 1) l1).trans H1.out)
          have BB := Lib.hid (BB.out.trans (hb3.out.mono BB.out.size))
          clear x0 x1 x2 x3 x4 x5 x6 x7 x8 x9 x10 y0 y1 y2 y3 y4 l0 l1
          obtain ⟨x0, x1, x2, x3, x4, x5, x6, x7, x8, x9, x10, l0⟩ := cl11 H0.out
          obtain ⟨y0, y1, y2, y3, y4, l1⟩ := cl5 H1.out
          clear hb2 hj hb3
          refine J_mobs [19, 20, 21, 22, 24] _ _ _ _ (by kernel_rfl) ?_
          simp only [List.map_cons, List.map_nil, List.getElem?_toArray, List.getElem?_cons_succ, List.getElem?_cons_zero, Option.getD_some, List.size_toArray, List.length_cons, List.length_nil, Nat.reduceAdd, Nat.reduceSub]
          repeat (go_big_quiet_step (fail))
          refine wpQuiet_nil ?_
          refine J_loud1 23 _ rfl (by kernel_rfl) ?_
          simp only [List.getElem_toArray, List.getElem_cons_succ, List.getElem_cons_zero]
          intro wj hj
          go_wp2_with fail
          refine (outs_c b _ wj (HVB.out.ext (Ext.below (BB.out.trans (hj.mono BB.out.size))))).mono ?_
          rintro e w9 ⟨vA, rfl, hoA, hb2⟩
          obtain ⟨aA, cA, rfl, -⟩ := RdI.sl hoA.rd
          have HOA := Lib.hid hoA.rd
          clear hoA
          go_wp2_with fail
          refine ⟨KeepX.below hb2, ?_⟩
          have hb3 := Lib.hid (hj.trans (hb2.mono hj.size))
          have H0 := Lib.hid ((hb3.out.block w.heap.size l0).trans H0.out)
          have H1 := Lib.hid ((hb3.out.block (w.heap.size + 1) l1).trans H1.out)
          have BB := Lib.hid (BB.out.trans (hb3.out.mono BB.out.size))
          clear x0 x1 x2 x3 x4 x5 x6 x7 x8 x9 x10 y0 y1 y2 y3 y4 l0 l1
          obtain ⟨x0, x1, x2, x3, x4, x5, x6, x7, x8, x9, x10, l0⟩ := cl11 H0.out
          obtain ⟨y0, y1, y2, y3, y4, l1⟩ := cl5 H1.out
          clear hb2 hj hb3
          refine J_loud1 25 _ rfl (by kernel_rfl) ?_
          simp only [List.getElem_toArray, List.getElem_cons_succ, List.getElem_cons_zero]
          intro wj hj
          go_wp2_with fail
          refine (routs_c b _ wj (HVB.out.ext (Ext.below (BB.out.trans (hj.mono BB.out.size))))).mono ?_
          rintro e w10 ⟨vB, rfl, hoB, hb2⟩
          obtain ⟨aB, cB, rfl, -⟩ := RdI.sl hoB.rd
          have HOB := Lib.hid hoB.rd
          clear hoB
          go_wp2_with fail
          refine ⟨KeepX.below hb2, ?_⟩
          have hb3 := Lib.hid (hj.trans (hb2.mono hj.size))
          have H0 := Lib.hid ((hb3.out.block w.heap.size l0).trans H0.out)
          have H1 := Lib.hid ((hb3.out.block (w.heap.size + 1) l1).trans H1.out)
          have BB := Lib.hid (BB.out.trans (hb3.out.mono BB.out.size))
          clear x0 x1 x2 x3 x4 x5 x6 x7 x8 x9 x10 y0 y1 y2 y3 y4 l0 l1
          obtain ⟨x0, x1, x2, x3, x4, x5, x6, x7, x8, x9, x10, l0⟩ := cl11 H0.out
          obtain ⟨y0, y1, y2, y3, y4, l1⟩ := cl5 H1.out
          have HOA := Lib.hid (HOA.out.ext (Ext.below hb3.out))
          clear hb2 hj hb3
          refine J_loud1 26 _ rfl (by kernel_rfl) ?_
          simp only [List.getElem_toArray, List.getElem_cons_succ, List.getElem_cons_zero]
          intro wj hj
          have hsm := same13_c _ _ _ _ wj (HOA.out.ext (Ext.below hj)) (HOB.out.ext (Ext.below hj))
          rw [decide_eq_true rfl] at hsm
          go_wp2_with fail
          refine (hsm).mono ?_
          clear hsm
          rintro e w11 ⟨rfl, hb2⟩
          go_wp2_with fail
          refine ⟨KeepX.below hb2, ?_⟩
          have hb3 := Lib.hid (hj.trans (hb2.mono hj.size))
          have H0 := Lib.hid ((hb3.out.block w.heap.size l0).trans H0.out)
          have H1 := Lib.hid ((hb3.out.block (w.heap.size + 1) l1).trans H1.out)
          have BB := Lib.hid (BB.out.trans (hb3.out.mono BB.out.size))
          clear x0 x1 x2 x3 x4 x5 x6 x7 x8 x9 x10 y0 y1 y2 y3 y4 l0 l1
          obtain ⟨x0, x1, x2, x3, x4, x5, x6, x7, x8, x9, x10, l0⟩ := cl11 H0.out
          obtain ⟨y0, y1, y2, y3, y4, l1⟩ := cl5 H1.out
          clear hb2 hj hb3 HOA HOB
          refine J_mobs [27, 28] _ _ _ _ (by kernel_rfl) ?_
          simp only [List.map_cons, List.map_nil, List.getElem?_toArray, List.getElem?_cons_succ, List.getElem?_cons_zero, Option.getD_some, List.size_toArray, List.length_cons, List.length_nil, Nat.reduceAdd, Nat.reduceSub]
          repeat (go_big_quiet_step (fail))
          refine wpQuiet_nil ?_
          refine J_done (by kernel_rfl) (fun wk hk => ?_) _
          have BB := Lib.hid (BB.out.trans (hk.mono BB.out.size))
          clear hk
          go_wp2_with fail
          go_ret
          exact ⟨rfl, BB.out⟩
      · have g2 : decide (i.op ≤ 8) = false := decide_eq_false h2
        have hpi : Hid (pureI i = false) := by show _ = _; rw [HP.out, g1, g2]; rfl
        clear HP
        go_wp2_with fail
        refine wp_region_junk (fun _ => True) (by kernel_rfl) ?_
        refine J_loud1 0 _ rfl (by kernel_rfl) ?_
        simp only [List.getElem_toArray, List.getElem_cons_succ, List.getElem_cons_zero]
        intro wj hj
        go_wp2_with fail
        refine (HA.out wj (BB.out.trans (hj.mono BB.out.size))).mono ?_
        rintro e w2 ⟨rfl, hb2⟩
        go_wp2_with fail
        refine ⟨KeepX.below hb2, ?_⟩
        have hb3 := Lib.hid (hj.trans (hb2.mono hj.size))
        have H0 := Lib.hid ((hb3.out.block w.heap.size l0).trans H0.out)
        have H1 := Lib.hid ((hb3.out.block (w.heap.size + 1) l1).trans H1.out)
        have BB := Lib.hid (BB.out.trans (hb3.out.mono BB.out.size))
        clear x0 x1 x2 x3 x4 x5 x6 x7 x8 x9 x10 y0 y1 y2 y3 y4 l0 l1
        obtain ⟨x0, x1, x2, x3, x4, x5, x6, x7, x8, x9, x10, l0⟩ := cl11 H0.out
        obtain ⟨y0, y1, y2, y3, y4, l1⟩ := cl5 H1.out
        clear hb2 hj hb3
        refine J_mobs [1, 2, 4] _ _ _ _ (by kernel_rfl) ?_
        simp only [List.map_cons, List.map_nil, List.getElem?_toArray, List.getElem?_cons_succ, List.getElem?_cons_zero, Option.getD_some, List.size_toArray, List.length_cons, List.length_nil, Nat.reduceAdd, Nat.reduceSub]
        repeat (go_big_quiet_step (fail))
        refine wpQuiet_nil ?_
        refine J_loud1 3 _ rfl (by kernel_rfl) ?_
        simp only [List.getElem_toArray, List.getElem_cons_succ, List.getElem_cons_zero]
        intro wj hj
        go_wp2_with fail
        refine (def_c i _ wj (HV.out.ext (Ext.below (BB.out.trans (hj.mono BB.out.size))))).mono ?_
        rintro e w3 ⟨rfl, hb2⟩
        go_wp2_with fail
        refine ⟨KeepX.below hb2, ?_⟩
        have hb3 := Lib.hid (hj.trans (hb2.mono hj.size))
        have H0 := Lib.hid ((hb3.out.block w.heap.size l0).trans H0.out)
        have H1 := Lib.hid ((hb3.out.block (w.heap.size + 1) l1).trans H1.out)
        have BB := Lib.hid (BB.out.trans (hb3.out.mono BB.out.size))
        clear x0 x1 x2 x3 x4 x5 x6 x7 x8 x9 x10 y0 y1 y2 y3 y4 l0 l1
        obtain ⟨x0, x1, x2, x3, x4, x5, x6, x7, x8, x9, x10, l0⟩ := cl11 H0.out
        obtain ⟨y0, y1, y2, y3, y4, l1⟩ := cl5 H1.out
        clear hb2 hj hb3
        refine J_loud1 5 _ rfl (by kernel_rfl) ?_
        simp only [List.getElem_toArray, List.getElem_cons_succ, List.getElem_cons_zero]
        intro wj hj
        go_wp2_with fail
        refine (rdef_c i _ wj (HV.out.ext (Ext.below (BB.out.trans (hj.mono BB.out.size))))).mono ?_
        rintro e w4 ⟨rfl, hb2⟩
        go_wp2_with fail
        refine ⟨KeepX.below hb2, ?_⟩
        have hb3 := Lib.hid (hj.trans (hb2.mono hj.size))
        have H0 := Lib.hid ((hb3.out.block w.heap.size l0).trans H0.out)
        have H1 := Lib.hid ((hb3.out.block (w.heap.size + 1) l1).trans H1.out)
        have BB := Lib.hid (BB.out.trans (hb3.out.mono BB.out.size))
        clear x0 x1 x2 x3 x4 x5 x6 x7 x8 x9 x10 y0 y1 y2 y3 y4 l0 l1
        obtain ⟨x0, x1, x2, x3, x4, x5, x6, x7, x8, x9, x10, l0⟩ := cl11 H0.out
        obtain ⟨y0, y1, y2, y3, y4, l1⟩ := cl5 H1.out
        clear hb2 hj hb3
        refine J_mobs [6, 7, 8, 9, 11] _ _ _ _ (by kernel_rfl) ?_
        simp only [List.map_cons, List.map_nil, List.getElem?_toArray, List.getElem?_cons_succ, List.getElem?_cons_zero, Option.getD_some, List.size_toArray, List.length_cons, List.length_nil, Nat.reduceAdd, Nat.reduceSub]
        repeat (go_big_quiet_step (fail))
        refine wpQuiet_nil ?_
        refine J_loud1 10 _ rfl (by kernel_rfl) ?_
        simp only [List.getElem_toArray, List.getElem_cons_succ, List.getElem_cons_zero]
        intro wj hj
        go_wp2_with fail
        refine (uses_c i _ wj (HV.out.ext (Ext.below (BB.out.trans (hj.mono BB.out.size)))) (by have := HL.out; omega)).mono ?_
        rintro e w5 ⟨vA, rfl, hoA, hb2⟩
        obtain ⟨aA, cA, rfl, -⟩ := RdI.sl hoA.rd
        have HOA := Lib.hid hoA.rd
        clear hoA
        go_wp2_with fail
        refine ⟨KeepX.below hb2, ?_⟩
        have hb3 := Lib.hid (hj.trans (hb2.mono hj.size))
        have H0 := Lib.hid ((hb3.out.block w.heap.size l0).trans H0.out)
        have H1 := Lib.hid ((hb3.out.block (w.heap.size + 1) l1).trans H1.out)
        have BB := Lib.hid (BB.out.trans (hb3.out.mono BB.out.size))
        clear x0 x1 x2 x3 x4 x5 x6 x7 x8 x9 x10 y0 y1 y2 y3 y4 l0 l1
        obtain ⟨x0, x1, x2, x3, x4, x5, x6, x7, x8, x9, x10, l0⟩ := cl11 H0.out
        obtain ⟨y0, y1, y2, y3, y4, l1⟩ := cl5 H1.out
        clear hb2 hj hb3
        refine J_loud1 12 _ rfl (by kernel_rfl) ?_
        simp only [List.getElem_toArray, List.getElem_cons_succ, List.getElem_cons_zero]
        intro wj hj
        go_wp2_with fail
        refine (ruses_c i _ wj (HV.out.ext (Ext.below (BB.out.trans (hj.mono BB.out.size)))) (by have := HL.out; omega)).mono ?_
        rintro e w6 ⟨vB, rfl, hoB, hb2⟩
        obtain ⟨aB, cB, rfl, -⟩ := RdI.sl hoB.rd
        have HOB := Lib.hid hoB.rd
        clear hoB
        go_wp2_with fail
        refine ⟨KeepX.below hb2, ?_⟩
        have hb3 := Lib.hid (hj.trans (hb2.mono hj.size))
        have H0 := Lib.hid ((hb3.out.block w.heap.size l0).trans H0.out)
        have H1 := Lib.hid ((hb3.out.block (w.heap.size + 1) l1).trans H1.out)
        have BB := Lib.hid (BB.out.trans (hb3.out.mono BB.out.size))
        clear x0 x1 x2 x3 x4 x5 x6 x7 x8 x9 x10 y0 y1 y2 y3 y4 l0 l1
        obtain ⟨x0, x1, x2, x3, x4, x5, x6, x7, x8, x9, x10, l0⟩ := cl11 H0.out
        obtain ⟨y0, y1, y2, y3, y4, l1⟩ := cl5 H1.out
        have HOA := Lib.hid (HOA.out.ext (Ext.below hb3.out))
        clear hb2 hj hb3
        refine J_loud1 13 _ rfl (by kernel_rfl) ?_
        simp only [List.getElem_toArray, List.getElem_cons_succ, List.getElem_cons_zero]
        intro wj hj
        have hsm := same13_c _ _ _ _ wj (HOA.out.ext (Ext.below hj)) (HOB.out.ext (Ext.below hj))
        rw [decide_eq_true rfl] at hsm
        go_wp2_with fail
        refine (hsm).mono ?_
        clear hsm
        rintro e w7 ⟨rfl, hb2⟩
        go_wp2_with fail
        refine ⟨KeepX.below hb2, ?_⟩
        have hb3 := Lib.hid (hj.trans (hb2.mono hj.size))
        have H0 := Lib.hid ((hb3.out.block w.heap.size l0).trans H0.out)
        have H1 := Lib.hid ((hb3.out.block (w.heap.size + 1) l1).trans H1.out)
        have BB := Lib.hid (BB.out.trans (hb3.out.mono BB.out.size))
        clear x0 x1 x2 x3 x4 x5 x6 x7 x8 x9 x10 y0 y1 y2 y3 y4 l0 l1
        obtain ⟨x0, x1, x2, x3, x4, x5, x6, x7, x8, x9, x10, l0⟩ := cl11 H0.out
        obtain ⟨y0, y1, y2, y3, y4, l1⟩ := cl5 H1.out
        clear hb2 hj hb3 HOA HOB
        refine J_mobs [14, 15, 16, 18] _ _ _ _ (by kernel_rfl) ?_
        simp only [List.map_cons, List.map_nil, List.getElem?_toArray, List.getElem?_cons_succ, List.getElem?_cons_zero, Option.getD_some, List.size_toArray, List.length_cons, List.length_nil, Nat.reduceAdd, Nat.reduceSub]
        repeat (go_big_quiet_step (fail))
        refine wpQuiet_nil ?_
        refine J_loud1 17 _ rfl (by kernel_rfl) ?_
        simp only [List.getElem_toArray, List.getElem_cons_succ, List.getElem_cons_zero]
        intro wj hj
        go_wp2_with fail
        refine (pure_c i _ wj (HV.out.ext (Ext.below (BB.out.trans (hj.mono BB.out.size))))).mono ?_
        rintro e w8 ⟨rfl, hb2⟩
        rw [hpi.out]
        go_wp2_with fail
        refine ⟨KeepX.below hb2, ?_⟩
        have hb3 := Lib.hid (hj.trans (hb2.mono hj.size))
        have H0 := Lib.hid ((hb3.out.block w.heap.size l0).trans H0.out)
        have H1 := Lib.hid ((hb3.out.block (w.heap.size + 1) l1).trans H1.out)
        have BB := Lib.hid (BB.out.trans (hb3.out.mono BB.out.size))
        clear x0 x1 x2 x3 x4 x5 x6 x7 x8 x9 x10 y0 y1 y2 y3 y4 l0 l1
        obtain ⟨x0, x1, x2, x3, x4, x5, x6, x7, x8, x9, x10, l0⟩ := cl11 H0.out
        obtain ⟨y0, y1, y2, y3, y4, l1⟩ := cl5 H1.out
        clear hb2 hj hb3
        refine J_mobs [19, 20, 21, 22, 24] _ _ _ _ (by kernel_rfl) ?_
        simp only [List.map_cons, List.map_nil, List.getElem?_toArray, List.getElem?_cons_succ, List.getElem?_cons_zero, Option.getD_some, List.size_toArray, List.length_cons, List.length_nil, Nat.reduceAdd, Nat.reduceSub]
        repeat (go_big_quiet_step (fail))
        refine wpQuiet_nil ?_
        refine J_loud1 23 _ rfl (by kernel_rfl) ?_
        simp only [List.getElem_toArray, List.getElem_cons_succ, List.getElem_cons_zero]
        intro wj hj
        go_wp2_with fail
        refine (outs_c b _ wj (HVB.out.ext (Ext.below (BB.out.trans (hj.mono BB.out.size))))).mono ?_
        rintro e w9 ⟨vA, rfl, hoA, hb2⟩
        obtain ⟨aA, cA, rfl, -⟩ := RdI.sl hoA.rd
        have HOA := Lib.hid hoA.rd
        clear hoA
        go_wp2_with fail
        refine ⟨KeepX.below hb2, ?_⟩
        have hb3 := Lib.hid (hj.trans (hb2.mono hj.size))
        have H0 := Lib.hid ((hb3.out.block w.heap.size l0).trans H0.out)
        have H1 := Lib.hid ((hb3.out.block (w.heap.size + 1) l1).trans H1.out)
        have BB := Lib.hid (BB.out.trans (hb3.out.mono BB.out.size))
        clear x0 x1 x2 x3 x4 x5 x6 x7 x8 x9 x10 y0 y1 y2 y3 y4 l0 l1
        obtain ⟨x0, x1, x2, x3, x4, x5, x6, x7, x8, x9, x10, l0⟩ := cl11 H0.out
        obtain ⟨y0, y1, y2, y3, y4, l1⟩ := cl5 H1.out
        clear hb2 hj hb3
        refine J_loud1 25 _ rfl (by kernel_rfl) ?_
        simp only [List.getElem_toArray, List.getElem_cons_succ, List.getElem_cons_zero]
        intro wj hj
        go_wp2_with fail
        refine (routs_c b _ wj (HVB.out.ext (Ext.below (BB.out.trans (hj.mono BB.out.size))))).mono ?_
        rintro e w10 ⟨vB, rfl, hoB, hb2⟩
        obtain ⟨aB, cB, rfl, -⟩ := RdI.sl hoB.rd
        have HOB := Lib.hid hoB.rd
        clear hoB
        go_wp2_with fail
        refine ⟨KeepX.below hb2, ?_⟩
        have hb3 := Lib.hid (hj.trans (hb2.mono hj.size))
        have H0 := Lib.hid ((hb3.out.block w.heap.size l0).trans H0.out)
        have H1 := Lib.hid ((hb3.out.block (w.heap.size + 1) l1).trans H1.out)
        have BB := Lib.hid (BB.out.trans (hb3.out.mono BB.out.size))
        clear x0 x1 x2 x3 x4 x5 x6 x7 x8 x9 x10 y0 y1 y2 y3 y4 l0 l1
        obtain ⟨x0, x1, x2, x3, x4, x5, x6, x7, x8, x9, x10, l0⟩ := cl11 H0.out
        obtain ⟨y0, y1, y2, y3, y4, l1⟩ := cl5 H1.out
        have HOA := Lib.hid (HOA.out.ext (Ext.below hb3.out))
        clear hb2 hj hb3
        refine J_loud1 26 _ rfl (by kernel_rfl) ?_
        simp only [List.getElem_toArray, List.getElem_cons_succ, List.getElem_cons_zero]
        intro wj hj
        have hsm := same13_c _ _ _ _ wj (HOA.out.ext (Ext.below hj)) (HOB.out.ext (Ext.below hj))
        rw [decide_eq_true rfl] at hsm
        go_wp2_with fail
        refine (hsm).mono ?_
        clear hsm
        rintro e w11 ⟨rfl, hb2⟩
        go_wp2_with fail
        refine ⟨KeepX.below hb2, ?_⟩
        have hb3 := Lib.hid (hj.trans (hb2.mono hj.size))
        have H0 := Lib.hid ((hb3.out.block w.heap.size l0).trans H0.out)
        have H1 := Lib.hid ((hb3.out.block (w.heap.size + 1) l1).trans H1.out)
        have BB := Lib.hid (BB.out.trans (hb3.out.mono BB.out.size))
        clear x0 x1 x2 x3 x4 x5 x6 x7 x8 x9 x10 y0 y1 y2 y3 y4 l0 l1
        obtain ⟨x0, x1, x2, x3, x4, x5, x6, x7, x8, x9, x10, l0⟩ := cl11 H0.out
        obtain ⟨y0, y1, y2, y3, y4, l1⟩ := cl5 H1.out
        clear hb2 hj hb3 HOA HOB
        refine J_mobs [27, 28] _ _ _ _ (by kernel_rfl) ?_
        simp only [List.map_cons, List.map_nil, List.getElem?_toArray, List.getElem?_cons_succ, List.getElem?_cons_zero, Option.getD_some, List.size_toArray, List.length_cons, List.length_nil, Nat.reduceAdd, Nat.reduceSub]
        repeat (go_big_quiet_step (fail))
        refine wpQuiet_nil ?_
        refine J_done (by kernel_rfl) (fun wk hk => ?_) _
        have BB := Lib.hid (BB.out.trans (hk.mono BB.out.size))
        clear hk
        go_wp2_with fail
        go_ret
        exact ⟨rfl, BB.out⟩
    · have g1 : decide (1 ≤ i.op) = false := decide_eq_false h1
      have hpi : Hid (pureI i = false) := by show _ = _; rw [HP.out, g1]; rfl
      clear HP
      go_wp2_with fail
      refine wp_region_junk (fun _ => True) (by kernel_rfl) ?_
      refine J_loud1 0 _ rfl (by kernel_rfl) ?_
      simp only [List.getElem_toArray, List.getElem_cons_succ, List.getElem_cons_zero]
      intro wj hj
      go_wp2_with fail
      refine (HA.out wj (BB.out.trans (hj.mono BB.out.size))).mono ?_
      rintro e w2 ⟨rfl, hb2⟩
      go_wp2_with fail
      refine ⟨KeepX.below hb2, ?_⟩
      have hb3 := Lib.hid (hj.trans (hb2.mono hj.size))
      have H0 := Lib.hid ((hb3.out.block w.heap.size l0).trans H0.out)
      have H1 := Lib.hid ((hb3.out.block (w.heap.size + 1) l1).trans H1.out)
      have BB := Lib.hid (BB.out.trans (hb3.out.mono BB.out.size))
      clear x0 x1 x2 x3 x4 x5 x6 x7 x8 x9 x10 y0 y1 y2 y3 y4 l0 l1
      obtain ⟨x0, x1, x2, x3, x4, x5, x6, x7, x8, x9, x10, l0⟩ := cl11 H0.out
      obtain ⟨y0, y1, y2, y3, y4, l1⟩ := cl5 H1.out
      clear hb2 hj hb3
      refine J_mobs [1, 2, 4] _ _ _ _ (by kernel_rfl) ?_
      simp only [List.map_cons, List.map_nil, List.getElem?_toArray, List.getElem?_cons_succ, List.getElem?_cons_zero, Option.getD_some, List.size_toArray, List.length_cons, List.length_nil, Nat.reduceAdd, Nat.reduceSub]
      repeat (go_big_quiet_step (fail))
      refine wpQuiet_nil ?_
      refine J_loud1 3 _ rfl (by kernel_rfl) ?_
      simp only [List.getElem_toArray, List.getElem_cons_succ, List.getElem_cons_zero]
      intro wj hj
      go_wp2_with fail
      refine (def_c i _ wj (HV.out.ext (Ext.below (BB.out.trans (hj.mono BB.out.size))))).mono ?_
      rintro e w3 ⟨rfl, hb2⟩
      go_wp2_with fail
      refine ⟨KeepX.below hb2, ?_⟩
      have hb3 := Lib.hid (hj.trans (hb2.mono hj.size))
      have H0 := Lib.hid ((hb3.out.block w.heap.size l0).trans H0.out)
      have H1 := Lib.hid ((hb3.out.block (w.heap.size + 1) l1).trans H1.out)
      have BB := Lib.hid (BB.out.trans (hb3.out.mono BB.out.size))
      clear x0 x1 x2 x3 x4 x5 x6 x7 x8 x9 x10 y0 y1 y2 y3 y4 l0 l1
      obtain ⟨x0, x1, x2, x3, x4, x5, x6, x7, x8, x9, x10, l0⟩ := cl11 H0.out
      obtain ⟨y0, y1, y2, y3, y4, l1⟩ := cl5 H1.out
      clear hb2 hj hb3
      refine J_loud1 5 _ rfl (by kernel_rfl) ?_
      simp only [List.getElem_toArray, List.getElem_cons_succ, List.getElem_cons_zero]
      intro wj hj
      go_wp2_with fail
      refine (rdef_c i _ wj (HV.out.ext (Ext.below (BB.out.trans (hj.mono BB.out.size))))).mono ?_
      rintro e w4 ⟨rfl, hb2⟩
      go_wp2_with fail
      refine ⟨KeepX.below hb2, ?_⟩
      have hb3 := Lib.hid (hj.trans (hb2.mono hj.size))
      have H0 := Lib.hid ((hb3.out.block w.heap.size l0).trans H0.out)
      have H1 := Lib.hid ((hb3.out.block (w.heap.size + 1) l1).trans H1.out)
      have BB := Lib.hid (BB.out.trans (hb3.out.mono BB.out.size))
      clear x0 x1 x2 x3 x4 x5 x6 x7 x8 x9 x10 y0 y1 y2 y3 y4 l0 l1
      obtain ⟨x0, x1, x2, x3, x4, x5, x6, x7, x8, x9, x10, l0⟩ := cl11 H0.out
      obtain ⟨y0, y1, y2, y3, y4, l1⟩ := cl5 H1.out
      clear hb2 hj hb3
      refine J_mobs [6, 7, 8, 9, 11] _ _ _ _ (by kernel_rfl) ?_
      simp only [List.map_cons, List.map_nil, List.getElem?_toArray, List.getElem?_cons_succ, List.getElem?_cons_zero, Option.getD_some, List.size_toArray, List.length_cons, List.length_nil, Nat.reduceAdd, Nat.reduceSub]
      repeat (go_big_quiet_step (fail))
      refine wpQuiet_nil ?_
      refine J_loud1 10 _ rfl (by kernel_rfl) ?_
      simp only [List.getElem_toArray, List.getElem_cons_succ, List.getElem_cons_zero]
      intro wj hj
      go_wp2_with fail
      refine (uses_c i _ wj (HV.out.ext (Ext.below (BB.out.trans (hj.mono BB.out.size)))) (by have := HL.out; omega)).mono ?_
      rintro e w5 ⟨vA, rfl, hoA, hb2⟩
      obtain ⟨aA, cA, rfl, -⟩ := RdI.sl hoA.rd
      have HOA := Lib.hid hoA.rd
      clear hoA
      go_wp2_with fail
      refine ⟨KeepX.below hb2, ?_⟩
      have hb3 := Lib.hid (hj.trans (hb2.mono hj.size))
      have H0 := Lib.hid ((hb3.out.block w.heap.size l0).trans H0.out)
      have H1 := Lib.hid ((hb3.out.block (w.heap.size + 1) l1).trans H1.out)
      have BB := Lib.hid (BB.out.trans (hb3.out.mono BB.out.size))
      clear x0 x1 x2 x3 x4 x5 x6 x7 x8 x9 x10 y0 y1 y2 y3 y4 l0 l1
      obtain ⟨x0, x1, x2, x3, x4, x5, x6, x7, x8, x9, x10, l0⟩ := cl11 H0.out
      obtain ⟨y0, y1, y2, y3, y4, l1⟩ := cl5 H1.out
      clear hb2 hj hb3
      refine J_loud1 12 _ rfl (by kernel_rfl) ?_
      simp only [List.getElem_toArray, List.getElem_cons_succ, List.getElem_cons_zero]
      intro wj hj
      go_wp2_with fail
      refine (ruses_c i _ wj (HV.out.ext (Ext.below (BB.out.trans (hj.mono BB.out.size)))) (by have := HL.out; omega)).mono ?_
      rintro e w6 ⟨vB, rfl, hoB, hb2⟩
      obtain ⟨aB, cB, rfl, -⟩ := RdI.sl hoB.rd
      have HOB := Lib.hid hoB.rd
      clear hoB
      go_wp2_with fail
      refine ⟨KeepX.below hb2, ?_⟩
      have hb3 := Lib.hid (hj.trans (hb2.mono hj.size))
      have H0 := Lib.hid ((hb3.out.block w.heap.size l0).trans H0.out)
      have H1 := Lib.hid ((hb3.out.block (w.heap.size + 1) l1).trans H1.out)
      have BB := Lib.hid (BB.out.trans (hb3.out.mono BB.out.size))
      clear x0 x1 x2 x3 x4 x5 x6 x7 x8 x9 x10 y0 y1 y2 y3 y4 l0 l1
      obtain ⟨x0, x1, x2, x3, x4, x5, x6, x7, x8, x9, x10, l0⟩ := cl11 H0.out
      obtain ⟨y0, y1, y2, y3, y4, l1⟩ := cl5 H1.out
      have HOA := Lib.hid (HOA.out.ext (Ext.below hb3.out))
      clear hb2 hj hb3
      refine J_loud1 13 _ rfl (by kernel_rfl) ?_
      simp only [List.getElem_toArray, List.getElem_cons_succ, List.getElem_cons_zero]
      intro wj hj
      have hsm := same13_c _ _ _ _ wj (HOA.out.ext (Ext.below hj)) (HOB.out.ext (Ext.below hj))
      rw [decide_eq_true rfl] at hsm
      go_wp2_with fail
      refine (hsm).mono ?_
      clear hsm
      rintro e w7 ⟨rfl, hb2⟩
      go_wp2_with fail
      refine ⟨KeepX.below hb2, ?_⟩
      have hb3 := Lib.hid (hj.trans (hb2.mono hj.size))
      have H0 := Lib.hid ((hb3.out.block w.heap.size l0).trans H0.out)
      have H1 := Lib.hid ((hb3.out.block (w.heap.size + 1) l1).trans H1.out)
      have BB := Lib.hid (BB.out.trans (hb3.out.mono BB.out.size))
      clear x0 x1 x2 x3 x4 x5 x6 x7 x8 x9 x10 y0 y1 y2 y3 y4 l0 l1
      obtain ⟨x0, x1, x2, x3, x4, x5, x6, x7, x8, x9, x10, l0⟩ := cl11 H0.out
      obtain ⟨y0, y1, y2, y3, y4, l1⟩ := cl5 H1.out
      clear hb2 hj hb3 HOA HOB
      refine J_mobs [14, 15, 16, 18] _ _ _ _ (by kernel_rfl) ?_
      simp only [List.map_cons, List.map_nil, List.getElem?_toArray, List.getElem?_cons_succ, List.getElem?_cons_zero, Option.getD_some, List.size_toArray, List.length_cons, List.length_nil, Nat.reduceAdd, Nat.reduceSub]
      repeat (go_big_quiet_step (fail))
      refine wpQuiet_nil ?_
      refine J_loud1 17 _ rfl (by kernel_rfl) ?_
      simp only [List.getElem_toArray, List.getElem_cons_succ, List.getElem_cons_zero]
      intro wj hj
      go_wp2_with fail
      refine (pure_c i _ wj (HV.out.ext (Ext.below (BB.out.trans (hj.mono BB.out.size))))).mono ?_
      rintro e w8 ⟨rfl, hb2⟩
      rw [hpi.out]
      go_wp2_with fail
      refine ⟨KeepX.below hb2, ?_⟩
      have hb3 := Lib.hid (hj.trans (hb2.mono hj.size))
      have H0 := Lib.hid ((hb3.out.block w.heap.size l0).trans H0.out)
      have H1 := Lib.hid ((hb3.out.block (w.heap.size + 1) l1).trans H1.out)
      have BB := Lib.hid (BB.out.trans (hb3.out.mono BB.out.size))
      clear x0 x1 x2 x3 x4 x5 x6 x7 x8 x9 x10 y0 y1 y2 y3 y4 l0 l1
      obtain ⟨x0, x1, x2, x3, x4, x5, x6, x7, x8, x9, x10, l0⟩ := cl11 H0.out
      obtain ⟨y0, y1, y2, y3, y4, l1⟩ := cl5 H1.out
      clear hb2 hj hb3
      refine J_mobs [19, 20, 21, 22, 24] _ _ _ _ (by kernel_rfl) ?_
      simp only [List.map_cons, List.map_nil, List.getElem?_toArray, List.getElem?_cons_succ, List.getElem?_cons_zero, Option.getD_some, List.size_toArray, List.length_cons, List.length_nil, Nat.reduceAdd, Nat.reduceSub]
      repeat (go_big_quiet_step (fail))
      refine wpQuiet_nil ?_
      refine J_loud1 23 _ rfl (by kernel_rfl) ?_
      simp only [List.getElem_toArray, List.getElem_cons_succ, List.getElem_cons_zero]
      intro wj hj
      go_wp2_with fail
      refine (outs_c b _ wj (HVB.out.ext (Ext.below (BB.out.trans (hj.mono BB.out.size))))).mono ?_
      rintro e w9 ⟨vA, rfl, hoA, hb2⟩
      obtain ⟨aA, cA, rfl, -⟩ := RdI.sl hoA.rd
      have HOA := Lib.hid hoA.rd
      clear hoA
      go_wp2_with fail
      refine ⟨KeepX.below hb2, ?_⟩
      have hb3 := Lib.hid (hj.trans (hb2.mono hj.size))
      have H0 := Lib.hid ((hb3.out.block w.heap.size l0).trans H0.out)
      have H1 := Lib.hid ((hb3.out.block (w.heap.size + 1) l1).trans H1.out)
      have BB := Lib.hid (BB.out.trans (hb3.out.mono BB.out.size))
      clear x0 x1 x2 x3 x4 x5 x6 x7 x8 x9 x10 y0 y1 y2 y3 y4 l0 l1
      obtain ⟨x0, x1, x2, x3, x4, x5, x6, x7, x8, x9, x10, l0⟩ := cl11 H0.out
      obtain ⟨y0, y1, y2, y3, y4, l1⟩ := cl5 H1.out
      clear hb2 hj hb3
      refine J_loud1 25 _ rfl (by kernel_rfl) ?_
      simp only [List.getElem_toArray, List.getElem_cons_succ, List.getElem_cons_zero]
      intro wj hj
      go_wp2_with fail
      refine (routs_c b _ wj (HVB.out.ext (Ext.below (BB.out.trans (hj.mono BB.out.size))))).mono ?_
      rintro e w10 ⟨vB, rfl, hoB, hb2⟩
      obtain ⟨aB, cB, rfl, -⟩ := RdI.sl hoB.rd
      have HOB := Lib.hid hoB.rd
      clear hoB
      go_wp2_with fail
      refine ⟨KeepX.below hb2, ?_⟩
      have hb3 := Lib.hid (hj.trans (hb2.mono hj.size))
      have H0 := Lib.hid ((hb3.out.block w.heap.size l0).trans H0.out)
      have H1 := Lib.hid ((hb3.out.block (w.heap.size + 1) l1).trans H1.out)
      have BB := Lib.hid (BB.out.trans (hb3.out.mono BB.out.size))
      clear x0 x1 x2 x3 x4 x5 x6 x7 x8 x9 x10 y0 y1 y2 y3 y4 l0 l1
      obtain ⟨x0, x1, x2, x3, x4, x5, x6, x7, x8, x9, x10, l0⟩ := cl11 H0.out
      obtain ⟨y0, y1, y2, y3, y4, l1⟩ := cl5 H1.out
      have HOA := Lib.hid (HOA.out.ext (Ext.below hb3.out))
      clear hb2 hj hb3
      refine J_loud1 26 _ rfl (by kernel_rfl) ?_
      simp only [List.getElem_toArray, List.getElem_cons_succ, List.getElem_cons_zero]
      intro wj hj
      have hsm := same13_c _ _ _ _ wj (HOA.out.ext (Ext.below hj)) (HOB.out.ext (Ext.below hj))
      rw [decide_eq_true rfl] at hsm
      go_wp2_with fail
      refine (hsm).mono ?_
      clear hsm
      rintro e w11 ⟨rfl, hb2⟩
      go_wp2_with fail
      refine ⟨KeepX.below hb2, ?_⟩
      have hb3 := Lib.hid (hj.trans (hb2.mono hj.size))
      have H0 := Lib.hid ((hb3.out.block w.heap.size l0).trans H0.out)
      have H1 := Lib.hid ((hb3.out.block (w.heap.size + 1) l1).trans H1.out)
      have BB := Lib.hid (BB.out.trans (hb3.out.mono BB.out.size))
      clear x0 x1 x2 x3 x4 x5 x6 x7 x8 x9 x10 y0 y1 y2 y3 y4 l0 l1
      obtain ⟨x0, x1, x2, x3, x4, x5, x6, x7, x8, x9, x10, l0⟩ := cl11 H0.out
      obtain ⟨y0, y1, y2, y3, y4, l1⟩ := cl5 H1.out
      clear hb2 hj hb3 HOA HOB
      refine J_mobs [27, 28] _ _ _ _ (by kernel_rfl) ?_
      simp only [List.map_cons, List.map_nil, List.getElem?_toArray, List.getElem?_cons_succ, List.getElem?_cons_zero, Option.getD_some, List.size_toArray, List.length_cons, List.length_nil, Nat.reduceAdd, Nat.reduceSub]
      repeat (go_big_quiet_step (fail))
      refine wpQuiet_nil ?_
      refine J_done (by kernel_rfl) (fun wk hk => ?_) _
      have BB := Lib.hid (BB.out.trans (hk.mono BB.out.size))
      clear hk
      go_wp2_with fail
      go_ret
      exact ⟨rfl, BB.out⟩
end Go.Proofs.YtnnhobbabcfogaaDoor
