/-
 Contract: the document's idle stores.
-/
import Derived.Test.YtnnhobbabcfogaaDoorZDeadDrops23
import Derived.Test.YtnnhobbabcfogaaDoorZDeadDrops19
set_option linter.all false
namespace Go.Proofs.YtnnhobbabcfogaaDoor
open Go.ChangeShapes Go.WideShapes Go.ChangeAt Go.RowKit
set_option maxHeartbeats 4000000
set_option maxRecDepth 100000
set_option linter.unusedVariables false

theorem rdef_v (i : In) (sa : Option Addr) (n sc : Nat) (w : World) :
  Calls Tryd.prog 20 #[aggI i (.slice sa n sc)] w fun e w' => e = .returned (.int .i64 (defI i)) ∧ Below w.heap.size w w' := by
 unfold aggI
 by_cases h : i.op < 1 ∨ 12 < i.op
 ·have H := Lib.hid (defI_0 i h)
  go_enter Tryd.func20, Tryd.ntmps20
  go_wp2_with (go_at_call 48; refine (fields_0 _ _ h).mono ?_; rintro e w1 ⟨rfl, hb⟩)
  go_ret
  exact ⟨ret_i H.out.symm, (below_alloc _ _).trans (hb.mono (by simp))⟩
 ·have h1 : 1 ≤ i.op := by omega
  have h2 : i.op ≤ 12 := by omega
  cases hd : fld i.op 0
  ·have H := Lib.hid (defI_n i h1 h2 hd)
   go_enter Tryd.func20, Tryd.ntmps20
   go_wp2_with (go_at_call 48; refine (fields_c _ _ h1 h2).mono ?_; rintro e w1 ⟨g, rfl, hg, ha, hb⟩; have c0 := ha.c0)
   go_ret
   exact ⟨ret_i H.out.symm, (below_alloc _ _).trans (hb.mono (by simp))⟩
  ·have H := Lib.hid (defI_y i h1 h2 hd)
   go_enter Tryd.func20, Tryd.ntmps20
   go_wp2_with (go_at_call 48; refine (fields_c _ _ h1 h2).mono ?_; rintro e w1 ⟨g, rfl, hg, ha, hb⟩; have c0 := ha.c0; have bc := (hb.cell (p := ⟨w.heap.size, 1, none⟩) (by simp)).trans (cell_of_heap (heap_alloc_new w _) 1))
   go_ret
   exact ⟨ret_i H.out.symm, (below_alloc _ _).trans (hb.mono (by simp))⟩
theorem rstore_c (p : Pr) (V : Value) (n k : Nat) (w : World) (hP : PrV w V p) (hlen : p.blks.length ≤ 1000) (hin : ∀ j, j < p.blks.length → (p.blks.getD j default).ins.length ≤ 1000) (hn : n < p.blks.length) (hk : k < (p.blks.getD n default).ins.length) :
  Calls Tryd.prog 60 #[V, .int .i64 (n : Int), .int .i64 (k : Int)] w fun e w' => e = .returned (.bool (storeI (p.blks.getD n default).ins k)) ∧ Below w.heap.size w w' := by
 have hk1 := hin n hn
 clear hin
 obtain ⟨nm, vo, vb, rfl, -, hvb⟩ := hP
 have hvb' := hvb
 obtain ⟨a, c, rfl, hc1, hc2, -⟩ := hvb'
 unfold maxLen at hc2
 obtain ⟨bb, ob, vi, rfl, hvi, c0, -⟩ := (RdBks.at hvb).2 n hn
 have hvi' := hvi
 obtain ⟨ai, ci, rfl, hi1, hi2, -⟩ := hvi'
 unfold maxLen at hi2
 have hbb := World.block_lt_of_cell? w _ c0
 generalize (p.blks.getD n default).ins = L at *
 obtain ⟨bi, oi, vx, rfl, hbw, hva, d0, d1, d2, d3, d4, d5, d6, d7, d8, d9, d10⟩ := (RdIns.at hvi).2 k hk
 obtain ⟨sa, sc, rfl, -⟩ := hva
 have HV := Lib.hid hvi
 clear hvb hvi
 have HSI : Hid (storeI L k = ((L.getD k default).op == 6 && (!(L.getD k default).log && hiddenF (L.getD k default) (L.drop (k + 1))))) := rfl
 generalize L.getD k default = y at *
 have HB : Hid (∀ o o' : Obj, Below w.heap.size w ((w.alloc o).alloc o')) := fun o o' => (below_alloc w o).alloc (by simp) o'
 go_enter Tryd.func60, Tryd.ntmps60
 cases h1 : (y.op == 6)
 ·have h1n : (y.op != 6) = true := by simp only [bne, h1]; rfl
  rw [h1] at HSI
  have BB := HB.out
  go_wp2_with fail
  go_ret
  exact ⟨ret_b HSI.out.symm, BB _ _⟩
 ·have h1n : (y.op != 6) = false := by simp only [bne, h1]; rfl
  cases h2 : y.log
  ·rw [h1, h2] at HSI
   go_wp2_with fail
   obtain ⟨W1, hW1⟩ : ∃ W1, W1 = (w.alloc (.cells #[.string nm, .bool p.void, .int .i64 p.params, .int .i64 p.regs, vo, .slice (some ⟨bb, ob, none⟩) p.blks.length c] 37)).alloc (.cells #[.int .i64 y.op, .int .i64 y.d, .int .i64 y.a, .int .i64 y.b, .int .i64 y.fn, .int .i64 y.obj, .int .i64 y.off, .int .i64 y.size, .int .u32 y.num, .slice sa y.args.length sc, .bool false] 45) := ⟨_, rfl⟩
   have H1 : Hid (W1.heap[w.heap.size + 1]? = some (.cells #[.int .i64 y.op, .int .i64 y.d, .int .i64 y.a, .int .i64 y.b, .int .i64 y.fn, .int .i64 y.obj, .int .i64 y.off, .int .i64 y.size, .int .u32 y.num, .slice sa y.args.length sc, .bool false] 45)) := by
    rw [hW1]
    have := heap_alloc_new (w.alloc (.cells #[.string nm, .bool p.void, .int .i64 p.params, .int .i64 p.regs, vo, .slice (some ⟨bb, ob, none⟩) p.blks.length c] 37)) (.cells #[.int .i64 y.op, .int .i64 y.d, .int .i64 y.a, .int .i64 y.b, .int .i64 y.fn, .int .i64 y.obj, .int .i64 y.off, .int .i64 y.size, .int .u32 y.num, .slice sa y.args.length sc, .bool false] 45)
    rwa [World.size_alloc] at this
   have B0 : Hid (Below w.heap.size w W1) := by rw [hW1]; exact HB.out _ _
   rw [← hW1]
   clear hW1
   clear d0 d1 d2 d3 d4 d5 d6 d7 d8 d9 d10
   have l1a := (Array.getElem?_eq_some_iff.1 H1.out).1
   go_loopw [9] (fun i wr => ∃ j : Nat, k + 1 ≤ j ∧ j ≤ L.length ∧ i = .int .i64 (j : Int) ∧ Hid (Below W1.heap.size W1 wr) ∧ Hid (hiddenF y (L.drop j) = hiddenF y (L.drop (k + 1)))) (fun i _ => L.length - (intOf i).toNat)
   case atStart => exact ⟨k + 1, Nat.le_refl _, hk, by go_num, Below.refl _ _, rfl⟩
   case round =>
    obtain ⟨j, hj0, hj, rfl, hB, hK⟩ := hrel
    by_cases hlt : j < L.length
    ·have hE : Ext w wr := (Ext.below B0.out).trans (Ext.below hB.out)
     obtain ⟨bi, oi, vx, e9, hbw, hva, d0, d1, d2, d3, d4, d5, d6, d7, d8, d9, d10⟩ := (RdIns.at (HV.out.ext hE)).2 j hlt
     obtain ⟨ta, tc, rfl, -⟩ := hva
     cases e9
     have HD := Lib.hid (hiddenF_drop y L hlt)
     have HX : Hid (stopsF y (L.getD j default) = ((L.getD j default).op == 5 || ((L.getD j default).op == 9 || ((L.getD j default).op == 12 || defI (L.getD j default) == y.a)))) := rfl
     have HZ : Hid (hidesF y (L.getD j default) = ((L.getD j default).op == 6 && ((L.getD j default).size == y.size && ((L.getD j default).a == y.a && (L.getD j default).off == y.off)))) := rfl
     generalize L.getD j default = x at *
     have hBz := hB.out.size
     have l1r : w.heap.size + 1 < wr.heap.size := by omega
     obtain ⟨W3, hW3⟩ : ∃ W3, W3 = wr.alloc (.cells #[.int .i64 x.op, .int .i64 x.d, .int .i64 x.a, .int .i64 x.b, .int .i64 x.fn, .int .i64 x.obj, .int .i64 x.off, .int .i64 x.size, .int .u32 x.num, .slice ta x.args.length tc, .bool x.log] 45) := ⟨_, rfl⟩
     have B3 : Hid (Below wr.heap.size wr W3) := by rw [hW3]; exact below_alloc wr _
     have HW3 := Lib.hid hW3
     clear hW3 hE
     obtain ⟨t0, t1, t2, t3, t4, t5, t6, t7, t8, t9, t10, l1⟩ := cl11 ((hB.out.block _ l1a).trans H1.out)
     cases a1 : (x.op == 6)
     ·have hz0 : hidesF y x = false := by rw [HZ.out, a1]; rfl
      rw [hz0] at HD
      clear hz0
      cases b1 : (x.op == 5)
      ·cases b2 : (x.op == 9)
       ·cases b3 : (x.op == 12)
        ·cases b4 : (defI x == y.a)
         ·rw [b1, b2, b3, b4] at HX
          go_wp2_with fail
          rw [← HW3.out]
          refine wp_region_junk (fun _ => True) (by kernel_rfl) ?_
          have H3 : Hid (W3.heap[wr.heap.size]? = some (.cells #[.int .i64 x.op, .int .i64 x.d, .int .i64 x.a, .int .i64 x.b, .int .i64 x.fn, .int .i64 x.obj, .int .i64 x.off, .int .i64 x.size, .int .u32 x.num, .slice ta x.args.length tc, .bool x.log] 45)) := by rw [HW3.out]; exact heap_alloc_new wr _
          clear d0 d1 d2 d3 d4 d5 d6 d7 d8 d9 d10
          clear t0 t1 t2 t3 t4 t5 t6 t7 t8 t9 t10 l1
          clear HW3
          obtain ⟨d0, d1, d2, d3, d4, d5, d6, d7, d8, d9, d10, l3⟩ := cl11 H3.out
          obtain ⟨t0, t1, t2, t3, t4, t5, t6, t7, t8, t9, t10, l1⟩ := cl11 ((B3.out.block _ l1r).trans ((hB.out.block _ l1a).trans H1.out))
          refine J_mobs [0, 1, 2, 3, 4, 5, 6, 7, 8, 9, 10, 11, 12, 13, 14] _ _ _ _ (by kernel_rfl) ?_
          simp only [List.map_cons, List.map_nil, List.getElem?_toArray, List.getElem?_cons_succ, List.getElem?_cons_zero, Option.getD_some, List.size_toArray, List.length_cons, List.length_nil, Nat.reduceAdd, Nat.reduceSub]
          repeat (go_big_quiet_step (fail))
          refine wpQuiet_nil ?_
          refine J_call 15 _ (.int .i64 (defI x)) rfl (by kernel_rfl) rfl ?_ ?_
          all_goals simp only [List.getElem_toArray, List.getElem_cons_succ, List.getElem_cons_zero]
          ·intro wk hk
           have HK := Lib.hid (rdef_v x ta x.args.length tc wk)
           unfold aggI at HK
           go_wp2_with fail
           refine HK.out.mono ?_
           rintro e wz ⟨rfl, hb⟩
           go_wp2_with fail
           exact ⟨rfl, hb⟩
          simp only [Act.put, List.setIfInBounds_toArray, List.set_cons_succ, List.set_cons_zero]
          refine J_mobs [16, 17, 18, 19] _ _ _ _ (by kernel_rfl) ?_
          simp only [List.map_cons, List.map_nil, List.getElem?_toArray, List.getElem?_cons_succ, List.getElem?_cons_zero, Option.getD_some, List.size_toArray, List.length_cons, List.length_nil, Nat.reduceAdd, Nat.reduceSub]
          repeat (go_big_quiet_step (fail))
          refine wpQuiet_nil ?_
          refine J_done (by kernel_rfl) (fun wj hj => ?_) _
          have Bj : Hid (Below wr.heap.size wr wj) := B3.out.trans (hj.mono B3.out.size)
          clear d0 d1 d2 d3 d4 d5 d6 d7 d8 d9 d10
          clear t0 t1 t2 t3 t4 t5 t6 t7 t8 t9 t10 l1
          clear hj H3 l3
          have HD2 : Hid (hiddenF y (L.drop (j + 1)) = hiddenF y (L.drop (k + 1))) := by
           have h := HD.out
           rw [HX.out] at h
           simp only [Bool.false_eq_true, if_false, Bool.or_false] at h
           exact h.symm.trans hK.out
          have hB2 : Hid (Below W1.heap.size W1 wj) := hB.out.trans (Bj.out.mono hB.out.size)
          go_wp2_with fail
          go_roundw
          case rel => exact ⟨j + 1, by omega, by omega, by go_num, hB2, HD2⟩
          case measure => simp [intOf]; omega
         ·rw [b1, b2, b3, b4] at HX
          go_wp2_with fail
          rw [← HW3.out]
          refine wp_region_junk (fun _ => True) (by kernel_rfl) ?_
          have H3 : Hid (W3.heap[wr.heap.size]? = some (.cells #[.int .i64 x.op, .int .i64 x.d, .int .i64 x.a, .int .i64 x.b, .int .i64 x.fn, .int .i64 x.obj, .int .i64 x.off, .int .i64 x.size, .int .u32 x.num, .slice ta x.args.length tc, .bool x.log] 45)) := by rw [HW3.out]; exact heap_alloc_new wr _
          clear d0 d1 d2 d3 d4 d5 d6 d7 d8 d9 d10
          clear t0 t1 t2 t3 t4 t5 t6 t7 t8 t9 t10 l1
          clear HW3
          obtain ⟨d0, d1, d2, d3, d4, d5, d6, d7, d8, d9, d10, l3⟩ := cl11 H3.out
          obtain ⟨t0, t1, t2, t3, t4, t5, t6, t7, t8, t9, t10, l1⟩ := cl11 ((B3.out.block _ l1r).trans ((hB.out.block _ l1a).trans H1.out))
          refine J_mobs [0, 1, 2, 3, 4, 5, 6, 7, 8, 9, 10, 11, 12, 13, 14] _ _ _ _ (by kernel_rfl) ?_
          simp only [List.map_cons, List.map_nil, List.getElem?_toArray, List.getElem?_cons_succ, List.getElem?_cons_zero, Option.getD_some, List.size_toArray, List.length_cons, List.length_nil, Nat.reduceAdd, Nat.reduceSub]
          repeat (go_big_quiet_step (fail))
          refine wpQuiet_nil ?_
          refine J_call 15 _ (.int .i64 (defI x)) rfl (by kernel_rfl) rfl ?_ ?_
          all_goals simp only [List.getElem_toArray, List.getElem_cons_succ, List.getElem_cons_zero]
          ·intro wk hk
           have HK := Lib.hid (rdef_v x ta x.args.length tc wk)
           unfold aggI at HK
           go_wp2_with fail
           refine HK.out.mono ?_
           rintro e wz ⟨rfl, hb⟩
           go_wp2_with fail
           exact ⟨rfl, hb⟩
          simp only [Act.put, List.setIfInBounds_toArray, List.set_cons_succ, List.set_cons_zero]
          refine J_mobs [16, 17, 18, 19] _ _ _ _ (by kernel_rfl) ?_
          simp only [List.map_cons, List.map_nil, List.getElem?_toArray, List.getElem?_cons_succ, List.getElem?_cons_zero, Option.getD_some, List.size_toArray, List.length_cons, List.length_nil, Nat.reduceAdd, Nat.reduceSub]
          repeat (go_big_quiet_step (fail))
          refine wpQuiet_nil ?_
          refine J_done (by kernel_rfl) (fun wj hj => ?_) _
          have Bj : Hid (Below wr.heap.size wr wj) := B3.out.trans (hj.mono B3.out.size)
          clear d0 d1 d2 d3 d4 d5 d6 d7 d8 d9 d10
          clear t0 t1 t2 t3 t4 t5 t6 t7 t8 t9 t10 l1
          clear hj H3 l3
          have HF : Hid (hiddenF y (L.drop j) = false) := by show _ = _; rw [HD.out, HX.out]; simp only [Bool.false_eq_true, if_false, if_true, Bool.or_true, Bool.true_or, Bool.or_false, Bool.false_or]
          have hR : Hid (storeI L k = false) := by rw [HSI.out, ← hK.out, HF.out]; rfl
          go_wp2_with fail
          go_ret
          exact ⟨ret_b hR.out.symm, B0.out.trans ((hB.out.trans (Bj.out.mono hB.out.size)).mono B0.out.size)⟩
        ·rw [b1, b2, b3] at HX
         have HF : Hid (hiddenF y (L.drop j) = false) := by show _ = _; rw [HD.out, HX.out]; simp only [Bool.false_eq_true, if_false, if_true, Bool.or_true, Bool.true_or, Bool.or_false, Bool.false_or]
         have hR : Hid (storeI L k = false) := by rw [HSI.out, ← hK.out, HF.out]; rfl
         go_wp2_with fail
         go_quiet (fail)
         go_wp2_with fail
         go_ret
         exact ⟨ret_b hR.out.symm, drewN_b (B0.out.trans ((hB.out.trans ((below_alloc wr _).mono hB.out.size)).mono B0.out.size)) _⟩
       ·rw [b1, b2] at HX
        have HF : Hid (hiddenF y (L.drop j) = false) := by show _ = _; rw [HD.out, HX.out]; simp only [Bool.false_eq_true, if_false, if_true, Bool.or_true, Bool.true_or, Bool.or_false, Bool.false_or]
        have hR : Hid (storeI L k = false) := by rw [HSI.out, ← hK.out, HF.out]; rfl
        go_wp2_with fail
        go_quiet (fail)
        go_wp2_with fail
        go_ret
        exact ⟨ret_b hR.out.symm, drewN_b (B0.out.trans ((hB.out.trans ((below_alloc wr _).mono hB.out.size)).mono B0.out.size)) _⟩
      ·rw [b1] at HX
       have HF : Hid (hiddenF y (L.drop j) = false) := by show _ = _; rw [HD.out, HX.out]; simp only [Bool.false_eq_true, if_false, if_true, Bool.or_true, Bool.true_or, Bool.or_false, Bool.false_or]
       have hR : Hid (storeI L k = false) := by rw [HSI.out, ← hK.out, HF.out]; rfl
       go_wp2_with fail
       go_quiet (fail)
       go_wp2_with fail
       go_ret
       exact ⟨ret_b hR.out.symm, drewN_b (B0.out.trans ((hB.out.trans ((below_alloc wr _).mono hB.out.size)).mono B0.out.size)) _⟩
     ·cases a2 : (x.size == y.size)
      ·have hz0 : hidesF y x = false := by rw [HZ.out, a1, a2]; rfl
       rw [hz0] at HD
       clear hz0
       cases b1 : (x.op == 5)
       ·cases b2 : (x.op == 9)
        ·cases b3 : (x.op == 12)
         ·cases b4 : (defI x == y.a)
          ·rw [b1, b2, b3, b4] at HX
           go_wp2_with fail
           rw [← HW3.out]
           refine wp_region_junk (fun _ => True) (by kernel_rfl) ?_
           have H3 : Hid (W3.heap[wr.heap.size]? = some (.cells #[.int .i64 x.op, .int .i64 x.d, .int .i64 x.a, .int .i64 x.b, .int .i64 x.fn, .int .i64 x.obj, .int .i64 x.off, .int .i64 x.size, .int .u32 x.num, .slice ta x.args.length tc, .bool x.log] 45)) := by rw [HW3.out]; exact heap_alloc_new wr _
           clear d0 d1 d2 d3 d4 d5 d6 d7 d8 d9 d10
           clear t0 t1 t2 t3 t4 t5 t6 t7 t8 t9 t10 l1
           clear HW3
           obtain ⟨d0, d1, d2, d3, d4, d5, d6, d7, d8, d9, d10, l3⟩ := cl11 H3.out
           obtain ⟨t0, t1, t2, t3, t4, t5, t6, t7, t8, t9, t10, l1⟩ := cl11 ((B3.out.block _ l1r).trans ((hB.out.block _ l1a).trans H1.out))
           refine J_mobs [0, 1, 2, 3, 4, 5, 6, 7, 8, 9, 10, 11, 12, 13, 14] _ _ _ _ (by kernel_rfl) ?_
           simp only [List.map_cons, List.map_nil, List.getElem?_toArray, List.getElem?_cons_succ, List.getElem?_cons_zero, Option.getD_some, List.size_toArray, List.length_cons, List.length_nil, Nat.reduceAdd, Nat.reduceSub]
           repeat (go_big_quiet_step (fail))
           refine wpQuiet_nil ?_
           refine J_call 15 _ (.int .i64 (defI x)) rfl (by kernel_rfl) rfl ?_ ?_
           all_goals simp only [List.getElem_toArray, List.getElem_cons_succ, List.getElem_cons_zero]
           ·intro wk hk
            have HK := Lib.hid (rdef_v x ta x.args.length tc wk)
            unfold aggI at HK
            go_wp2_with fail
            refine HK.out.mono ?_
            rintro e wz ⟨rfl, hb⟩
            go_wp2_with fail
            exact ⟨rfl, hb⟩
           simp only [Act.put, List.setIfInBounds_toArray, List.set_cons_succ, List.set_cons_zero]
           refine J_mobs [16, 17, 18, 19] _ _ _ _ (by kernel_rfl) ?_
           simp only [List.map_cons, List.map_nil, List.getElem?_toArray, List.getElem?_cons_succ, List.getElem?_cons_zero, Option.getD_some, List.size_toArray, List.length_cons, List.length_nil, Nat.reduceAdd, Nat.reduceSub]
           repeat (go_big_quiet_step (fail))
           refine wpQuiet_nil ?_
           refine J_done (by kernel_rfl) (fun wj hj => ?_) _
           have Bj : Hid (Below wr.heap.size wr wj) := B3.out.trans (hj.mono B3.out.size)
           clear d0 d1 d2 d3 d4 d5 d6 d7 d8 d9 d10
           clear t0 t1 t2 t3 t4 t5 t6 t7 t8 t9 t10 l1
           clear hj H3 l3
           have HD2 : Hid (hiddenF y (L.drop (j + 1)) = hiddenF y (L.drop (k + 1))) := by
            have h := HD.out
            rw [HX.out] at h
            simp only [Bool.false_eq_true, if_false, Bool.or_false] at h
            exact h.symm.trans hK.out
           have hB2 : Hid (Below W1.heap.size W1 wj) := hB.out.trans (Bj.out.mono hB.out.size)
           go_wp2_with fail
           go_roundw
           case rel => exact ⟨j + 1, by omega, by omega, by go_num, hB2, HD2⟩
           case measure => simp [intOf]; omega
          ·rw [b1, b2, b3, b4] at HX
           go_wp2_with fail
           rw [← HW3.out]
           refine wp_region_junk (fun _ => True) (by kernel_rfl) ?_
           have H3 : Hid (W3.heap[wr.heap.size]? = some (.cells #[.int .i64 x.op, .int .i64 x.d, .int .i64 x.a, .int .i64 x.b, .int .i64 x.fn, .int .i64 x.obj, .int .i64 x.off, .int .i64 x.size, .int .u32 x.num, .slice ta x.args.length tc, .bool x.log] 45)) := by rw [HW3.out]; exact heap_alloc_new wr _
           clear d0 d1 d2 d3 d4 d5 d6 d7 d8 d9 d10
           clear t0 t1 t2 t3 t4 t5 t6 t7 t8 t9 t10 l1
           clear HW3
           obtain ⟨d0, d1, d2, d3, d4, d5, d6, d7, d8, d9, d10, l3⟩ := cl11 H3.out
           obtain ⟨t0, t1, t2, t3, t4, t5, t6, t7, t8, t9, t10, l1⟩ := cl11 ((B3.out.block _ l1r).trans ((hB.out.block _ l1a).trans H1.out))
           refine J_mobs [0, 1, 2, 3, 4, 5, 6, 7, 8, 9, 10, 11, 12, 13, 14] _ _ _ _ (by kernel_rfl) ?_
           simp only [List.map_cons, List.map_nil, List.getElem?_toArray, List.getElem?_cons_succ, List.getElem?_cons_zero, Option.getD_some, List.size_toArray, List.length_cons, List.length_nil, Nat.reduceAdd, Nat.reduceSub]
           repeat (go_big_quiet_step (fail))
           refine wpQuiet_nil ?_
           refine J_call 15 _ (.int .i64 (defI x)) rfl (by kernel_rfl) rfl ?_ ?_
           all_goals simp only [List.getElem_toArray, List.getElem_cons_succ, List.getElem_cons_zero]
           ·intro wk hk
            have HK := Lib.hid (rdef_v x ta x.args.length tc wk)
            unfold aggI at HK
            go_wp2_with fail
            refine HK.out.mono ?_
            rintro e wz ⟨rfl, hb⟩
            go_wp2_with fail
            exact ⟨rfl, hb⟩
           simp only [Act.put, List.setIfInBounds_toArray, List.set_cons_succ, List.set_cons_zero]
           refine J_mobs [16, 17, 18, 19] _ _ _ _ (by kernel_rfl) ?_
           simp only [List.map_cons, List.map_nil, List.getElem?_toArray, List.getElem?_cons_succ, List.getElem?_cons_zero, Option.getD_some, List.size_toArray, List.length_cons, List.length_nil, Nat.reduceAdd, Nat.reduceSub]
           repeat (go_big_quiet_step (fail))
           refine wpQuiet_nil ?_
           refine J_done (by kernel_rfl) (fun wj hj => ?_) _
           have Bj : Hid (Below wr.heap.size wr wj) := B3.out.trans (hj.mono B3.out.size)
           clear d0 d1 d2 d3 d4 d5 d6 d7 d8 d9 d10
           clear t0 t1 t2 t3 t4 t5 t6 t7 t8 t9 t10 l1
           clear hj H3 l3
           have HF : Hid (hiddenF y (L.drop j) = false) := by show _ = _; rw [HD.out, HX.out]; simp only [Bool.false_eq_true, if_false, if_true, Bool.or_true, Bool.true_or, Bool.or_false, Bool.false_or]
           have hR : Hid (storeI L k = false) := by rw [HSI.out, ← hK.out, HF.out]; rfl
           go_wp2_with fail
           go_ret
           exact ⟨ret_b hR.out.symm, B0.out.trans ((hB.out.trans (Bj.out.mono hB.out.size)).mono B0.out.size)⟩
         ·rw [b1, b2, b3] at HX
          have HF : Hid (hiddenF y (L.drop j) = false) := by show _ = _; rw [HD.out, HX.out]; simp only [Bool.false_eq_true, if_false, if_true, Bool.or_true, Bool.true_or, Bool.or_false, Bool.false_or]
          have hR : Hid (storeI L k = false) := by rw [HSI.out, ← hK.out, HF.out]; rfl
          go_wp2_with fail
          go_quiet (fail)
          go_wp2_with fail
          go_ret
          exact ⟨ret_b hR.out.symm, drewN_b (B0.out.trans ((hB.out.trans ((below_alloc wr _).mono hB.out.size)).mono B0.out.size)) _⟩
        ·rw [b1, b2] at HX
         have HF : Hid (hiddenF y (L.drop j) = false) := by show _ = _; rw [HD.out, HX.out]; simp only [Bool.false_eq_true, if_false, if_true, Bool.or_true, Bool.true_or, Bool.or_false, Bool.false_or]
         have hR : Hid (storeI L k = false) := by rw [HSI.out, ← hK.out, HF.out]; rfl
         go_wp2_with fail
         go_quiet (fail)
         go_wp2_with fail
         go_ret
         exact ⟨ret_b hR.out.symm, drewN_b (B0.out.trans ((hB.out.trans ((below_alloc wr _).mono hB.out.size)).mono B0.out.size)) _⟩
       ·rw [b1] at HX
        have HF : Hid (hiddenF y (L.drop j) = false) := by show _ = _; rw [HD.out, HX.out]; simp only [Bool.false_eq_true, if_false, if_true, Bool.or_true, Bool.true_or, Bool.or_false, Bool.false_or]
        have hR : Hid (storeI L k = false) := by rw [HSI.out, ← hK.out, HF.out]; rfl
        go_wp2_with fail
        go_quiet (fail)
        go_wp2_with fail
        go_ret
        exact ⟨ret_b hR.out.symm, drewN_b (B0.out.trans ((hB.out.trans ((below_alloc wr _).mono hB.out.size)).mono B0.out.size)) _⟩
      ·cases a3 : (x.a == y.a)
       ·have hz0 : hidesF y x = false := by rw [HZ.out, a1, a2, a3]; rfl
        rw [hz0] at HD
        clear hz0
        cases b1 : (x.op == 5)
        ·cases b2 : (x.op == 9)
         ·cases b3 : (x.op == 12)
          ·cases b4 : (defI x == y.a)
           ·rw [b1, b2, b3, b4] at HX
            go_wp2_with fail
            rw [← HW3.out]
            refine wp_region_junk (fun _ => True) (by kernel_rfl) ?_
            have H3 : Hid (W3.heap[wr.heap.size]? = some (.cells #[.int .i64 x.op, .int .i64 x.d, .int .i64 x.a, .int .i64 x.b, .int .i64 x.fn, .int .i64 x.obj, .int .i64 x.off, .int .i64 x.size, .int .u32 x.num, .slice ta x.args.length tc, .bool x.log] 45)) := by rw [HW3.out]; exact heap_alloc_new wr _
            clear d0 d1 d2 d3 d4 d5 d6 d7 d8 d9 d10
            clear t0 t1 t2 t3 t4 t5 t6 t7 t8 t9 t10 l1
            clear HW3
            obtain ⟨d0, d1, d2, d3, d4, d5, d6, d7, d8, d9, d10, l3⟩ := cl11 H3.out
            obtain ⟨t0, t1, t2, t3, t4, t5, t6, t7, t8, t9, t10, l1⟩ := cl11 ((B3.out.block _ l1r).trans ((hB.out.block _ l1a).trans H1.out))
            refine J_mobs [0, 1, 2, 3, 4, 5, 6, 7, 8, 9, 10, 11, 12, 13, 14] _ _ _ _ (by kernel_rfl) ?_
            simp only [List.map_cons, List.map_nil, List.getElem?_toArray, List.getElem?_cons_succ, List.getElem?_cons_zero, Option.getD_some, List.size_toArray, List.length_cons, List.length_nil, Nat.reduceAdd, Nat.reduceSub]
            repeat (go_big_quiet_step (fail))
            refine wpQuiet_nil ?_
            refine J_call 15 _ (.int .i64 (defI x)) rfl (by kernel_rfl) rfl ?_ ?_
            all_goals simp only [List.getElem_toArray, List.getElem_cons_succ, List.getElem_cons_zero]
            ·intro wk hk
             have HK := Lib.hid (rdef_v x ta x.args.length tc wk)
             unfold aggI at HK
             go_wp2_with fail
             refine HK.out.mono ?_
             rintro e wz ⟨rfl, hb⟩
             go_wp2_with fail
             exact ⟨rfl, hb⟩
            simp only [Act.put, List.setIfInBounds_toArray, List.set_cons_succ, List.set_cons_zero]
            refine J_mobs [16, 17, 18, 19] _ _ _ _ (by kernel_rfl) ?_
            simp only [List.map_cons, List.map_nil, List.getElem?_toArray, List.getElem?_cons_succ, List.getElem?_cons_zero, Option.getD_some, List.size_toArray, List.length_cons, List.length_nil, Nat.reduceAdd, Nat.reduceSub]
            repeat (go_big_quiet_step (fail))
            refine wpQuiet_nil ?_
            refine J_done (by kernel_rfl) (fun wj hj => ?_) _
            have Bj : Hid (Below wr.heap.size wr wj) := B3.out.trans (hj.mono B3.out.size)
            clear d0 d1 d2 d3 d4 d5 d6 d7 d8 d9 d10
            clear t0 t1 t2 t3 t4 t5 t6 t7 t8 t9 t10 l1
            clear hj H3 l3
            have HD2 : Hid (hiddenF y (L.drop (j + 1)) = hiddenF y (L.drop (k + 1))) := by
             have h := HD.out
             rw [HX.out] at h
             simp only [Bool.false_eq_true, if_false, Bool.or_false] at h
             exact h.symm.trans hK.out
            have hB2 : Hid (Below W1.heap.size W1 wj) := hB.out.trans (Bj.out.mono hB.out.size)
            go_wp2_with fail
            go_roundw
            case rel => exact ⟨j + 1, by omega, by omega, by go_num, hB2, HD2⟩
            case measure => simp [intOf]; omega
           ·rw [b1, b2, b3, b4] at HX
            go_wp2_with fail
            rw [← HW3.out]
            refine wp_region_junk (fun _ => True) (by kernel_rfl) ?_
            have H3 : Hid (W3.heap[wr.heap.size]? = some (.cells #[.int .i64 x.op, .int .i64 x.d, .int .i64 x.a, .int .i64 x.b, .int .i64 x.fn, .int .i64 x.obj, .int .i64 x.off, .int .i64 x.size, .int .u32 x.num, .slice ta x.args.length tc, .bool x.log] 45)) := by rw [HW3.out]; exact heap_alloc_new wr _
            clear d0 d1 d2 d3 d4 d5 d6 d7 d8 d9 d10
            clear t0 t1 t2 t3 t4 t5 t6 t7 t8 t9 t10 l1
            clear HW3
            obtain ⟨d0, d1, d2, d3, d4, d5, d6, d7, d8, d9, d10, l3⟩ := cl11 H3.out
            obtain ⟨t0, t1, t2, t3, t4, t5, t6, t7, t8, t9, t10, l1⟩ := cl11 ((B3.out.block _ l1r).trans ((hB.out.block _ l1a).trans H1.out))
            refine J_mobs [0, 1, 2, 3, 4, 5, 6, 7, 8, 9, 10, 11, 12, 13, 14] _ _ _ _ (by kernel_rfl) ?_
            simp only [List.map_cons, List.map_nil, List.getElem?_toArray, List.getElem?_cons_succ, List.getElem?_cons_zero, Option.getD_some, List.size_toArray, List.length_cons, List.length_nil, Nat.reduceAdd, Nat.reduceSub]
            repeat (go_big_quiet_step (fail))
            refine wpQuiet_nil ?_
            refine J_call 15 _ (.int .i64 (defI x)) rfl (by kernel_rfl) rfl ?_ ?_
            all_goals simp only [List.getElem_toArray, List.getElem_cons_succ, List.getElem_cons_zero]
            ·intro wk hk
             have HK := Lib.hid (rdef_v x ta x.args.length tc wk)
             unfold aggI at HK
             go_wp2_with fail
             refine HK.out.mono ?_
             rintro e wz ⟨rfl, hb⟩
             go_wp2_with fail
             exact ⟨rfl, hb⟩
            simp only [Act.put, List.setIfInBounds_toArray, List.set_cons_succ, List.set_cons_zero]
            refine J_mobs [16, 17, 18, 19] _ _ _ _ (by kernel_rfl) ?_
            simp only [List.map_cons, List.map_nil, List.getElem?_toArray, List.getElem?_cons_succ, List.getElem?_cons_zero, Option.getD_some, List.size_toArray, List.length_cons, List.length_nil, Nat.reduceAdd, Nat.reduceSub]
            repeat (go_big_quiet_step (fail))
            refine wpQuiet_nil ?_
            refine J_done (by kernel_rfl) (fun wj hj => ?_) _
            have Bj : Hid (Below wr.heap.size wr wj) := B3.out.trans (hj.mono B3.out.size)
            clear d0 d1 d2 d3 d4 d5 d6 d7 d8 d9 d10
            clear t0 t1 t2 t3 t4 t5 t6 t7 t8 t9 t10 l1
            clear hj H3 l3
            have HF : Hid (hiddenF y (L.drop j) = false) := by show _ = _; rw [HD.out, HX.out]; simp only [Bool.false_eq_true, if_false, if_true, Bool.or_true, Bool.true_or, Bool.or_false, Bool.false_or]
            have hR : Hid (storeI L k = false) := by rw [HSI.out, ← hK.out, HF.out]; rfl
            go_wp2_with fail
            go_ret
            exact ⟨ret_b hR.out.symm, B0.out.trans ((hB.out.trans (Bj.out.mono hB.out.size)).mono B0.out.size)⟩
          ·rw [b1, b2, b3] at HX
           have HF : Hid (hiddenF y (L.drop j) = false) := by show _ = _; rw [HD.out, HX.out]; simp only [Bool.false_eq_true, if_false, if_true, Bool.or_true, Bool.true_or, Bool.or_false, Bool.false_or]
           have hR : Hid (storeI L k = false) := by rw [HSI.out, ← hK.out, HF.out]; rfl
           go_wp2_with fail
           go_quiet (fail)
           go_wp2_with fail
           go_ret
           exact ⟨ret_b hR.out.symm, drewN_b (B0.out.trans ((hB.out.trans ((below_alloc wr _).mono hB.out.size)).mono B0.out.size)) _⟩
         ·rw [b1, b2] at HX
          have HF : Hid (hiddenF y (L.drop j) = false) := by show _ = _; rw [HD.out, HX.out]; simp only [Bool.false_eq_true, if_false, if_true, Bool.or_true, Bool.true_or, Bool.or_false, Bool.false_or]
          have hR : Hid (storeI L k = false) := by rw [HSI.out, ← hK.out, HF.out]; rfl
          go_wp2_with fail
          go_quiet (fail)
          go_wp2_with fail
          go_ret
          exact ⟨ret_b hR.out.symm, drewN_b (B0.out.trans ((hB.out.trans ((below_alloc wr _).mono hB.out.size)).mono B0.out.size)) _⟩
        ·rw [b1] at HX
         have HF : Hid (hiddenF y (L.drop j) = false) := by show _ = _; rw [HD.out, HX.out]; simp only [Bool.false_eq_true, if_false, if_true, Bool.or_true, Bool.true_or, Bool.or_false, Bool.false_or]
         have hR : Hid (storeI L k = false) := by rw [HSI.out, ← hK.out, HF.out]; rfl
         go_wp2_with fail
         go_quiet (fail)
         go_wp2_with fail
         go_ret
         exact ⟨ret_b hR.out.symm, drewN_b (B0.out.trans ((hB.out.trans ((below_alloc wr _).mono hB.out.size)).mono B0.out.size)) _⟩
       ·cases a4 : (x.off == y.off)
        ·have hz0 : hidesF y x = false := by rw [HZ.out, a1, a2, a3, a4]; rfl
         rw [hz0] at HD
         clear hz0
         cases b1 : (x.op == 5)
         ·cases b2 : (x.op == 9)
          ·cases b3 : (x.op == 12)
           ·cases b4 : (defI x == y.a)
            ·rw [b1, b2, b3, b4] at HX
             go_wp2_with fail
             rw [← HW3.out]
             refine wp_region_junk (fun _ => True) (by kernel_rfl) ?_
             have H3 : Hid (W3.heap[wr.heap.size]? = some (.cells #[.int .i64 x.op, .int .i64 x.d, .int .i64 x.a, .int .i64 x.b, .int .i64 x.fn, .int .i64 x.obj, .int .i64 x.off, .int .i64 x.size, .int .u32 x.num, .slice ta x.args.length tc, .bool x.log] 45)) := by rw [HW3.out]; exact heap_alloc_new wr _
             clear d0 d1 d2 d3 d4 d5 d6 d7 d8 d9 d10
             clear t0 t1 t2 t3 t4 t5 t6 t7 t8 t9 t10 l1
             clear HW3
             obtain ⟨d0, d1, d2, d3, d4, d5, d6, d7, d8, d9, d10, l3⟩ := cl11 H3.out
             obtain ⟨t0, t1, t2, t3, t4, t5, t6, t7, t8, t9, t10, l1⟩ := cl11 ((B3.out.block _ l1r).trans ((hB.out.block _ l1a).trans H1.out))
             refine J_mobs [0, 1, 2, 3, 4, 5, 6, 7, 8, 9, 10, 11, 12, 13, 14] _ _ _ _ (by kernel_rfl) ?_
             simp only [List.map_cons, List.map_nil, List.getElem?_toArray, List.getElem?_cons_succ, List.getElem?_cons_zero, Option.getD_some, List.size_toArray, List.length_cons, List.length_nil, Nat.reduceAdd, Nat.reduceSub]
             repeat (go_big_quiet_step (fail))
             refine wpQuiet_nil ?_
             refine J_call 15 _ (.int .i64 (defI x)) rfl (by kernel_rfl) rfl ?_ ?_
             all_goals simp only [List.getElem_toArray, List.getElem_cons_succ, List.getElem_cons_zero]
             ·intro wk hk
              have HK := Lib.hid (rdef_v x ta x.args.length tc wk)
              unfold aggI at HK
              go_wp2_with fail
              refine HK.out.mono ?_
              rintro e wz ⟨rfl, hb⟩
              go_wp2_with fail
              exact ⟨rfl, hb⟩
             simp only [Act.put, List.setIfInBounds_toArray, List.set_cons_succ, List.set_cons_zero]
             refine J_mobs [16, 17, 18, 19] _ _ _ _ (by kernel_rfl) ?_
             simp only [List.map_cons, List.map_nil, List.getElem?_toArray, List.getElem?_cons_succ, List.getElem?_cons_zero, Option.getD_some, List.size_toArray, List.length_cons, List.length_nil, Nat.reduceAdd, Nat.reduceSub]
             repeat (go_big_quiet_step (fail))
             refine wpQuiet_nil ?_
             refine J_done (by kernel_rfl) (fun wj hj => ?_) _
             have Bj : Hid (Below wr.heap.size wr wj) := B3.out.trans (hj.mono B3.out.size)
             clear d0 d1 d2 d3 d4 d5 d6 d7 d8 d9 d10
             clear t0 t1 t2 t3 t4 t5 t6 t7 t8 t9 t10 l1
             clear hj H3 l3
             have HD2 : Hid (hiddenF y (L.drop (j + 1)) = hiddenF y (L.drop (k + 1))) := by
              have h := HD.out
              rw [HX.out] at h
              simp only [Bool.false_eq_true, if_false, Bool.or_false] at h
              exact h.symm.trans hK.out
             have hB2 : Hid (Below W1.heap.size W1 wj) := hB.out.trans (Bj.out.mono hB.out.size)
             go_wp2_with fail
             go_roundw
             case rel => exact ⟨j + 1, by omega, by omega, by go_num, hB2, HD2⟩
             case measure => simp [intOf]; omega
            ·rw [b1, b2, b3, b4] at HX
             go_wp2_with fail
             rw [← HW3.out]
             refine wp_region_junk (fun _ => True) (by kernel_rfl) ?_
             have H3 : Hid (W3.heap[wr.heap.size]? = some (.cells #[.int .i64 x.op, .int .i64 x.d, .int .i64 x.a, .int .i64 x.b, .int .i64 x.fn, .int .i64 x.obj, .int .i64 x.off, .int .i64 x.size, .int .u32 x.num, .slice ta x.args.length tc, .bool x.log] 45)) := by rw [HW3.out]; exact heap_alloc_new wr _
             clear d0 d1 d2 d3 d4 d5 d6 d7 d8 d9 d10
             clear t0 t1 t2 t3 t4 t5 t6 t7 t8 t9 t10 l1
             clear HW3
             obtain ⟨d0, d1, d2, d3, d4, d5, d6, d7, d8, d9, d10, l3⟩ := cl11 H3.out
             obtain ⟨t0, t1, t2, t3, t4, t5, t6, t7, t8, t9, t10, l1⟩ := cl11 ((B3.out.block _ l1r).trans ((hB.out.block _ l1a).trans H1.out))
             refine J_mobs [0, 1, 2, 3, 4, 5, 6, 7, 8, 9, 10, 11, 12, 13, 14] _ _ _ _ (by kernel_rfl) ?_
             simp only [List.map_cons, List.map_nil, List.getElem?_toArray, List.getElem?_cons_succ, List.getElem?_cons_zero, Option.getD_some, List.size_toArray, List.length_cons, List.length_nil, Nat.reduceAdd, Nat.reduceSub]
             repeat (go_big_quiet_step (fail))
             refine wpQuiet_nil ?_
             refine J_call 15 _ (.int .i64 (defI x)) rfl (by kernel_rfl) rfl ?_ ?_
             all_goals simp only [List.getElem_toArray, List.getElem_cons_succ, List.getElem_cons_zero]
             ·intro wk hk
              have HK := Lib.hid (rdef_v x ta x.args.length tc wk)
              unfold aggI at HK
              go_wp2_with fail
              refine HK.out.mono ?_
              rintro e wz ⟨rfl, hb⟩
              go_wp2_with fail
              exact ⟨rfl, hb⟩
             simp only [Act.put, List.setIfInBounds_toArray, List.set_cons_succ, List.set_cons_zero]
             refine J_mobs [16, 17, 18, 19] _ _ _ _ (by kernel_rfl) ?_
             simp only [List.map_cons, List.map_nil, List.getElem?_toArray, List.getElem?_cons_succ, List.getElem?_cons_zero, Option.getD_some, List.size_toArray, List.length_cons, List.length_nil, Nat.reduceAdd, Nat.reduceSub]
             repeat (go_big_quiet_step (fail))
             refine wpQuiet_nil ?_
             refine J_done (by kernel_rfl) (fun wj hj => ?_) _
             have Bj : Hid (Below wr.heap.size wr wj) := B3.out.trans (hj.mono B3.out.size)
             clear d0 d1 d2 d3 d4 d5 d6 d7 d8 d9 d10
             clear t0 t1 t2 t3 t4 t5 t6 t7 t8 t9 t10 l1
             clear hj H3 l3
             have HF : Hid (hiddenF y (L.drop j) = false) := by show _ = _; rw [HD.out, HX.out]; simp only [Bool.false_eq_true, if_false, if_true, Bool.or_true, Bool.true_or, Bool.or_false, Bool.false_or]
             have hR : Hid (storeI L k = false) := by rw [HSI.out, ← hK.out, HF.out]; rfl
             go_wp2_with fail
             go_ret
             exact ⟨ret_b hR.out.symm, B0.out.trans ((hB.out.trans (Bj.out.mono hB.out.size)).mono B0.out.size)⟩
           ·rw [b1, b2, b3] at HX
            have HF : Hid (hiddenF y (L.drop j) = false) := by show _ = _; rw [HD.out, HX.out]; simp only [Bool.false_eq_true, if_false, if_true, Bool.or_true, Bool.true_or, Bool.or_false, Bool.false_or]
            have hR : Hid (storeI L k = false) := by rw [HSI.out, ← hK.out, HF.out]; rfl
            go_wp2_with fail
            go_quiet (fail)
            go_wp2_with fail
            go_ret
            exact ⟨ret_b hR.out.symm, drewN_b (B0.out.trans ((hB.out.trans ((below_alloc wr _).mono hB.out.size)).mono B0.out.size)) _⟩
          ·rw [b1, b2] at HX
           have HF : Hid (hiddenF y (L.drop j) = false) := by show _ = _; rw [HD.out, HX.out]; simp only [Bool.false_eq_true, if_false, if_true, Bool.or_true, Bool.true_or, Bool.or_false, Bool.false_or]
           have hR : Hid (storeI L k = false) := by rw [HSI.out, ← hK.out, HF.out]; rfl
           go_wp2_with fail
           go_quiet (fail)
           go_wp2_with fail
           go_ret
           exact ⟨ret_b hR.out.symm, drewN_b (B0.out.trans ((hB.out.trans ((below_alloc wr _).mono hB.out.size)).mono B0.out.size)) _⟩
         ·rw [b1] at HX
          have HF : Hid (hiddenF y (L.drop j) = false) := by show _ = _; rw [HD.out, HX.out]; simp only [Bool.false_eq_true, if_false, if_true, Bool.or_true, Bool.true_or, Bool.or_false, Bool.false_or]
          have hR : Hid (storeI L k = false) := by rw [HSI.out, ← hK.out, HF.out]; rfl
          go_wp2_with fail
          go_quiet (fail)
          go_wp2_with fail
          go_ret
          exact ⟨ret_b hR.out.symm, drewN_b (B0.out.trans ((hB.out.trans ((below_alloc wr _).mono hB.out.size)).mono B0.out.size)) _⟩
        ·have hz0 : hidesF y x = true := by rw [HZ.out, a1, a2, a3, a4]; rfl
         rw [hz0] at HD
         have HF : Hid (hiddenF y (L.drop j) = true) := HD.out
         have hR : Hid (storeI L k = true) := by rw [HSI.out, ← hK.out, HF.out]; rfl
         clear hz0 HD HX HZ
         go_wp2_with fail
         go_ret
         exact ⟨ret_b hR.out.symm, B0.out.trans ((hB.out.trans ((below_alloc wr _).mono hB.out.size)).mono B0.out.size)⟩
    ·obtain rfl : j = L.length := by omega
     have hR : Hid (storeI L k = false) := by rw [HSI.out, ← hK.out, hiddenF_end]; rfl
     go_wp2_with fail
     go_ret
     exact ⟨ret_b hR.out.symm, B0.out.trans (hB.out.mono B0.out.size)⟩
  ·rw [h1, h2] at HSI
   have BB := HB.out
   go_wp2_with fail
   go_ret
   exact ⟨ret_b HSI.out.symm, BB _ _⟩
end Go.Proofs.YtnnhobbabcfogaaDoor
