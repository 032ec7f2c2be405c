/-
  The document's judgement of instructions, operation by operation.
-/
import Derived.Test.YtnnhobbabcfogaaDoorR20
import Derived.Test.YtnnhobbabcfogaaDoorF4
import Derived.Test.YtnnhobbabcfogaaDoorE7
import Derived.Test.YtnnhobbabcfogaaDoorN2
set_option linter.all false
namespace Go.Proofs.YtnnhobbabcfogaaDoor
open Go.ChangeShapes Go.WideShapes Go.ChangeAt Go.RowKit
set_option maxHeartbeats 8000000
set_option linter.unusedVariables false
set_option maxRecDepth 100000

theorem fz_1 {w : World} {g : Nat} (h : FldAt w 1 g) : w.cell? ⟨g, 0, none⟩ = some (.bool true) ∧ w.cell? ⟨g, 1, none⟩ = some (.bool false) ∧ w.cell? ⟨g, 2, none⟩ = some (.bool false) ∧ w.cell? ⟨g, 3, none⟩ = some (.bool false) ∧ w.cell? ⟨g, 4, none⟩ = some (.bool false) ∧ w.cell? ⟨g, 5, none⟩ = some (.bool false) ∧ w.cell? ⟨g, 6, none⟩ = some (.bool false) ∧ w.cell? ⟨g, 7, none⟩ = some (.bool true) ∧ w.cell? ⟨g, 8, none⟩ = some (.bool false) ∧ w.cell? ⟨g, 9, none⟩ = some (.bool true) ∧ g < w.heap.size := ⟨h.c0, h.c1, h.c2, h.c3, h.c4, h.c5, h.c6, h.c7, h.c8, h.c9, h.lt⟩
theorem okI_1 (m : Md) (p : Pr) (d ra rb fn obj off size num : Int) (args : List Int) (log : Bool) : okI m p ⟨1, d, ra, rb, fn, obj, off, size, num, args, log⟩ = ((fn == 0) && ((obj == 0) && ((off == 0) && ((size == 0) && (decide (args.length = 0) && (regF p d true && (regF p ra false && (regF p rb false)))))))) := by
  cases log <;> (rw [Bool.eq_iff_iff]; simp [okI, bareF, plainI, regF, moreF, offF, readsA, readsB, defI, -List.length_eq_zero_iff] <;> omega)
theorem rins_1 (m : Md) (p : Pr) (v V0 : Value) (d ra rb fn obj off size num : Int) (args : List Int) (log : Bool) (aa : Option Addr) (ca : Nat) (w : World) (hm : MdV w v m) (hp : PrV w V0 p) (ha2 : ca ≤ 9223372036854775807) (ha1 : args.length ≤ ca) (h0 : 0 ≤ p.regs) (h1 : p.regs ≤ 100000) :
    Calls Tryd.prog 41 #[v, V0, .agg #[.int .i64 1, .int .i64 d, .int .i64 ra, .int .i64 rb, .int .i64 fn, .int .i64 obj, .int .i64 off, .int .i64 size, .int .u32 num, .slice aa args.length ca, .bool log]] w fun e w' => e = .returned (.bool (okI m p ⟨1, d, ra, rb, fn, obj, off, size, num, args, log⟩)) ∧ Below w.heap.size w w' := by
  obtain ⟨V, hV⟩ : ∃ V, okI m p ⟨1, d, ra, rb, fn, obj, off, size, num, args, log⟩ = V := ⟨_, rfl⟩
  rw [hV]
  have HF := Lib.hid (hV.symm.trans (okI_1 m p d ra rb fn obj off size num args log))
  clear hV
  have ER : Hid (∀ r s w', Ext w w' → Calls Tryd.prog 63 #[V0, .int .i64 r, .bool s] w' fun e w'' => e = .returned (.bool (regF p r s)) ∧ Below w'.heap.size w' w'') := fun r s w' he => rregister_c p V0 r s w' (hp.ext he) h0 h1
  obtain ⟨nm, vo, vb, rfl, ⟨ao, co, rfl, -, hco, -⟩, ⟨ab, cb, rfl, -, hcb, -⟩⟩ := hp
  obtain ⟨vg, vd, vp, rfl, ⟨ag, cg, rfl, hcg1, hcg, -⟩, ⟨ad, cd, rfl, -⟩, ⟨ap, cp, rfl, hcp1, hcp, -⟩⟩ := hm
  unfold maxLen at hco hcb hcg hcp
  have EF := Lib.hid (fun w => fields_c 1 w (by decide) (by decide))
  go_enter Tryd.func41, Tryd.ntmps41
  go_wp2_with fail
  refine (EF.out _).mono ?_
  rintro e w1 ⟨g, rfl, hg, hf, hb⟩
  have HM : Hid (w1.heap[w.heap.size]? = some (.cells #[.slice ag m.globs.length cg, .slice ad m.data.length cd, .slice ap m.procs.length cp, .int .i64 m.main] 26 (0, 0))) := (hb.block w.heap.size (by simp <;> omega)).trans (allocs_heap [.cells #[.slice ag m.globs.length cg, .slice ad m.data.length cd, .slice ap m.procs.length cp, .int .i64 m.main] 26, .cells #[.string nm, .bool p.void, .int .i64 p.params, .int .i64 p.regs, .slice ao p.objs.length co, .slice ab p.blks.length cb] 37, .cells #[.int .i64 1, .int .i64 d, .int .i64 ra, .int .i64 rb, .int .i64 fn, .int .i64 obj, .int .i64 off, .int .i64 size, .int .u32 num, .slice aa args.length ca, .bool log] 45] w 0 (by simp))
  have HP : Hid (w1.heap[w.heap.size + 1]? = some (.cells #[.string nm, .bool p.void, .int .i64 p.params, .int .i64 p.regs, .slice ao p.objs.length co, .slice ab p.blks.length cb] 37 (0, 0))) := (hb.block (w.heap.size + 1) (by simp <;> omega)).trans (allocs_heap [.cells #[.slice ag m.globs.length cg, .slice ad m.data.length cd, .slice ap m.procs.length cp, .int .i64 m.main] 26, .cells #[.string nm, .bool p.void, .int .i64 p.params, .int .i64 p.regs, .slice ao p.objs.length co, .slice ab p.blks.length cb] 37, .cells #[.int .i64 1, .int .i64 d, .int .i64 ra, .int .i64 rb, .int .i64 fn, .int .i64 obj, .int .i64 off, .int .i64 size, .int .u32 num, .slice aa args.length ca, .bool log] 45] w 1 (by simp))
  have HI : Hid (w1.heap[w.heap.size + 1 + 1]? = some (.cells #[.int .i64 1, .int .i64 d, .int .i64 ra, .int .i64 rb, .int .i64 fn, .int .i64 obj, .int .i64 off, .int .i64 size, .int .u32 num, .slice aa args.length ca, .bool log] 45 (0, 0))) := (hb.block (w.heap.size + 1 + 1) (by simp <;> omega)).trans (allocs_heap [.cells #[.slice ag m.globs.length cg, .slice ad m.data.length cd, .slice ap m.procs.length cp, .int .i64 m.main] 26, .cells #[.string nm, .bool p.void, .int .i64 p.params, .int .i64 p.regs, .slice ao p.objs.length co, .slice ab p.blks.length cb] 37, .cells #[.int .i64 1, .int .i64 d, .int .i64 ra, .int .i64 rb, .int .i64 fn, .int .i64 obj, .int .i64 off, .int .i64 size, .int .u32 num, .slice aa args.length ca, .bool log] 45] w 2 (by simp))
  have HFL := Lib.hid hf
  have BC : Hid (Below w.heap.size w w1) := below3c hb
  clear hg hf hb
  obtain ⟨ym0, -, ym2, -, lm⟩ := cl4 HM.out
  obtain ⟨yp0, yp1, yp2, yp3, yp4, yp5, lp⟩ := cl6 HP.out
  obtain ⟨yi0, yi1, yi2, yi3, yi4, yi5, yi6, yi7, yi8, yi9, yi10, li⟩ := cl11 HI.out
  obtain ⟨z0, z1, z2, z3, z4, z5, z6, z7, z8, z9, lg⟩ := fz_1 HFL.out
  go_upto_region 4 with (fail)
  by_cases k1 : fn = 0
  · have gk1 : (fn == 0) = true := beq_iff_eq.2 k1
    have gn1 : (fn != 0) = false := bne_eq_false_iff_eq.2 k1
    have kh1 := Lib.hid k1
    clear k1
    by_cases k2 : obj = 0
    · have gk2 : (obj == 0) = true := beq_iff_eq.2 k2
      have gn2 : (obj != 0) = false := bne_eq_false_iff_eq.2 k2
      have kh2 := Lib.hid k2
      clear k2
      by_cases k3 : off = 0
      · have gk3 : (off == 0) = true := beq_iff_eq.2 k3
        have gn3 : (off != 0) = false := bne_eq_false_iff_eq.2 k3
        have kh3 := Lib.hid k3
        clear k3
        by_cases k4 : size = 0
        · have gk4 : (size == 0) = true := beq_iff_eq.2 k4
          have gn4 : (size != 0) = false := bne_eq_false_iff_eq.2 k4
          have kh4 := Lib.hid k4
          clear k4
          by_cases ka : args.length = 0
          · have ga1 : decide ((0 : Int) < (args.length : Int)) = false := decide_eq_false (by omega)
            have ga2 : decide (0 < args.length) = false := decide_eq_false (by omega)
            have ga3 : decide (args.length = 0) = true := decide_eq_true ka
            have ka := Lib.hid ka
            refine wp_region_text (by kernel_rfl) ?_
            simp only [List.append_eq, List.cons_append, List.nil_append]
            repeat (go_big_quiet_step (fail))
            refine wpQuiet_nil ?_
            go_wp2_with fail
            refine wp_region_junk (fun _ => True) (by kernel_rfl) ?_
            refine J_mobs [0, 1, 2, 3, 4, 5] _ _ _ _ (by kernel_rfl) ?_
            simp only [List.map_cons, List.map_nil, List.getElem?_toArray, List.getElem?_cons_succ, List.getElem?_cons_zero, Option.getD_some, List.size_toArray, List.length_cons, List.length_nil, Nat.reduceAdd, Nat.reduceSub]
            repeat (go_big_quiet_step (fail))
            refine wpQuiet_nil ?_
            have kr5e := Lib.hid (ER.out d true)
            have kr5f : Hid (regF p d true = regF p d true) := rfl
            cases kr5 : regF p d true
            · rw [kr5] at kr5e
              refine J_loud1 6 _ rfl (by kernel_rfl) ?_
              simp only [List.getElem_toArray, List.getElem_cons_succ, List.getElem_cons_zero]
              intro wj hj
              go_wp2_with fail
              refine (kr5e.out wj (Ext.below (BC.out.trans (hj.mono BC.out.size)))).mono ?_
              rintro e w2 ⟨rfl, hq2⟩
              go_wp2_with fail
              refine ⟨KeepX.below hq2, ?_⟩
              have hb2 := hj.trans (hq2.mono hj.size)
              clear hq2 hj
              have HM := Lib.hid ((hb2.block _ lm).trans HM.out)
              have HP := Lib.hid ((hb2.block _ lp).trans HP.out)
              have HI := Lib.hid ((hb2.block _ li).trans HI.out)
              have HFL := Lib.hid (HFL.out.ext (Ext.below hb2))
              have BC := Lib.hid (BC.out.trans (hb2.mono BC.out.size))
              clear hb2
              clear ym0 ym2 yp0 yp1 yp2 yp3 yp4 yp5 yi0 yi1 yi2 yi3 yi4 yi5 yi6 yi7 yi8 yi9 yi10 z0 z1 z2 z3 z4 z5 z6 z7 z8 z9
              obtain ⟨ym0, -, ym2, -, lm⟩ := cl4 HM.out
              obtain ⟨yp0, yp1, yp2, yp3, yp4, yp5, lp⟩ := cl6 HP.out
              obtain ⟨yi0, yi1, yi2, yi3, yi4, yi5, yi6, yi7, yi8, yi9, yi10, li⟩ := cl11 HI.out
              obtain ⟨z0, z1, z2, z3, z4, z5, z6, z7, z8, z9, lg⟩ := fz_1 HFL.out
              refine J_mobs [7, 8] _ _ _ _ (by kernel_rfl) ?_
              simp only [List.map_cons, List.map_nil, List.getElem?_toArray, List.getElem?_cons_succ, List.getElem?_cons_zero, Option.getD_some, List.size_toArray, List.length_cons, List.length_nil, Nat.reduceAdd, Nat.reduceSub]
              repeat (go_big_quiet_step (fail))
              refine wpQuiet_nil ?_
              refine J_mobs [9, 10, 11, 12, 13, 14] _ _ _ _ (by kernel_rfl) ?_
              simp only [List.map_cons, List.map_nil, List.getElem?_toArray, List.getElem?_cons_succ, List.getElem?_cons_zero, Option.getD_some, List.size_toArray, List.length_cons, List.length_nil, Nat.reduceAdd, Nat.reduceSub]
              repeat (go_big_quiet_step (fail))
              refine wpQuiet_nil ?_
              refine J_loud1 15 _ rfl (by kernel_rfl) ?_
              simp only [List.getElem_toArray, List.getElem_cons_succ, List.getElem_cons_zero]
              intro wj hj
              go_wp2_with fail
              refine ⟨KeepX.refl _ _, ?_⟩
              have HM := Lib.hid ((hj.block _ lm).trans HM.out)
              have HP := Lib.hid ((hj.block _ lp).trans HP.out)
              have HI := Lib.hid ((hj.block _ li).trans HI.out)
              have HFL := Lib.hid (HFL.out.ext (Ext.below hj))
              have BC := Lib.hid (BC.out.trans (hj.mono BC.out.size))
              clear hj
              clear ym0 ym2 yp0 yp1 yp2 yp3 yp4 yp5 yi0 yi1 yi2 yi3 yi4 yi5 yi6 yi7 yi8 yi9 yi10 z0 z1 z2 z3 z4 z5 z6 z7 z8 z9
              obtain ⟨ym0, -, ym2, -, lm⟩ := cl4 HM.out
              obtain ⟨yp0, yp1, yp2, yp3, yp4, yp5, lp⟩ := cl6 HP.out
              obtain ⟨yi0, yi1, yi2, yi3, yi4, yi5, yi6, yi7, yi8, yi9, yi10, li⟩ := cl11 HI.out
              obtain ⟨z0, z1, z2, z3, z4, z5, z6, z7, z8, z9, lg⟩ := fz_1 HFL.out
              refine J_mobs [16, 17, 18] _ _ _ _ (by kernel_rfl) ?_
              simp only [List.map_cons, List.map_nil, List.getElem?_toArray, List.getElem?_cons_succ, List.getElem?_cons_zero, Option.getD_some, List.size_toArray, List.length_cons, List.length_nil, Nat.reduceAdd, Nat.reduceSub]
              repeat (go_big_quiet_step (fail))
              refine wpQuiet_nil ?_
              refine J_mobs [19, 20, 21, 22, 23, 24] _ _ _ _ (by kernel_rfl) ?_
              simp only [List.map_cons, List.map_nil, List.getElem?_toArray, List.getElem?_cons_succ, List.getElem?_cons_zero, Option.getD_some, List.size_toArray, List.length_cons, List.length_nil, Nat.reduceAdd, Nat.reduceSub]
              repeat (go_big_quiet_step (fail))
              refine wpQuiet_nil ?_
              refine J_loud1 25 _ rfl (by kernel_rfl) ?_
              simp only [List.getElem_toArray, List.getElem_cons_succ, List.getElem_cons_zero]
              intro wj hj
              go_wp2_with fail
              refine ⟨KeepX.refl _ _, ?_⟩
              have HM := Lib.hid ((hj.block _ lm).trans HM.out)
              have HP := Lib.hid ((hj.block _ lp).trans HP.out)
              have HI := Lib.hid ((hj.block _ li).trans HI.out)
              have HFL := Lib.hid (HFL.out.ext (Ext.below hj))
              have BC := Lib.hid (BC.out.trans (hj.mono BC.out.size))
              clear hj
              clear ym0 ym2 yp0 yp1 yp2 yp3 yp4 yp5 yi0 yi1 yi2 yi3 yi4 yi5 yi6 yi7 yi8 yi9 yi10 z0 z1 z2 z3 z4 z5 z6 z7 z8 z9
              obtain ⟨ym0, -, ym2, -, lm⟩ := cl4 HM.out
              obtain ⟨yp0, yp1, yp2, yp3, yp4, yp5, lp⟩ := cl6 HP.out
              obtain ⟨yi0, yi1, yi2, yi3, yi4, yi5, yi6, yi7, yi8, yi9, yi10, li⟩ := cl11 HI.out
              obtain ⟨z0, z1, z2, z3, z4, z5, z6, z7, z8, z9, lg⟩ := fz_1 HFL.out
              refine J_mobs [26, 27] _ _ _ _ (by kernel_rfl) ?_
              simp only [List.map_cons, List.map_nil, List.getElem?_toArray, List.getElem?_cons_succ, List.getElem?_cons_zero, Option.getD_some, List.size_toArray, List.length_cons, List.length_nil, Nat.reduceAdd, Nat.reduceSub]
              repeat (go_big_quiet_step (fail))
              refine wpQuiet_nil ?_
              refine J_done (by kernel_rfl) (fun wk hk => ?_) _
              have HM := Lib.hid ((hk.block _ lm).trans HM.out)
              have HP := Lib.hid ((hk.block _ lp).trans HP.out)
              have HI := Lib.hid ((hk.block _ li).trans HI.out)
              have HFL := Lib.hid (HFL.out.ext (Ext.below hk))
              have BC := Lib.hid (BC.out.trans (hk.mono BC.out.size))
              clear hk
              clear ym0 ym2 yp0 yp1 yp2 yp3 yp4 yp5 yi0 yi1 yi2 yi3 yi4 yi5 yi6 yi7 yi8 yi9 yi10 z0 z1 z2 z3 z4 z5 z6 z7 z8 z9
              obtain ⟨ym0, -, ym2, -, lm⟩ := cl4 HM.out
              obtain ⟨yp0, yp1, yp2, yp3, yp4, yp5, lp⟩ := cl6 HP.out
              obtain ⟨yi0, yi1, yi2, yi3, yi4, yi5, yi6, yi7, yi8, yi9, yi10, li⟩ := cl11 HI.out
              obtain ⟨z0, z1, z2, z3, z4, z5, z6, z7, z8, z9, lg⟩ := fz_1 HFL.out
              have HV2 : Hid (V = false) := by
                show _ = _
                rw [HF.out]
                simp [*]
              clear HF
              go_wp2_with fail
              go_ret
              exact ⟨ret_b HV2.out.symm, BC.out⟩
            · rw [kr5] at kr5e
              refine J_loud1 6 _ rfl (by kernel_rfl) ?_
              simp only [List.getElem_toArray, List.getElem_cons_succ, List.getElem_cons_zero]
              intro wj hj
              go_wp2_with fail
              refine (kr5e.out wj (Ext.below (BC.out.trans (hj.mono BC.out.size)))).mono ?_
              rintro e w2 ⟨rfl, hq2⟩
              go_wp2_with fail
              refine ⟨KeepX.below hq2, ?_⟩
              have hb2 := hj.trans (hq2.mono hj.size)
              clear hq2 hj
              have HM := Lib.hid ((hb2.block _ lm).trans HM.out)
              have HP := Lib.hid ((hb2.block _ lp).trans HP.out)
              have HI := Lib.hid ((hb2.block _ li).trans HI.out)
              have HFL := Lib.hid (HFL.out.ext (Ext.below hb2))
              have BC := Lib.hid (BC.out.trans (hb2.mono BC.out.size))
              clear hb2
              clear ym0 ym2 yp0 yp1 yp2 yp3 yp4 yp5 yi0 yi1 yi2 yi3 yi4 yi5 yi6 yi7 yi8 yi9 yi10 z0 z1 z2 z3 z4 z5 z6 z7 z8 z9
              obtain ⟨ym0, -, ym2, -, lm⟩ := cl4 HM.out
              obtain ⟨yp0, yp1, yp2, yp3, yp4, yp5, lp⟩ := cl6 HP.out
              obtain ⟨yi0, yi1, yi2, yi3, yi4, yi5, yi6, yi7, yi8, yi9, yi10, li⟩ := cl11 HI.out
              obtain ⟨z0, z1, z2, z3, z4, z5, z6, z7, z8, z9, lg⟩ := fz_1 HFL.out
              refine J_mobs [7, 8] _ _ _ _ (by kernel_rfl) ?_
              simp only [List.map_cons, List.map_nil, List.getElem?_toArray, List.getElem?_cons_succ, List.getElem?_cons_zero, Option.getD_some, List.size_toArray, List.length_cons, List.length_nil, Nat.reduceAdd, Nat.reduceSub]
              repeat (go_big_quiet_step (fail))
              refine wpQuiet_nil ?_
              refine J_mobs [9, 10, 11, 12, 13, 14] _ _ _ _ (by kernel_rfl) ?_
              simp only [List.map_cons, List.map_nil, List.getElem?_toArray, List.getElem?_cons_succ, List.getElem?_cons_zero, Option.getD_some, List.size_toArray, List.length_cons, List.length_nil, Nat.reduceAdd, Nat.reduceSub]
              repeat (go_big_quiet_step (fail))
              refine wpQuiet_nil ?_
              have kr6e := Lib.hid (ER.out ra false)
              have kr6f : Hid (regF p ra false = regF p ra false) := rfl
              cases kr6 : regF p ra false
              · rw [kr6] at kr6e
                refine J_loud1 15 _ rfl (by kernel_rfl) ?_
                simp only [List.getElem_toArray, List.getElem_cons_succ, List.getElem_cons_zero]
                intro wj hj
                go_wp2_with fail
                refine (kr6e.out wj (Ext.below (BC.out.trans (hj.mono BC.out.size)))).mono ?_
                rintro e w2 ⟨rfl, hq2⟩
                go_wp2_with fail
                refine ⟨KeepX.below hq2, ?_⟩
                have hb2 := hj.trans (hq2.mono hj.size)
                clear hq2 hj
                have HM := Lib.hid ((hb2.block _ lm).trans HM.out)
                have HP := Lib.hid ((hb2.block _ lp).trans HP.out)
                have HI := Lib.hid ((hb2.block _ li).trans HI.out)
                have HFL := Lib.hid (HFL.out.ext (Ext.below hb2))
                have BC := Lib.hid (BC.out.trans (hb2.mono BC.out.size))
                clear hb2
                clear ym0 ym2 yp0 yp1 yp2 yp3 yp4 yp5 yi0 yi1 yi2 yi3 yi4 yi5 yi6 yi7 yi8 yi9 yi10 z0 z1 z2 z3 z4 z5 z6 z7 z8 z9
                obtain ⟨ym0, -, ym2, -, lm⟩ := cl4 HM.out
                obtain ⟨yp0, yp1, yp2, yp3, yp4, yp5, lp⟩ := cl6 HP.out
                obtain ⟨yi0, yi1, yi2, yi3, yi4, yi5, yi6, yi7, yi8, yi9, yi10, li⟩ := cl11 HI.out
                obtain ⟨z0, z1, z2, z3, z4, z5, z6, z7, z8, z9, lg⟩ := fz_1 HFL.out
                refine J_mobs [16, 17, 18] _ _ _ _ (by kernel_rfl) ?_
                simp only [List.map_cons, List.map_nil, List.getElem?_toArray, List.getElem?_cons_succ, List.getElem?_cons_zero, Option.getD_some, List.size_toArray, List.length_cons, List.length_nil, Nat.reduceAdd, Nat.reduceSub]
                repeat (go_big_quiet_step (fail))
                refine wpQuiet_nil ?_
                refine J_mobs [19, 20, 21, 22, 23, 24] _ _ _ _ (by kernel_rfl) ?_
                simp only [List.map_cons, List.map_nil, List.getElem?_toArray, List.getElem?_cons_succ, List.getElem?_cons_zero, Option.getD_some, List.size_toArray, List.length_cons, List.length_nil, Nat.reduceAdd, Nat.reduceSub]
                repeat (go_big_quiet_step (fail))
                refine wpQuiet_nil ?_
                refine J_loud1 25 _ rfl (by kernel_rfl) ?_
                simp only [List.getElem_toArray, List.getElem_cons_succ, List.getElem_cons_zero]
                intro wj hj
                go_wp2_with fail
                refine ⟨KeepX.refl _ _, ?_⟩
                have HM := Lib.hid ((hj.block _ lm).trans HM.out)
                have HP := Lib.hid ((hj.block _ lp).trans HP.out)
                have HI := Lib.hid ((hj.block _ li).trans HI.out)
                have HFL := Lib.hid (HFL.out.ext (Ext.below hj))
                have BC := Lib.hid (BC.out.trans (hj.mono BC.out.size))
                clear hj
                clear ym0 ym2 yp0 yp1 yp2 yp3 yp4 yp5 yi0 yi1 yi2 yi3 yi4 yi5 yi6 yi7 yi8 yi9 yi10 z0 z1 z2 z3 z4 z5 z6 z7 z8 z9
                obtain ⟨ym0, -, ym2, -, lm⟩ := cl4 HM.out
                obtain ⟨yp0, yp1, yp2, yp3, yp4, yp5, lp⟩ := cl6 HP.out
                obtain ⟨yi0, yi1, yi2, yi3, yi4, yi5, yi6, yi7, yi8, yi9, yi10, li⟩ := cl11 HI.out
                obtain ⟨z0, z1, z2, z3, z4, z5, z6, z7, z8, z9, lg⟩ := fz_1 HFL.out
                refine J_mobs [26, 27] _ _ _ _ (by kernel_rfl) ?_
                simp only [List.map_cons, List.map_nil, List.getElem?_toArray, List.getElem?_cons_succ, List.getElem?_cons_zero, Option.getD_some, List.size_toArray, List.length_cons, List.length_nil, Nat.reduceAdd, Nat.reduceSub]
                repeat (go_big_quiet_step (fail))
                refine wpQuiet_nil ?_
                refine J_done (by kernel_rfl) (fun wk hk => ?_) _
                have HM := Lib.hid ((hk.block _ lm).trans HM.out)
                have HP := Lib.hid ((hk.block _ lp).trans HP.out)
                have HI := Lib.hid ((hk.block _ li).trans HI.out)
                have HFL := Lib.hid (HFL.out.ext (Ext.below hk))
                have BC := Lib.hid (BC.out.trans (hk.mono BC.out.size))
                clear hk
                clear ym0 ym2 yp0 yp1 yp2 yp3 yp4 yp5 yi0 yi1 yi2 yi3 yi4 yi5 yi6 yi7 yi8 yi9 yi10 z0 z1 z2 z3 z4 z5 z6 z7 z8 z9
                obtain ⟨ym0, -, ym2, -, lm⟩ := cl4 HM.out
                obtain ⟨yp0, yp1, yp2, yp3, yp4, yp5, lp⟩ := cl6 HP.out
                obtain ⟨yi0, yi1, yi2, yi3, yi4, yi5, yi6, yi7, yi8, yi9, yi10, li⟩ := cl11 HI.out
                obtain ⟨z0, z1, z2, z3, z4, z5, z6, z7, z8, z9, lg⟩ := fz_1 HFL.out
                have HV2 : Hid (V = false) := by
                  show _ = _
                  rw [HF.out]
                  simp [*]
                clear HF
                go_wp2_with fail
                go_ret
                exact ⟨ret_b HV2.out.symm, BC.out⟩
              · rw [kr6] at kr6e
                refine J_loud1 15 _ rfl (by kernel_rfl) ?_
                simp only [List.getElem_toArray, List.getElem_cons_succ, List.getElem_cons_zero]
                intro wj hj
                go_wp2_with fail
                refine (kr6e.out wj (Ext.below (BC.out.trans (hj.mono BC.out.size)))).mono ?_
                rintro e w2 ⟨rfl, hq2⟩
                go_wp2_with fail
                refine ⟨KeepX.below hq2, ?_⟩
                have hb2 := hj.trans (hq2.mono hj.size)
                clear hq2 hj
                have HM := Lib.hid ((hb2.block _ lm).trans HM.out)
                have HP := Lib.hid ((hb2.block _ lp).trans HP.out)
                have HI := Lib.hid ((hb2.block _ li).trans HI.out)
                have HFL := Lib.hid (HFL.out.ext (Ext.below hb2))
                have BC := Lib.hid (BC.out.trans (hb2.mono BC.out.size))
                clear hb2
                clear ym0 ym2 yp0 yp1 yp2 yp3 yp4 yp5 yi0 yi1 yi2 yi3 yi4 yi5 yi6 yi7 yi8 yi9 yi10 z0 z1 z2 z3 z4 z5 z6 z7 z8 z9
                obtain ⟨ym0, -, ym2, -, lm⟩ := cl4 HM.out
                obtain ⟨yp0, yp1, yp2, yp3, yp4, yp5, lp⟩ := cl6 HP.out
                obtain ⟨yi0, yi1, yi2, yi3, yi4, yi5, yi6, yi7, yi8, yi9, yi10, li⟩ := cl11 HI.out
                obtain ⟨z0, z1, z2, z3, z4, z5, z6, z7, z8, z9, lg⟩ := fz_1 HFL.out
                refine J_mobs [16, 17, 18] _ _ _ _ (by kernel_rfl) ?_
                simp only [List.map_cons, List.map_nil, List.getElem?_toArray, List.getElem?_cons_succ, List.getElem?_cons_zero, Option.getD_some, List.size_toArray, List.length_cons, List.length_nil, Nat.reduceAdd, Nat.reduceSub]
                repeat (go_big_quiet_step (fail))
                refine wpQuiet_nil ?_
                refine J_mobs [19, 20, 21, 22, 23, 24] _ _ _ _ (by kernel_rfl) ?_
                simp only [List.map_cons, List.map_nil, List.getElem?_toArray, List.getElem?_cons_succ, List.getElem?_cons_zero, Option.getD_some, List.size_toArray, List.length_cons, List.length_nil, Nat.reduceAdd, Nat.reduceSub]
                repeat (go_big_quiet_step (fail))
                refine wpQuiet_nil ?_
                have kr7e := Lib.hid (ER.out rb false)
                have kr7f : Hid (regF p rb false = regF p rb false) := rfl
                cases kr7 : regF p rb false
                · rw [kr7] at kr7e
                  refine J_loud1 25 _ rfl (by kernel_rfl) ?_
                  simp only [List.getElem_toArray, List.getElem_cons_succ, List.getElem_cons_zero]
                  intro wj hj
                  go_wp2_with fail
                  refine (kr7e.out wj (Ext.below (BC.out.trans (hj.mono BC.out.size)))).mono ?_
                  rintro e w2 ⟨rfl, hq2⟩
                  go_wp2_with fail
                  refine ⟨KeepX.below hq2, ?_⟩
                  have hb2 := hj.trans (hq2.mono hj.size)
                  clear hq2 hj
                  have HM := Lib.hid ((hb2.block _ lm).trans HM.out)
                  have HP := Lib.hid ((hb2.block _ lp).trans HP.out)
                  have HI := Lib.hid ((hb2.block _ li).trans HI.out)
                  have HFL := Lib.hid (HFL.out.ext (Ext.below hb2))
                  have BC := Lib.hid (BC.out.trans (hb2.mono BC.out.size))
                  clear hb2
                  clear ym0 ym2 yp0 yp1 yp2 yp3 yp4 yp5 yi0 yi1 yi2 yi3 yi4 yi5 yi6 yi7 yi8 yi9 yi10 z0 z1 z2 z3 z4 z5 z6 z7 z8 z9
                  obtain ⟨ym0, -, ym2, -, lm⟩ := cl4 HM.out
                  obtain ⟨yp0, yp1, yp2, yp3, yp4, yp5, lp⟩ := cl6 HP.out
                  obtain ⟨yi0, yi1, yi2, yi3, yi4, yi5, yi6, yi7, yi8, yi9, yi10, li⟩ := cl11 HI.out
                  obtain ⟨z0, z1, z2, z3, z4, z5, z6, z7, z8, z9, lg⟩ := fz_1 HFL.out
                  refine J_mobs [26, 27] _ _ _ _ (by kernel_rfl) ?_
                  simp only [List.map_cons, List.map_nil, List.getElem?_toArray, List.getElem?_cons_succ, List.getElem?_cons_zero, Option.getD_some, List.size_toArray, List.length_cons, List.length_nil, Nat.reduceAdd, Nat.reduceSub]
                  repeat (go_big_quiet_step (fail))
                  refine wpQuiet_nil ?_
                  refine J_done (by kernel_rfl) (fun wk hk => ?_) _
                  have HM := Lib.hid ((hk.block _ lm).trans HM.out)
                  have HP := Lib.hid ((hk.block _ lp).trans HP.out)
                  have HI := Lib.hid ((hk.block _ li).trans HI.out)
                  have HFL := Lib.hid (HFL.out.ext (Ext.below hk))
                  have BC := Lib.hid (BC.out.trans (hk.mono BC.out.size))
                  clear hk
                  clear ym0 ym2 yp0 yp1 yp2 yp3 yp4 yp5 yi0 yi1 yi2 yi3 yi4 yi5 yi6 yi7 yi8 yi9 yi10 z0 z1 z2 z3 z4 z5 z6 z7 z8 z9
                  obtain ⟨ym0, -, ym2, -, lm⟩ := cl4 HM.out
                  obtain ⟨yp0, yp1, yp2, yp3, yp4, yp5, lp⟩ := cl6 HP.out
                  obtain ⟨yi0, yi1, yi2, yi3, yi4, yi5, yi6, yi7, yi8, yi9, yi10, li⟩ := cl11 HI.out
                  obtain ⟨z0, z1, z2, z3, z4, z5, z6, z7, z8, z9, lg⟩ := fz_1 HFL.out
                  have HV2 : Hid (V = false) := by
                    show _ = _
                    rw [HF.out]
                    simp [*]
                  clear HF
                  go_wp2_with fail
                  go_ret
                  exact ⟨ret_b HV2.out.symm, BC.out⟩
                · rw [kr7] at kr7e
                  refine J_loud1 25 _ rfl (by kernel_rfl) ?_
                  simp only [List.getElem_toArray, List.getElem_cons_succ, List.getElem_cons_zero]
                  intro wj hj
                  go_wp2_with fail
                  refine (kr7e.out wj (Ext.below (BC.out.trans (hj.mono BC.out.size)))).mono ?_
                  rintro e w2 ⟨rfl, hq2⟩
                  go_wp2_with fail
                  refine ⟨KeepX.below hq2, ?_⟩
                  have hb2 := hj.trans (hq2.mono hj.size)
                  clear hq2 hj
                  have HM := Lib.hid ((hb2.block _ lm).trans HM.out)
                  have HP := Lib.hid ((hb2.block _ lp).trans HP.out)
                  have HI := Lib.hid ((hb2.block _ li).trans HI.out)
                  have HFL := Lib.hid (HFL.out.ext (Ext.below hb2))
                  have BC := Lib.hid (BC.out.trans (hb2.mono BC.out.size))
                  clear hb2
                  clear ym0 ym2 yp0 yp1 yp2 yp3 yp4 yp5 yi0 yi1 yi2 yi3 yi4 yi5 yi6 yi7 yi8 yi9 yi10 z0 z1 z2 z3 z4 z5 z6 z7 z8 z9
                  obtain ⟨ym0, -, ym2, -, lm⟩ := cl4 HM.out
                  obtain ⟨yp0, yp1, yp2, yp3, yp4, yp5, lp⟩ := cl6 HP.out
                  obtain ⟨yi0, yi1, yi2, yi3, yi4, yi5, yi6, yi7, yi8, yi9, yi10, li⟩ := cl11 HI.out
                  obtain ⟨z0, z1, z2, z3, z4, z5, z6, z7, z8, z9, lg⟩ := fz_1 HFL.out
                  refine J_mobs [26, 27] _ _ _ _ (by kernel_rfl) ?_
                  simp only [List.map_cons, List.map_nil, List.getElem?_toArray, List.getElem?_cons_succ, List.getElem?_cons_zero, Option.getD_some, List.size_toArray, List.length_cons, List.length_nil, Nat.reduceAdd, Nat.reduceSub]
                  repeat (go_big_quiet_step (fail))
                  refine wpQuiet_nil ?_
                  refine J_done (by kernel_rfl) (fun wk hk => ?_) _
                  have HM := Lib.hid ((hk.block _ lm).trans HM.out)
                  have HP := Lib.hid ((hk.block _ lp).trans HP.out)
                  have HI := Lib.hid ((hk.block _ li).trans HI.out)
                  have HFL := Lib.hid (HFL.out.ext (Ext.below hk))
                  have BC := Lib.hid (BC.out.trans (hk.mono BC.out.size))
                  clear hk
                  clear ym0 ym2 yp0 yp1 yp2 yp3 yp4 yp5 yi0 yi1 yi2 yi3 yi4 yi5 yi6 yi7 yi8 yi9 yi10 z0 z1 z2 z3 z4 z5 z6 z7 z8 z9
                  obtain ⟨ym0, -, ym2, -, lm⟩ := cl4 HM.out
                  obtain ⟨yp0, yp1, yp2, yp3, yp4, yp5, lp⟩ := cl6 HP.out
                  obtain ⟨yi0, yi1, yi2, yi3, yi4, yi5, yi6, yi7, yi8, yi9, yi10, li⟩ := cl11 HI.out
                  obtain ⟨z0, z1, z2, z3, z4, z5, z6, z7, z8, z9, lg⟩ := fz_1 HFL.out
                  have go1 : decide (off < -32768) = false := decide_eq_false (by have := (‹Hid (off = 0)›).out; omega)
                  have go2 : decide (32768 < off) = false := decide_eq_false (by have := (‹Hid (off = 0)›).out; omega)
                  have HV2 : Hid (V = true) := by
                    show _ = _
                    rw [HF.out]
                    simp [*]
                  clear HF
                  go_wp2_with fail
                  go_ret
                  exact ⟨ret_b HV2.out.symm, BC.out⟩
          · have ga1 : decide ((0 : Int) < (args.length : Int)) = true := decide_eq_true (by omega)
            have ga2 : decide (0 < args.length) = true := decide_eq_true (by omega)
            have ga3 : decide (args.length = 0) = false := decide_eq_false ka
            refine wp_region_text (by kernel_rfl) ?_
            simp only [List.append_eq, List.cons_append, List.nil_append]
            repeat (go_big_quiet_step (fail))
            refine wpQuiet_nil ?_
            have HV2 : Hid (V = false) := by
              show _ = _
              rw [HF.out]
              simp [*]
            clear HF
            go_wp2_with fail
            go_ret
            exact ⟨ret_b HV2.out.symm, BC.out⟩
        · have gk4 : (size == 0) = false := beq_eq_false_iff_ne.2 k4
          have gn4 : (size != 0) = true := bne_iff_ne.2 k4
          have kh4 := Lib.hid k4
          clear k4
          refine wp_region_text (by kernel_rfl) ?_
          simp only [List.append_eq, List.cons_append, List.nil_append]
          repeat (go_big_quiet_step (fail))
          refine wpQuiet_nil ?_
          have HV2 : Hid (V = false) := by
            show _ = _
            rw [HF.out]
            simp [*]
          clear HF
          go_wp2_with fail
          go_ret
          exact ⟨ret_b HV2.out.symm, BC.out⟩
      · have gk3 : (off == 0) = false := beq_eq_false_iff_ne.2 k3
        have gn3 : (off != 0) = true := bne_iff_ne.2 k3
        have kh3 := Lib.hid k3
        clear k3
        refine wp_region_text (by kernel_rfl) ?_
        simp only [List.append_eq, List.cons_append, List.nil_append]
        repeat (go_big_quiet_step (fail))
        refine wpQuiet_nil ?_
        have HV2 : Hid (V = false) := by
          show _ = _
          rw [HF.out]
          simp [*]
        clear HF
        go_wp2_with fail
        go_ret
        exact ⟨ret_b HV2.out.symm, BC.out⟩
    · have gk2 : (obj == 0) = false := beq_eq_false_iff_ne.2 k2
      have gn2 : (obj != 0) = true := bne_iff_ne.2 k2
      have kh2 := Lib.hid k2
      clear k2
      refine wp_region_text (by kernel_rfl) ?_
      simp only [List.append_eq, List.cons_append, List.nil_append]
      repeat (go_big_quiet_step (fail))
      refine wpQuiet_nil ?_
      have HV2 : Hid (V = false) := by
        show _ = _
        rw [HF.out]
        simp [*]
      clear HF
      go_wp2_with fail
      go_ret
      exact ⟨ret_b HV2.out.symm, BC.out⟩
  · have gk1 : (fn == 0) = false := beq_eq_false_iff_ne.2 k1
    have gn1 : (fn != 0) = true := bne_iff_ne.2 k1
    have kh1 := Lib.hid k1
    clear k1
    refine wp_region_text (by kernel_rfl) ?_
    simp only [List.append_eq, List.cons_append, List.nil_append]
    repeat (go_big_quiet_step (fail))
    refine wpQuiet_nil ?_
    have HV2 : Hid (V = false) := by
      show _ = _
      rw [HF.out]
      simp [*]
    clear HF
    go_wp2_with fail
    go_ret
    exact ⟨ret_b HV2.out.symm, BC.out⟩
theorem fz_2 {w : World} {g : Nat} (h : FldAt w 2 g) : w.cell? ⟨g, 0, none⟩ = some (.bool true) ∧ w.cell? ⟨g, 1, none⟩ = some (.bool true) ∧ w.cell? ⟨g, 2, none⟩ = some (.bool false) ∧ w.cell? ⟨g, 3, none⟩ = some (.bool false) ∧ w.cell? ⟨g, 4, none⟩ = some (.bool false) ∧ w.cell? ⟨g, 5, none⟩ = some (.bool false) ∧ w.cell? ⟨g, 6, none⟩ = some (.bool false) ∧ w.cell? ⟨g, 7, none⟩ = some (.bool false) ∧ w.cell? ⟨g, 8, none⟩ = some (.bool false) ∧ w.cell? ⟨g, 9, none⟩ = some (.bool true) ∧ g < w.heap.size := ⟨h.c0, h.c1, h.c2, h.c3, h.c4, h.c5, h.c6, h.c7, h.c8, h.c9, h.lt⟩
theorem okI_2 (m : Md) (p : Pr) (d ra rb fn obj off size num : Int) (args : List Int) (log : Bool) : okI m p ⟨2, d, ra, rb, fn, obj, off, size, num, args, log⟩ = ((fn == 0) && ((obj == 0) && ((off == 0) && ((size == 0) && ((num == 0) && (decide (args.length = 0) && (regF p d true && (regF p ra true && (regF p rb false))))))))) := by
  cases log <;> (rw [Bool.eq_iff_iff]; simp [okI, bareF, plainI, regF, moreF, offF, readsA, readsB, defI, -List.length_eq_zero_iff] <;> omega)
theorem rins_2 (m : Md) (p : Pr) (v V0 : Value) (d ra rb fn obj off size num : Int) (args : List Int) (log : Bool) (aa : Option Addr) (ca : Nat) (w : World) (hm : MdV w v m) (hp : PrV w V0 p) (ha2 : ca ≤ 9223372036854775807) (ha1 : args.length ≤ ca) (h0 : 0 ≤ p.regs) (h1 : p.regs ≤ 100000) :
    Calls Tryd.prog 41 #[v, V0, .agg #[.int .i64 2, .int .i64 d, .int .i64 ra, .int .i64 rb, .int .i64 fn, .int .i64 obj, .int .i64 off, .int .i64 size, .int .u32 num, .slice aa args.length ca, .bool log]] w fun e w' => e = .returned (.bool (okI m p ⟨2, d, ra, rb, fn, obj, off, size, num, args, log⟩)) ∧ Below w.heap.size w w' := by
  obtain ⟨V, hV⟩ : ∃ V, okI m p ⟨2, d, ra, rb, fn, obj, off, size, num, args, log⟩ = V := ⟨_, rfl⟩
  rw [hV]
  have HF := Lib.hid (hV.symm.trans (okI_2 m p d ra rb fn obj off size num args log))
  clear hV
  have ER : Hid (∀ r s w', Ext w w' → Calls Tryd.prog 63 #[V0, .int .i64 r, .bool s] w' fun e w'' => e = .returned (.bool (regF p r s)) ∧ Below w'.heap.size w' w'') := fun r s w' he => rregister_c p V0 r s w' (hp.ext he) h0 h1
  obtain ⟨nm, vo, vb, rfl, ⟨ao, co, rfl, -, hco, -⟩, ⟨ab, cb, rfl, -, hcb, -⟩⟩ := hp
  obtain ⟨vg, vd, vp, rfl, ⟨ag, cg, rfl, hcg1, hcg, -⟩, ⟨ad, cd, rfl, -⟩, ⟨ap, cp, rfl, hcp1, hcp, -⟩⟩ := hm
  unfold maxLen at hco hcb hcg hcp
  have EF := Lib.hid (fun w => fields_c 2 w (by decide) (by decide))
  go_enter Tryd.func41, Tryd.ntmps41
  go_wp2_with fail
  refine (EF.out _).mono ?_
  rintro e w1 ⟨g, rfl, hg, hf, hb⟩
  have HM : Hid (w1.heap[w.heap.size]? = some (.cells #[.slice ag m.globs.length cg, .slice ad m.data.length cd, .slice ap m.procs.length cp, .int .i64 m.main] 26 (0, 0))) := (hb.block w.heap.size (by simp <;> omega)).trans (allocs_heap [.cells #[.slice ag m.globs.length cg, .slice ad m.data.length cd, .slice ap m.procs.length cp, .int .i64 m.main] 26, .cells #[.string nm, .bool p.void, .int .i64 p.params, .int .i64 p.regs, .slice ao p.objs.length co, .slice ab p.blks.length cb] 37, .cells #[.int .i64 2, .int .i64 d, .int .i64 ra, .int .i64 rb, .int .i64 fn, .int .i64 obj, .int .i64 off, .int .i64 size, .int .u32 num, .slice aa args.length ca, .bool log] 45] w 0 (by simp))
  have HP : Hid (w1.heap[w.heap.size + 1]? = some (.cells #[.string nm, .bool p.void, .int .i64 p.params, .int .i64 p.regs, .slice ao p.objs.length co, .slice ab p.blks.length cb] 37 (0, 0))) := (hb.block (w.heap.size + 1) (by simp <;> omega)).trans (allocs_heap [.cells #[.slice ag m.globs.length cg, .slice ad m.data.length cd, .slice ap m.procs.length cp, .int .i64 m.main] 26, .cells #[.string nm, .bool p.void, .int .i64 p.params, .int .i64 p.regs, .slice ao p.objs.length co, .slice ab p.blks.length cb] 37, .cells #[.int .i64 2, .int .i64 d, .int .i64 ra, .int .i64 rb, .int .i64 fn, .int .i64 obj, .int .i64 off, .int .i64 size, .int .u32 num, .slice aa args.length ca, .bool log] 45] w 1 (by simp))
  have HI : Hid (w1.heap[w.heap.size + 1 + 1]? = some (.cells #[.int .i64 2, .int .i64 d, .int .i64 ra, .int .i64 rb, .int .i64 fn, .int .i64 obj, .int .i64 off, .int .i64 size, .int .u32 num, .slice aa args.length ca, .bool log] 45 (0, 0))) := (hb.block (w.heap.size + 1 + 1) (by simp <;> omega)).trans (allocs_heap [.cells #[.slice ag m.globs.length cg, .slice ad m.data.length cd, .slice ap m.procs.length cp, .int .i64 m.main] 26, .cells #[.string nm, .bool p.void, .int .i64 p.params, .int .i64 p.regs, .slice ao p.objs.length co, .slice ab p.blks.length cb] 37, .cells #[.int .i64 2, .int .i64 d, .int .i64 ra, .int .i64 rb, .int .i64 fn, .int .i64 obj, .int .i64 off, .int .i64 size, .int .u32 num, .slice aa args.length ca, .bool log] 45] w 2 (by simp))
  have HFL := Lib.hid hf
  have BC : Hid (Below w.heap.size w w1) := below3c hb
  clear hg hf hb
  obtain ⟨ym0, -, ym2, -, lm⟩ := cl4 HM.out
  obtain ⟨yp0, yp1, yp2, yp3, yp4, yp5, lp⟩ := cl6 HP.out
  obtain ⟨yi0, yi1, yi2, yi3, yi4, yi5, yi6, yi7, yi8, yi9, yi10, li⟩ := cl11 HI.out
  obtain ⟨z0, z1, z2, z3, z4, z5, z6, z7, z8, z9, lg⟩ := fz_2 HFL.out
  go_upto_region 4 with (fail)
  by_cases k8 : fn = 0
  · have gk8 : (fn == 0) = true := beq_iff_eq.2 k8
    have gn8 : (fn != 0) = false := bne_eq_false_iff_eq.2 k8
    have kh8 := Lib.hid k8
    clear k8
    by_cases k9 : obj = 0
    · have gk9 : (obj == 0) = true := beq_iff_eq.2 k9
      have gn9 : (obj != 0) = false := bne_eq_false_iff_eq.2 k9
      have kh9 := Lib.hid k9
      clear k9
      by_cases k10 : off = 0
      · have gk10 : (off == 0) = true := beq_iff_eq.2 k10
        have gn10 : (off != 0) = false := bne_eq_false_iff_eq.2 k10
        have kh10 := Lib.hid k10
        clear k10
        by_cases k11 : size = 0
        · have gk11 : (size == 0) = true := beq_iff_eq.2 k11
          have gn11 : (size != 0) = false := bne_eq_false_iff_eq.2 k11
          have kh11 := Lib.hid k11
          clear k11
          by_cases k12 : num = 0
          · have gk12 : (num == 0) = true := beq_iff_eq.2 k12
            have gn12 : (num != 0) = false := bne_eq_false_iff_eq.2 k12
            have kh12 := Lib.hid k12
            clear k12
            by_cases ka : args.length = 0
            · have ga1 : decide ((0 : Int) < (args.length : Int)) = false := decide_eq_false (by omega)
              have ga2 : decide (0 < args.length) = false := decide_eq_false (by omega)
              have ga3 : decide (args.length = 0) = true := decide_eq_true ka
              have ka := Lib.hid ka
              refine wp_region_text (by kernel_rfl) ?_
              simp only [List.append_eq, List.cons_append, List.nil_append]
              repeat (go_big_quiet_step (fail))
              refine wpQuiet_nil ?_
              go_wp2_with fail
              refine wp_region_junk (fun _ => True) (by kernel_rfl) ?_
              refine J_mobs [0, 1, 2, 3, 4, 5] _ _ _ _ (by kernel_rfl) ?_
              simp only [List.map_cons, List.map_nil, List.getElem?_toArray, List.getElem?_cons_succ, List.getElem?_cons_zero, Option.getD_some, List.size_toArray, List.length_cons, List.length_nil, Nat.reduceAdd, Nat.reduceSub]
              repeat (go_big_quiet_step (fail))
              refine wpQuiet_nil ?_
              have kr13e := Lib.hid (ER.out d true)
              have kr13f : Hid (regF p d true = regF p d true) := rfl
              cases kr13 : regF p d true
              · rw [kr13] at kr13e
                refine J_loud1 6 _ rfl (by kernel_rfl) ?_
                simp only [List.getElem_toArray, List.getElem_cons_succ, List.getElem_cons_zero]
                intro wj hj
                go_wp2_with fail
                refine (kr13e.out wj (Ext.below (BC.out.trans (hj.mono BC.out.size)))).mono ?_
                rintro e w2 ⟨rfl, hq2⟩
                go_wp2_with fail
                refine ⟨KeepX.below hq2, ?_⟩
                have hb2 := hj.trans (hq2.mono hj.size)
                clear hq2 hj
                have HM := Lib.hid ((hb2.block _ lm).trans HM.out)
                have HP := Lib.hid ((hb2.block _ lp).trans HP.out)
                have HI := Lib.hid ((hb2.block _ li).trans HI.out)
                have HFL := Lib.hid (HFL.out.ext (Ext.below hb2))
                have BC := Lib.hid (BC.out.trans (hb2.mono BC.out.size))
                clear hb2
                clear ym0 ym2 yp0 yp1 yp2 yp3 yp4 yp5 yi0 yi1 yi2 yi3 yi4 yi5 yi6 yi7 yi8 yi9 yi10 z0 z1 z2 z3 z4 z5 z6 z7 z8 z9
                obtain ⟨ym0, -, ym2, -, lm⟩ := cl4 HM.out
                obtain ⟨yp0, yp1, yp2, yp3, yp4, yp5, lp⟩ := cl6 HP.out
                obtain ⟨yi0, yi1, yi2, yi3, yi4, yi5, yi6, yi7, yi8, yi9, yi10, li⟩ := cl11 HI.out
                obtain ⟨z0, z1, z2, z3, z4, z5, z6, z7, z8, z9, lg⟩ := fz_2 HFL.out
                refine J_mobs [7, 8] _ _ _ _ (by kernel_rfl) ?_
                simp only [List.map_cons, List.map_nil, List.getElem?_toArray, List.getElem?_cons_succ, List.getElem?_cons_zero, Option.getD_some, List.size_toArray, List.length_cons, List.length_nil, Nat.reduceAdd, Nat.reduceSub]
                repeat (go_big_quiet_step (fail))
                refine wpQuiet_nil ?_
                refine J_mobs [9, 10, 11, 12, 13, 14] _ _ _ _ (by kernel_rfl) ?_
                simp only [List.map_cons, List.map_nil, List.getElem?_toArray, List.getElem?_cons_succ, List.getElem?_cons_zero, Option.getD_some, List.size_toArray, List.length_cons, List.length_nil, Nat.reduceAdd, Nat.reduceSub]
                repeat (go_big_quiet_step (fail))
                refine wpQuiet_nil ?_
                refine J_loud1 15 _ rfl (by kernel_rfl) ?_
                simp only [List.getElem_toArray, List.getElem_cons_succ, List.getElem_cons_zero]
                intro wj hj
                go_wp2_with fail
                refine ⟨KeepX.refl _ _, ?_⟩
                have HM := Lib.hid ((hj.block _ lm).trans HM.out)
                have HP := Lib.hid ((hj.block _ lp).trans HP.out)
                have HI := Lib.hid ((hj.block _ li).trans HI.out)
                have HFL := Lib.hid (HFL.out.ext (Ext.below hj))
                have BC := Lib.hid (BC.out.trans (hj.mono BC.out.size))
                clear hj
                clear ym0 ym2 yp0 yp1 yp2 yp3 yp4 yp5 yi0 yi1 yi2 yi3 yi4 yi5 yi6 yi7 yi8 yi9 yi10 z0 z1 z2 z3 z4 z5 z6 z7 z8 z9
                obtain ⟨ym0, -, ym2, -, lm⟩ := cl4 HM.out
                obtain ⟨yp0, yp1, yp2, yp3, yp4, yp5, lp⟩ := cl6 HP.out
                obtain ⟨yi0, yi1, yi2, yi3, yi4, yi5, yi6, yi7, yi8, yi9, yi10, li⟩ := cl11 HI.out
                obtain ⟨z0, z1, z2, z3, z4, z5, z6, z7, z8, z9, lg⟩ := fz_2 HFL.out
                refine J_mobs [16, 17, 18] _ _ _ _ (by kernel_rfl) ?_
                simp only [List.map_cons, List.map_nil, List.getElem?_toArray, List.getElem?_cons_succ, List.getElem?_cons_zero, Option.getD_some, List.size_toArray, List.length_cons, List.length_nil, Nat.reduceAdd, Nat.reduceSub]
                repeat (go_big_quiet_step (fail))
                refine wpQuiet_nil ?_
                refine J_mobs [19, 20, 21, 22, 23, 24] _ _ _ _ (by kernel_rfl) ?_
                simp only [List.map_cons, List.map_nil, List.getElem?_toArray, List.getElem?_cons_succ, List.getElem?_cons_zero, Option.getD_some, List.size_toArray, List.length_cons, List.length_nil, Nat.reduceAdd, Nat.reduceSub]
                repeat (go_big_quiet_step (fail))
                refine wpQuiet_nil ?_
                refine J_loud1 25 _ rfl (by kernel_rfl) ?_
                simp only [List.getElem_toArray, List.getElem_cons_succ, List.getElem_cons_zero]
                intro wj hj
                go_wp2_with fail
                refine ⟨KeepX.refl _ _, ?_⟩
                have HM := Lib.hid ((hj.block _ lm).trans HM.out)
                have HP := Lib.hid ((hj.block _ lp).trans HP.out)
                have HI := Lib.hid ((hj.block _ li).trans HI.out)
                have HFL := Lib.hid (HFL.out.ext (Ext.below hj))
                have BC := Lib.hid (BC.out.trans (hj.mono BC.out.size))
                clear hj
                clear ym0 ym2 yp0 yp1 yp2 yp3 yp4 yp5 yi0 yi1 yi2 yi3 yi4 yi5 yi6 yi7 yi8 yi9 yi10 z0 z1 z2 z3 z4 z5 z6 z7 z8 z9
                obtain ⟨ym0, -, ym2, -, lm⟩ := cl4 HM.out
                obtain ⟨yp0, yp1, yp2, yp3, yp4, yp5, lp⟩ := cl6 HP.out
                obtain ⟨yi0, yi1, yi2, yi3, yi4, yi5, yi6, yi7, yi8, yi9, yi10, li⟩ := cl11 HI.out
                obtain ⟨z0, z1, z2, z3, z4, z5, z6, z7, z8, z9, lg⟩ := fz_2 HFL.out
                refine J_mobs [26, 27] _ _ _ _ (by kernel_rfl) ?_
                simp only [List.map_cons, List.map_nil, List.getElem?_toArray, List.getElem?_cons_succ, List.getElem?_cons_zero, Option.getD_some, List.size_toArray, List.length_cons, List.length_nil, Nat.reduceAdd, Nat.reduceSub]
                repeat (go_big_quiet_step (fail))
                refine wpQuiet_nil ?_
                refine J_done (by kernel_rfl) (fun wk hk => ?_) _
                have HM := Lib.hid ((hk.block _ lm).trans HM.out)
                have HP := Lib.hid ((hk.block _ lp).trans HP.out)
                have HI := Lib.hid ((hk.block _ li).trans HI.out)
                have HFL := Lib.hid (HFL.out.ext (Ext.below hk))
                have BC := Lib.hid (BC.out.trans (hk.mono BC.out.size))
                clear hk
                clear ym0 ym2 yp0 yp1 yp2 yp3 yp4 yp5 yi0 yi1 yi2 yi3 yi4 yi5 yi6 yi7 yi8 yi9 yi10 z0 z1 z2 z3 z4 z5 z6 z7 z8 z9
                obtain ⟨ym0, -, ym2, -, lm⟩ := cl4 HM.out
                obtain ⟨yp0, yp1, yp2, yp3, yp4, yp5, lp⟩ := cl6 HP.out
                obtain ⟨yi0, yi1, yi2, yi3, yi4, yi5, yi6, yi7, yi8, yi9, yi10, li⟩ := cl11 HI.out
                obtain ⟨z0, z1, z2, z3, z4, z5, z6, z7, z8, z9, lg⟩ := fz_2 HFL.out
                have HV2 : Hid (V = false) := by
                  show _ = _
                  rw [HF.out]
                  simp [*]
                clear HF
                go_wp2_with fail
                go_ret
                exact ⟨ret_b HV2.out.symm, BC.out⟩
              · rw [kr13] at kr13e
                refine J_loud1 6 _ rfl (by kernel_rfl) ?_
                simp only [List.getElem_toArray, List.getElem_cons_succ, List.getElem_cons_zero]
                intro wj hj
                go_wp2_with fail
                refine (kr13e.out wj (Ext.below (BC.out.trans (hj.mono BC.out.size)))).mono ?_
                rintro e w2 ⟨rfl, hq2⟩
                go_wp2_with fail
                refine ⟨KeepX.below hq2, ?_⟩
                have hb2 := hj.trans (hq2.mono hj.size)
                clear hq2 hj
                have HM := Lib.hid ((hb2.block _ lm).trans HM.out)
                have HP := Lib.hid ((hb2.block _ lp).trans HP.out)
                have HI := Lib.hid ((hb2.block _ li).trans HI.out)
                have HFL := Lib.hid (HFL.out.ext (Ext.below hb2))
                have BC := Lib.hid (BC.out.trans (hb2.mono BC.out.size))
                clear hb2
                clear ym0 ym2 yp0 yp1 yp2 yp3 yp4 yp5 yi0 yi1 yi2 yi3 yi4 yi5 yi6 yi7 yi8 yi9 yi10 z0 z1 z2 z3 z4 z5 z6 z7 z8 z9
                obtain ⟨ym0, -, ym2, -, lm⟩ := cl4 HM.out
                obtain ⟨yp0, yp1, yp2, yp3, yp4, yp5, lp⟩ := cl6 HP.out
                obtain ⟨yi0, yi1, yi2, yi3, yi4, yi5, yi6, yi7, yi8, yi9, yi10, li⟩ := cl11 HI.out
                obtain ⟨z0, z1, z2, z3, z4, z5, z6, z7, z8, z9, lg⟩ := fz_2 HFL.out
                refine J_mobs [7, 8] _ _ _ _ (by kernel_rfl) ?_
                simp only [List.map_cons, List.map_nil, List.getElem?_toArray, List.getElem?_cons_succ, List.getElem?_cons_zero, Option.getD_some, List.size_toArray, List.length_cons, List.length_nil, Nat.reduceAdd, Nat.reduceSub]
                repeat (go_big_quiet_step (fail))
                refine wpQuiet_nil ?_
                refine J_mobs [9, 10, 11, 12, 13, 14] _ _ _ _ (by kernel_rfl) ?_
                simp only [List.map_cons, List.map_nil, List.getElem?_toArray, List.getElem?_cons_succ, List.getElem?_cons_zero, Option.getD_some, List.size_toArray, List.length_cons, List.length_nil, Nat.reduceAdd, Nat.reduceSub]
                repeat (go_big_quiet_step (fail))
                refine wpQuiet_nil ?_
                have kr14e := Lib.hid (ER.out ra true)
                have kr14f : Hid (regF p ra true = regF p ra true) := rfl
                cases kr14 : regF p ra true
                · rw [kr14] at kr14e
                  refine J_loud1 15 _ rfl (by kernel_rfl) ?_
                  simp only [List.getElem_toArray, List.getElem_cons_succ, List.getElem_cons_zero]
                  intro wj hj
                  go_wp2_with fail
                  refine (kr14e.out wj (Ext.below (BC.out.trans (hj.mono BC.out.size)))).mono ?_
                  rintro e w2 ⟨rfl, hq2⟩
                  go_wp2_with fail
                  refine ⟨KeepX.below hq2, ?_⟩
                  have hb2 := hj.trans (hq2.mono hj.size)
                  clear hq2 hj
                  have HM := Lib.hid ((hb2.block _ lm).trans HM.out)
                  have HP := Lib.hid ((hb2.block _ lp).trans HP.out)
                  have HI := Lib.hid ((hb2.block _ li).trans HI.out)
                  have HFL := Lib.hid (HFL.out.ext (Ext.below hb2))
                  have BC := Lib.hid (BC.out.trans (hb2.mono BC.out.size))
                  clear hb2
                  clear ym0 ym2 yp0 yp1 yp2 yp3 yp4 yp5 yi0 yi1 yi2 yi3 yi4 yi5 yi6 yi7 yi8 yi9 yi10 z0 z1 z2 z3 z4 z5 z6 z7 z8 z9
                  obtain ⟨ym0, -, ym2, -, lm⟩ := cl4 HM.out
                  obtain ⟨yp0, yp1, yp2, yp3, yp4, yp5, lp⟩ := cl6 HP.out
                  obtain ⟨yi0, yi1, yi2, yi3, yi4, yi5, yi6, yi7, yi8, yi9, yi10, li⟩ := cl11 HI.out
                  obtain ⟨z0, z1, z2, z3, z4, z5, z6, z7, z8, z9, lg⟩ := fz_2 HFL.out
                  refine J_mobs [16, 17, 18] _ _ _ _ (by kernel_rfl) ?_
                  simp only [List.map_cons, List.map_nil, List.getElem?_toArray, List.getElem?_cons_succ, List.getElem?_cons_zero, Option.getD_some, List.size_toArray, List.length_cons, List.length_nil, Nat.reduceAdd, Nat.reduceSub]
                  repeat (go_big_quiet_step (fail))
                  refine wpQuiet_nil ?_
                  refine J_mobs [19, 20, 21, 22, 23, 24] _ _ _ _ (by kernel_rfl) ?_
                  simp only [List.map_cons, List.map_nil, List.getElem?_toArray, List.getElem?_cons_succ, List.getElem?_cons_zero, Option.getD_some, List.size_toArray, List.length_cons, List.length_nil, Nat.reduceAdd, Nat.reduceSub]
                  repeat (go_big_quiet_step (fail))
                  refine wpQuiet_nil ?_
                  refine J_loud1 25 _ rfl (by kernel_rfl) ?_
                  simp only [List.getElem_toArray, List.getElem_cons_succ, List.getElem_cons_zero]
                  intro wj hj
                  go_wp2_with fail
                  refine ⟨KeepX.refl _ _, ?_⟩
                  have HM := Lib.hid ((hj.block _ lm).trans HM.out)
                  have HP := Lib.hid ((hj.block _ lp).trans HP.out)
                  have HI := Lib.hid ((hj.block _ li).trans HI.out)
                  have HFL := Lib.hid (HFL.out.ext (Ext.below hj))
                  have BC := Lib.hid (BC.out.trans (hj.mono BC.out.size))
                  clear hj
                  clear ym0 ym2 yp0 yp1 yp2 yp3 yp4 yp5 yi0 yi1 yi2 yi3 yi4 yi5 yi6 yi7 yi8 yi9 yi10 z0 z1 z2 z3 z4 z5 z6 z7 z8 z9
                  obtain ⟨ym0, -, ym2, -, lm⟩ := cl4 HM.out
                  obtain ⟨yp0, yp1, yp2, yp3, yp4, yp5, lp⟩ := cl6 HP.out
                  obtain ⟨yi0, yi1, yi2, yi3, yi4, yi5, yi6, yi7, yi8, yi9, yi10, li⟩ := cl11 HI.out
                  obtain ⟨z0, z1, z2, z3, z4, z5, z6, z7, z8, z9, lg⟩ := fz_2 HFL.out
                  refine J_mobs [26, 27] _ _ _ _ (by kernel_rfl) ?_
                  simp only [List.map_cons, List.map_nil, List.getElem?_toArray, List.getElem?_cons_succ, List.getElem?_cons_zero, Option.getD_some, List.size_toArray, List.length_cons, List.length_nil, Nat.reduceAdd, Nat.reduceSub]
                  repeat (go_big_quiet_step (fail))
                  refine wpQuiet_nil ?_
                  refine J_done (by kernel_rfl) (fun wk hk => ?_) _
                  have HM := Lib.hid ((hk.block _ lm).trans HM.out)
                  have HP := Lib.hid ((hk.block _ lp).trans HP.out)
                  have HI := Lib.hid ((hk.block _ li).trans HI.out)
                  have HFL := Lib.hid (HFL.out.ext (Ext.below hk))
                  have BC := Lib.hid (BC.out.trans (hk.mono BC.out.size))
                  clear hk
                  clear ym0 ym2 yp0 yp1 yp2 yp3 yp4 yp5 yi0 yi1 yi2 yi3 yi4 yi5 yi6 yi7 yi8 yi9 yi10 z0 z1 z2 z3 z4 z5 z6 z7 z8 z9
                  obtain ⟨ym0, -, ym2, -, lm⟩ := cl4 HM.out
                  obtain ⟨yp0, yp1, yp2, yp3, yp4, yp5, lp⟩ := cl6 HP.out
                  obtain ⟨yi0, yi1, yi2, yi3, yi4, yi5, yi6, yi7, yi8, yi9, yi10, li⟩ := cl11 HI.out
                  obtain ⟨z0, z1, z2, z3, z4, z5, z6, z7, z8, z9, lg⟩ := fz_2 HFL.out
                  have HV2 : Hid (V = false) := by
                    show _ = _
                    rw [HF.out]
                    simp [*]
                  clear HF
                  go_wp2_with fail
                  go_ret
                  exact ⟨ret_b HV2.out.symm, BC.out⟩
                · rw [kr14] at kr14e
                  refine J_loud1 15 _ rfl (by kernel_rfl) ?_
                  simp only [List.getElem_toArray, List.getElem_cons_succ, List.getElem_cons_zero]
                  intro wj hj
                  go_wp2_with fail
                  refine (kr14e.out wj (Ext.below (BC.out.trans (hj.mono BC.out.size)))).mono ?_
                  rintro e w2 ⟨rfl, hq2⟩
                  go_wp2_with fail
                  refine ⟨KeepX.below hq2, ?_⟩
                  have hb2 := hj.trans (hq2.mono hj.size)
                  clear hq2 hj
                  have HM := Lib.hid ((hb2.block _ lm).trans HM.out)
                  have HP := Lib.hid ((hb2.block _ lp).trans HP.out)
                  have HI := Lib.hid ((hb2.block _ li).trans HI.out)
                  have HFL := Lib.hid (HFL.out.ext (Ext.below hb2))
                  have BC := Lib.hid (BC.out.trans (hb2.mono BC.out.size))
                  clear hb2
                  clear ym0 ym2 yp0 yp1 yp2 yp3 yp4 yp5 yi0 yi1 yi2 yi3 yi4 yi5 yi6 yi7 yi8 yi9 yi10 z0 z1 z2 z3 z4 z5 z6 z7 z8 z9
                  obtain ⟨ym0, -, ym2, -, lm⟩ := cl4 HM.out
                  obtain ⟨yp0, yp1, yp2, yp3, yp4, yp5, lp⟩ := cl6 HP.out
                  obtain ⟨yi0, yi1, yi2, yi3, yi4, yi5, yi6, yi7, yi8, yi9, yi10, li⟩ := cl11 HI.out
                  obtain ⟨z0, z1, z2, z3, z4, z5, z6, z7, z8, z9, lg⟩ := fz_2 HFL.out
                  refine J_mobs [16, 17, 18] _ _ _ _ (by kernel_rfl) ?_
                  simp only [List.map_cons, List.map_nil, List.getElem?_toArray, List.getElem?_cons_succ, List.getElem?_cons_zero, Option.getD_some, List.size_toArray, List.length_cons, List.length_nil, Nat.reduceAdd, Nat.reduceSub]
                  repeat (go_big_quiet_step (fail))
                  refine wpQuiet_nil ?_
                  refine J_mobs [19, 20, 21, 22, 23, 24] _ _ _ _ (by kernel_rfl) ?_
                  simp only [List.map_cons, List.map_nil, List.getElem?_toArray, List.getElem?_cons_succ, List.getElem?_cons_zero, Option.getD_some, List.size_toArray, List.length_cons, List.length_nil, Nat.reduceAdd, Nat.reduceSub]
                  repeat (go_big_quiet_step (fail))
                  refine wpQuiet_nil ?_
                  have kr15e := Lib.hid (ER.out rb false)
                  have kr15f : Hid (regF p rb false = regF p rb false) := rfl
                  cases kr15 : regF p rb false
                  · rw [kr15] at kr15e
                    refine J_loud1 25 _ rfl (by kernel_rfl) ?_
                    simp only [List.getElem_toArray, List.getElem_cons_succ, List.getElem_cons_zero]
                    intro wj hj
                    go_wp2_with fail
                    refine (kr15e.out wj (Ext.below (BC.out.trans (hj.mono BC.out.size)))).mono ?_
                    rintro e w2 ⟨rfl, hq2⟩
                    go_wp2_with fail
                    refine ⟨KeepX.below hq2, ?_⟩
                    have hb2 := hj.trans (hq2.mono hj.size)
                    clear hq2 hj
                    have HM := Lib.hid ((hb2.block _ lm).trans HM.out)
                    have HP := Lib.hid ((hb2.block _ lp).trans HP.out)
                    have HI := Lib.hid ((hb2.block _ li).trans HI.out)
                    have HFL := Lib.hid (HFL.out.ext (Ext.below hb2))
                    have BC := Lib.hid (BC.out.trans (hb2.mono BC.out.size))
                    clear hb2
                    clear ym0 ym2 yp0 yp1 yp2 yp3 yp4 yp5 yi0 yi1 yi2 yi3 yi4 yi5 yi6 yi7 yi8 yi9 yi10 z0 z1 z2 z3 z4 z5 z6 z7 z8 z9
                    obtain ⟨ym0, -, ym2, -, lm⟩ := cl4 HM.out
                    obtain ⟨yp0, yp1, yp2, yp3, yp4, yp5, lp⟩ := cl6 HP.out
                    obtain ⟨yi0, yi1, yi2, yi3, yi4, yi5, yi6, yi7, yi8, yi9, yi10, li⟩ := cl11 HI.out
                    obtain ⟨z0, z1, z2, z3, z4, z5, z6, z7, z8, z9, lg⟩ := fz_2 HFL.out
                    refine J_mobs [26, 27] _ _ _ _ (by kernel_rfl) ?_
                    simp only [List.map_cons, List.map_nil, List.getElem?_toArray, List.getElem?_cons_succ, List.getElem?_cons_zero, Option.getD_some, List.size_toArray, List.length_cons, List.length_nil, Nat.reduceAdd, Nat.reduceSub]
                    repeat (go_big_quiet_step (fail))
                    refine wpQuiet_nil ?_
                    refine J_done (by kernel_rfl) (fun wk hk => ?_) _
                    have HM := Lib.hid ((hk.block _ lm).trans HM.out)
                    have HP := Lib.hid ((hk.block _ lp).trans HP.out)
                    have HI := Lib.hid ((hk.block _ li).trans HI.out)
                    have HFL := Lib.hid (HFL.out.ext (Ext.below hk))
                    have BC := Lib.hid (BC.out.trans (hk.mono BC.out.size))
                    clear hk
                    clear ym0 ym2 yp0 yp1 yp2 yp3 yp4 yp5 yi0 yi1 yi2 yi3 yi4 yi5 yi6 yi7 yi8 yi9 yi10 z0 z1 z2 z3 z4 z5 z6 z7 z8 z9
                    obtain ⟨ym0, -, ym2, -, lm⟩ := cl4 HM.out
                    obtain ⟨yp0, yp1, yp2, yp3, yp4, yp5, lp⟩ := cl6 HP.out
                    obtain ⟨yi0, yi1, yi2, yi3, yi4, yi5, yi6, yi7, yi8, yi9, yi10, li⟩ := cl11 HI.out
                    obtain ⟨z0, z1, z2, z3, z4, z5, z6, z7, z8, z9, lg⟩ := fz_2 HFL.out
                    have HV2 : Hid (V = false) := by
                      show _ = _
                      rw [HF.out]
                      simp [*]
                    clear HF
                    go_wp2_with fail
                    go_ret
                    exact ⟨ret_b HV2.out.symm, BC.out⟩
                  · rw [kr15] at kr15e
                    refine J_loud1 25 _ rfl (by kernel_rfl) ?_
                    simp only [List.getElem_toArray, List.getElem_cons_succ, List.getElem_cons_zero]
                    intro wj hj
                    go_wp2_with fail
                    refine (kr15e.out wj (Ext.below (BC.out.trans (hj.mono BC.out.size)))).mono ?_
                    rintro e w2 ⟨rfl, hq2⟩
                    go_wp2_with fail
                    refine ⟨KeepX.below hq2, ?_⟩
                    have hb2 := hj.trans (hq2.mono hj.size)
                    clear hq2 hj
                    have HM := Lib.hid ((hb2.block _ lm).trans HM.out)
                    have HP := Lib.hid ((hb2.block _ lp).trans HP.out)
                    have HI := Lib.hid ((hb2.block _ li).trans HI.out)
                    have HFL := Lib.hid (HFL.out.ext (Ext.below hb2))
                    have BC := Lib.hid (BC.out.trans (hb2.mono BC.out.size))
                    clear hb2
                    clear ym0 ym2 yp0 yp1 yp2 yp3 yp4 yp5 yi0 yi1 yi2 yi3 yi4 yi5 yi6 yi7 yi8 yi9 yi10 z0 z1 z2 z3 z4 z5 z6 z7 z8 z9
                    obtain ⟨ym0, -, ym2, -, lm⟩ := cl4 HM.out
                    obtain ⟨yp0, yp1, yp2, yp3, yp4, yp5, lp⟩ := cl6 HP.out
                    obtain ⟨yi0, yi1, yi2, yi3, yi4, yi5, yi6, yi7, yi8, yi9, yi10, li⟩ := cl11 HI.out
                    obtain ⟨z0, z1, z2, z3, z4, z5, z6, z7, z8, z9, lg⟩ := fz_2 HFL.out
                    refine J_mobs [26, 27] _ _ _ _ (by kernel_rfl) ?_
                    simp only [List.map_cons, List.map_nil, List.getElem?_toArray, List.getElem?_cons_succ, List.getElem?_cons_zero, Option.getD_some, List.size_toArray, List.length_cons, List.length_nil, Nat.reduceAdd, Nat.reduceSub]
                    repeat (go_big_quiet_step (fail))
                    refine wpQuiet_nil ?_
                    refine J_done (by kernel_rfl) (fun wk hk => ?_) _
                    have HM := Lib.hid ((hk.block _ lm).trans HM.out)
                    have HP := Lib.hid ((hk.block _ lp).trans HP.out)
                    have HI := Lib.hid ((hk.block _ li).trans HI.out)
                    have HFL := Lib.hid (HFL.out.ext (Ext.below hk))
                    have BC := Lib.hid (BC.out.trans (hk.mono BC.out.size))
                    clear hk
                    clear ym0 ym2 yp0 yp1 yp2 yp3 yp4 yp5 yi0 yi1 yi2 yi3 yi4 yi5 yi6 yi7 yi8 yi9 yi10 z0 z1 z2 z3 z4 z5 z6 z7 z8 z9
                    obtain ⟨ym0, -, ym2, -, lm⟩ := cl4 HM.out
                    obtain ⟨yp0, yp1, yp2, yp3, yp4, yp5, lp⟩ := cl6 HP.out
                    obtain ⟨yi0, yi1, yi2, yi3, yi4, yi5, yi6, yi7, yi8, yi9, yi10, li⟩ := cl11 HI.out
                    obtain ⟨z0, z1, z2, z3, z4, z5, z6, z7, z8, z9, lg⟩ := fz_2 HFL.out
                    have go1 : decide (off < -32768) = false := decide_eq_false (by have := (‹Hid (off = 0)›).out; omega)
                    have go2 : decide (32768 < off) = false := decide_eq_false (by have := (‹Hid (off = 0)›).out; omega)
                    have HV2 : Hid (V = true) := by
                      show _ = _
                      rw [HF.out]
                      simp [*]
                    clear HF
                    go_wp2_with fail
                    go_ret
                    exact ⟨ret_b HV2.out.symm, BC.out⟩
            · have ga1 : decide ((0 : Int) < (args.length : Int)) = true := decide_eq_true (by omega)
              have ga2 : decide (0 < args.length) = true := decide_eq_true (by omega)
              have ga3 : decide (args.length = 0) = false := decide_eq_false ka
              refine wp_region_text (by kernel_rfl) ?_
              simp only [List.append_eq, List.cons_append, List.nil_append]
              repeat (go_big_quiet_step (fail))
              refine wpQuiet_nil ?_
              have HV2 : Hid (V = false) := by
                show _ = _
                rw [HF.out]
                simp [*]
              clear HF
              go_wp2_with fail
              go_ret
              exact ⟨ret_b HV2.out.symm, BC.out⟩
          · have gk12 : (num == 0) = false := beq_eq_false_iff_ne.2 k12
            have gn12 : (num != 0) = true := bne_iff_ne.2 k12
            have kh12 := Lib.hid k12
            clear k12
            refine wp_region_text (by kernel_rfl) ?_
            simp only [List.append_eq, List.cons_append, List.nil_append]
            repeat (go_big_quiet_step (fail))
            refine wpQuiet_nil ?_
            have HV2 : Hid (V = false) := by
              show _ = _
              rw [HF.out]
              simp [*]
            clear HF
            go_wp2_with fail
            go_ret
            exact ⟨ret_b HV2.out.symm, BC.out⟩
        · have gk11 : (size == 0) = false := beq_eq_false_iff_ne.2 k11
          have gn11 : (size != 0) = true := bne_iff_ne.2 k11
          have kh11 := Lib.hid k11
          clear k11
          refine wp_region_text (by kernel_rfl) ?_
          simp only [List.append_eq, List.cons_append, List.nil_append]
          repeat (go_big_quiet_step (fail))
          refine wpQuiet_nil ?_
          have HV2 : Hid (V = false) := by
            show _ = _
            rw [HF.out]
            simp [*]
          clear HF
          go_wp2_with fail
          go_ret
          exact ⟨ret_b HV2.out.symm, BC.out⟩
      · have gk10 : (off == 0) = false := beq_eq_false_iff_ne.2 k10
        have gn10 : (off != 0) = true := bne_iff_ne.2 k10
        have kh10 := Lib.hid k10
        clear k10
        refine wp_region_text (by kernel_rfl) ?_
        simp only [List.append_eq, List.cons_append, List.nil_append]
        repeat (go_big_quiet_step (fail))
        refine wpQuiet_nil ?_
        have HV2 : Hid (V = false) := by
          show _ = _
          rw [HF.out]
          simp [*]
        clear HF
        go_wp2_with fail
        go_ret
        exact ⟨ret_b HV2.out.symm, BC.out⟩
    · have gk9 : (obj == 0) = false := beq_eq_false_iff_ne.2 k9
      have gn9 : (obj != 0) = true := bne_iff_ne.2 k9
      have kh9 := Lib.hid k9
      clear k9
      refine wp_region_text (by kernel_rfl) ?_
      simp only [List.append_eq, List.cons_append, List.nil_append]
      repeat (go_big_quiet_step (fail))
      refine wpQuiet_nil ?_
      have HV2 : Hid (V = false) := by
        show _ = _
        rw [HF.out]
        simp [*]
      clear HF
      go_wp2_with fail
      go_ret
      exact ⟨ret_b HV2.out.symm, BC.out⟩
  · have gk8 : (fn == 0) = false := beq_eq_false_iff_ne.2 k8
    have gn8 : (fn != 0) = true := bne_iff_ne.2 k8
    have kh8 := Lib.hid k8
    clear k8
    refine wp_region_text (by kernel_rfl) ?_
    simp only [List.append_eq, List.cons_append, List.nil_append]
    repeat (go_big_quiet_step (fail))
    refine wpQuiet_nil ?_
    have HV2 : Hid (V = false) := by
      show _ = _
      rw [HF.out]
      simp [*]
    clear HF
    go_wp2_with fail
    go_ret
    exact ⟨ret_b HV2.out.symm, BC.out⟩
theorem fz_3 {w : World} {g : Nat} (h : FldAt w 3 g) : w.cell? ⟨g, 0, none⟩ = some (.bool true) ∧ w.cell? ⟨g, 1, none⟩ = some (.bool true) ∧ w.cell? ⟨g, 2, none⟩ = some (.bool true) ∧ w.cell? ⟨g, 3, none⟩ = some (.bool true) ∧ w.cell? ⟨g, 4, none⟩ = some (.bool false) ∧ w.cell? ⟨g, 5, none⟩ = some (.bool false) ∧ w.cell? ⟨g, 6, none⟩ = some (.bool false) ∧ w.cell? ⟨g, 7, none⟩ = some (.bool false) ∧ w.cell? ⟨g, 8, none⟩ = some (.bool false) ∧ w.cell? ⟨g, 9, none⟩ = some (.bool true) ∧ g < w.heap.size := ⟨h.c0, h.c1, h.c2, h.c3, h.c4, h.c5, h.c6, h.c7, h.c8, h.c9, h.lt⟩
theorem okI_3 (m : Md) (p : Pr) (d ra rb fn obj off size num : Int) (args : List Int) (log : Bool) : okI m p ⟨3, d, ra, rb, fn, obj, off, size, num, args, log⟩ = ((obj == 0) && ((off == 0) && ((size == 0) && ((num == 0) && (decide (args.length = 0) && (regF p d true && (regF p ra true && (regF p rb true && (decide (1 ≤ fn) && (decide (fn ≤ 16))))))))))) := by
  cases log <;> (rw [Bool.eq_iff_iff]; simp [okI, bareF, plainI, regF, moreF, offF, readsA, readsB, defI, -List.length_eq_zero_iff] <;> omega)
theorem rins_3 (m : Md) (p : Pr) (v V0 : Value) (d ra rb fn obj off size num : Int) (args : List Int) (log : Bool) (aa : Option Addr) (ca : Nat) (w : World) (hm : MdV w v m) (hp : PrV w V0 p) (ha2 : ca ≤ 9223372036854775807) (ha1 : args.length ≤ ca) (h0 : 0 ≤ p.regs) (h1 : p.regs ≤ 100000) :
    Calls Tryd.prog 41 #[v, V0, .agg #[.int .i64 3, .int .i64 d, .int .i64 ra, .int .i64 rb, .int .i64 fn, .int .i64 obj, .int .i64 off, .int .i64 size, .int .u32 num, .slice aa args.length ca, .bool log]] w fun e w' => e = .returned (.bool (okI m p ⟨3, d, ra, rb, fn, obj, off, size, num, args, log⟩)) ∧ Below w.heap.size w w' := by
  obtain ⟨V, hV⟩ : ∃ V, okI m p ⟨3, d, ra, rb, fn, obj, off, size, num, args, log⟩ = V := ⟨_, rfl⟩
  rw [hV]
  have HF := Lib.hid (hV.symm.trans (okI_3 m p d ra rb fn obj off size num args log))
  clear hV
  have ER : Hid (∀ r s w', Ext w w' → Calls Tryd.prog 63 #[V0, .int .i64 r, .bool s] w' fun e w'' => e = .returned (.bool (regF p r s)) ∧ Below w'.heap.size w' w'') := fun r s w' he => rregister_c p V0 r s w' (hp.ext he) h0 h1
  obtain ⟨nm, vo, vb, rfl, ⟨ao, co, rfl, -, hco, -⟩, ⟨ab, cb, rfl, -, hcb, -⟩⟩ := hp
  obtain ⟨vg, vd, vp, rfl, ⟨ag, cg, rfl, hcg1, hcg, -⟩, ⟨ad, cd, rfl, -⟩, ⟨ap, cp, rfl, hcp1, hcp, -⟩⟩ := hm
  unfold maxLen at hco hcb hcg hcp
  have EF := Lib.hid (fun w => fields_c 3 w (by decide) (by decide))
  go_enter Tryd.func41, Tryd.ntmps41
  go_wp2_with fail
  refine (EF.out _).mono ?_
  rintro e w1 ⟨g, rfl, hg, hf, hb⟩
  have HM : Hid (w1.heap[w.heap.size]? = some (.cells #[.slice ag m.globs.length cg, .slice ad m.data.length cd, .slice ap m.procs.length cp, .int .i64 m.main] 26 (0, 0))) := (hb.block w.heap.size (by simp <;> omega)).trans (allocs_heap [.cells #[.slice ag m.globs.length cg, .slice ad m.data.length cd, .slice ap m.procs.length cp, .int .i64 m.main] 26, .cells #[.string nm, .bool p.void, .int .i64 p.params, .int .i64 p.regs, .slice ao p.objs.length co, .slice ab p.blks.length cb] 37, .cells #[.int .i64 3, .int .i64 d, .int .i64 ra, .int .i64 rb, .int .i64 fn, .int .i64 obj, .int .i64 off, .int .i64 size, .int .u32 num, .slice aa args.length ca, .bool log] 45] w 0 (by simp))
  have HP : Hid (w1.heap[w.heap.size + 1]? = some (.cells #[.string nm, .bool p.void, .int .i64 p.params, .int .i64 p.regs, .slice ao p.objs.length co, .slice ab p.blks.length cb] 37 (0, 0))) := (hb.block (w.heap.size + 1) (by simp <;> omega)).trans (allocs_heap [.cells #[.slice ag m.globs.length cg, .slice ad m.data.length cd, .slice ap m.procs.length cp, .int .i64 m.main] 26, .cells #[.string nm, .bool p.void, .int .i64 p.params, .int .i64 p.regs, .slice ao p.objs.length co, .slice ab p.blks.length cb] 37, .cells #[.int .i64 3, .int .i64 d, .int .i64 ra, .int .i64 rb, .int .i64 fn, .int .i64 obj, .int .i64 off, .int .i64 size, .int .u32 num, .slice aa args.length ca, .bool log] 45] w 1 (by simp))
  have HI : Hid (w1.heap[w.heap.size + 1 + 1]? = some (.cells #[.int .i64 3, .int .i64 d, .int .i64 ra, .int .i64 rb, .int .i64 fn, .int .i64 obj, .int .i64 off, .int .i64 size, .int .u32 num, .slice aa args.length ca, .bool log] 45 (0, 0))) := (hb.block (w.heap.size + 1 + 1) (by simp <;> omega)).trans (allocs_heap [.cells #[.slice ag m.globs.length cg, .slice ad m.data.length cd, .slice ap m.procs.length cp, .int .i64 m.main] 26, .cells #[.string nm, .bool p.void, .int .i64 p.params, .int .i64 p.regs, .slice ao p.objs.length co, .slice ab p.blks.length cb] 37, .cells #[.int .i64 3, .int .i64 d, .int .i64 ra, .int .i64 rb, .int .i64 fn, .int .i64 obj, .int .i64 off, .int .i64 size, .int .u32 num, .slice aa args.length ca, .bool log] 45] w 2 (by simp))
  have HFL := Lib.hid hf
  have BC : Hid (Below w.heap.size w w1) := below3c hb
  clear hg hf hb
  obtain ⟨ym0, -, ym2, -, lm⟩ := cl4 HM.out
  obtain ⟨yp0, yp1, yp2, yp3, yp4, yp5, lp⟩ := cl6 HP.out
  obtain ⟨yi0, yi1, yi2, yi3, yi4, yi5, yi6, yi7, yi8, yi9, yi10, li⟩ := cl11 HI.out
  obtain ⟨z0, z1, z2, z3, z4, z5, z6, z7, z8, z9, lg⟩ := fz_3 HFL.out
  go_upto_region 4 with (fail)
  by_cases k16 : obj = 0
  · have gk16 : (obj == 0) = true := beq_iff_eq.2 k16
    have gn16 : (obj != 0) = false := bne_eq_false_iff_eq.2 k16
    have kh16 := Lib.hid k16
    clear k16
    by_cases k17 : off = 0
    · have gk17 : (off == 0) = true := beq_iff_eq.2 k17
      have gn17 : (off != 0) = false := bne_eq_false_iff_eq.2 k17
      have kh17 := Lib.hid k17
      clear k17
      by_cases k18 : size = 0
      · have gk18 : (size == 0) = true := beq_iff_eq.2 k18
        have gn18 : (size != 0) = false := bne_eq_false_iff_eq.2 k18
        have kh18 := Lib.hid k18
        clear k18
        by_cases k19 : num = 0
        · have gk19 : (num == 0) = true := beq_iff_eq.2 k19
          have gn19 : (num != 0) = false := bne_eq_false_iff_eq.2 k19
          have kh19 := Lib.hid k19
          clear k19
          by_cases ka : args.length = 0
          · have ga1 : decide ((0 : Int) < (args.length : Int)) = false := decide_eq_false (by omega)
            have ga2 : decide (0 < args.length) = false := decide_eq_false (by omega)
            have ga3 : decide (args.length = 0) = true := decide_eq_true ka
            have ka := Lib.hid ka
            refine wp_region_text (by kernel_rfl) ?_
            simp only [List.append_eq, List.cons_append, List.nil_append]
            repeat (go_big_quiet_step (fail))
            refine wpQuiet_nil ?_
            go_wp2_with fail
            refine wp_region_junk (fun _ => True) (by kernel_rfl) ?_
            refine J_mobs [0, 1, 2, 3, 4, 5] _ _ _ _ (by kernel_rfl) ?_
            simp only [List.map_cons, List.map_nil, List.getElem?_toArray, List.getElem?_cons_succ, List.getElem?_cons_zero, Option.getD_some, List.size_toArray, List.length_cons, List.length_nil, Nat.reduceAdd, Nat.reduceSub]
            repeat (go_big_quiet_step (fail))
            refine wpQuiet_nil ?_
            have kr20e := Lib.hid (ER.out d true)
            have kr20f : Hid (regF p d true = regF p d true) := rfl
            cases kr20 : regF p d true
            · rw [kr20] at kr20e
              refine J_loud1 6 _ rfl (by kernel_rfl) ?_
              simp only [List.getElem_toArray, List.getElem_cons_succ, List.getElem_cons_zero]
              intro wj hj
              go_wp2_with fail
              refine (kr20e.out wj (Ext.below (BC.out.trans (hj.mono BC.out.size)))).mono ?_
              rintro e w2 ⟨rfl, hq2⟩
              go_wp2_with fail
              refine ⟨KeepX.below hq2, ?_⟩
              have hb2 := hj.trans (hq2.mono hj.size)
              clear hq2 hj
              have HM := Lib.hid ((hb2.block _ lm).trans HM.out)
              have HP := Lib.hid ((hb2.block _ lp).trans HP.out)
              have HI := Lib.hid ((hb2.block _ li).trans HI.out)
              have HFL := Lib.hid (HFL.out.ext (Ext.below hb2))
              have BC := Lib.hid (BC.out.trans (hb2.mono BC.out.size))
              clear hb2
              clear ym0 ym2 yp0 yp1 yp2 yp3 yp4 yp5 yi0 yi1 yi2 yi3 yi4 yi5 yi6 yi7 yi8 yi9 yi10 z0 z1 z2 z3 z4 z5 z6 z7 z8 z9
              obtain ⟨ym0, -, ym2, -, lm⟩ := cl4 HM.out
              obtain ⟨yp0, yp1, yp2, yp3, yp4, yp5, lp⟩ := cl6 HP.out
              obtain ⟨yi0, yi1, yi2, yi3, yi4, yi5, yi6, yi7, yi8, yi9, yi10, li⟩ := cl11 HI.out
              obtain ⟨z0, z1, z2, z3, z4, z5, z6, z7, z8, z9, lg⟩ := fz_3 HFL.out
              refine J_mobs [7, 8] _ _ _ _ (by kernel_rfl) ?_
              simp only [List.map_cons, List.map_nil, List.getElem?_toArray, List.getElem?_cons_succ, List.getElem?_cons_zero, Option.getD_some, List.size_toArray, List.length_cons, List.length_nil, Nat.reduceAdd, Nat.reduceSub]
              repeat (go_big_quiet_step (fail))
              refine wpQuiet_nil ?_
              refine J_mobs [9, 10, 11, 12, 13, 14] _ _ _ _ (by kernel_rfl) ?_
              simp only [List.map_cons, List.map_nil, List.getElem?_toArray, List.getElem?_cons_succ, List.getElem?_cons_zero, Option.getD_some, List.size_toArray, List.length_cons, List.length_nil, Nat.reduceAdd, Nat.reduceSub]
              repeat (go_big_quiet_step (fail))
              refine wpQuiet_nil ?_
              refine J_loud1 15 _ rfl (by kernel_rfl) ?_
              simp only [List.getElem_toArray, List.getElem_cons_succ, List.getElem_cons_zero]
              intro wj hj
              go_wp2_with fail
              refine ⟨KeepX.refl _ _, ?_⟩
              have HM := Lib.hid ((hj.block _ lm).trans HM.out)
              have HP := Lib.hid ((hj.block _ lp).trans HP.out)
              have HI := Lib.hid ((hj.block _ li).trans HI.out)
              have HFL := Lib.hid (HFL.out.ext (Ext.below hj))
              have BC := Lib.hid (BC.out.trans (hj.mono BC.out.size))
              clear hj
              clear ym0 ym2 yp0 yp1 yp2 yp3 yp4 yp5 yi0 yi1 yi2 yi3 yi4 yi5 yi6 yi7 yi8 yi9 yi10 z0 z1 z2 z3 z4 z5 z6 z7 z8 z9
              obtain ⟨ym0, -, ym2, -, lm⟩ := cl4 HM.out
              obtain ⟨yp0, yp1, yp2, yp3, yp4, yp5, lp⟩ := cl6 HP.out
              obtain ⟨yi0, yi1, yi2, yi3, yi4, yi5, yi6, yi7, yi8, yi9, yi10, li⟩ := cl11 HI.out
              obtain ⟨z0, z1, z2, z3, z4, z5, z6, z7, z8, z9, lg⟩ := fz_3 HFL.out
              refine J_mobs [16, 17, 18] _ _ _ _ (by kernel_rfl) ?_
              simp only [List.map_cons, List.map_nil, List.getElem?_toArray, List.getElem?_cons_succ, List.getElem?_cons_zero, Option.getD_some, List.size_toArray, List.length_cons, List.length_nil, Nat.reduceAdd, Nat.reduceSub]
              repeat (go_big_quiet_step (fail))
              refine wpQuiet_nil ?_
              refine J_mobs [19, 20, 21, 22, 23, 24] _ _ _ _ (by kernel_rfl) ?_
              simp only [List.map_cons, List.map_nil, List.getElem?_toArray, List.getElem?_cons_succ, List.getElem?_cons_zero, Option.getD_some, List.size_toArray, List.length_cons, List.length_nil, Nat.reduceAdd, Nat.reduceSub]
              repeat (go_big_quiet_step (fail))
              refine wpQuiet_nil ?_
              refine J_loud1 25 _ rfl (by kernel_rfl) ?_
              simp only [List.getElem_toArray, List.getElem_cons_succ, List.getElem_cons_zero]
              intro wj hj
              go_wp2_with fail
              refine ⟨KeepX.refl _ _, ?_⟩
              have HM := Lib.hid ((hj.block _ lm).trans HM.out)
              have HP := Lib.hid ((hj.block _ lp).trans HP.out)
              have HI := Lib.hid ((hj.block _ li).trans HI.out)
              have HFL := Lib.hid (HFL.out.ext (Ext.below hj))
              have BC := Lib.hid (BC.out.trans (hj.mono BC.out.size))
              clear hj
              clear ym0 ym2 yp0 yp1 yp2 yp3 yp4 yp5 yi0 yi1 yi2 yi3 yi4 yi5 yi6 yi7 yi8 yi9 yi10 z0 z1 z2 z3 z4 z5 z6 z7 z8 z9
              obtain ⟨ym0, -, ym2, -, lm⟩ := cl4 HM.out
              obtain ⟨yp0, yp1, yp2, yp3, yp4, yp5, lp⟩ := cl6 HP.out
              obtain ⟨yi0, yi1, yi2, yi3, yi4, yi5, yi6, yi7, yi8, yi9, yi10, li⟩ := cl11 HI.out
              obtain ⟨z0, z1, z2, z3, z4, z5, z6, z7, z8, z9, lg⟩ := fz_3 HFL.out
              refine J_mobs [26, 27] _ _ _ _ (by kernel_rfl) ?_
              simp only [List.map_cons, List.map_nil, List.getElem?_toArray, List.getElem?_cons_succ, List.getElem?_cons_zero, Option.getD_some, List.size_toArray, List.length_cons, List.length_nil, Nat.reduceAdd, Nat.reduceSub]
              repeat (go_big_quiet_step (fail))
              refine wpQuiet_nil ?_
              refine J_done (by kernel_rfl) (fun wk hk => ?_) _
              have HM := Lib.hid ((hk.block _ lm).trans HM.out)
              have HP := Lib.hid ((hk.block _ lp).trans HP.out)
              have HI := Lib.hid ((hk.block _ li).trans HI.out)
              have HFL := Lib.hid (HFL.out.ext (Ext.below hk))
              have BC := Lib.hid (BC.out.trans (hk.mono BC.out.size))
              clear hk
              clear ym0 ym2 yp0 yp1 yp2 yp3 yp4 yp5 yi0 yi1 yi2 yi3 yi4 yi5 yi6 yi7 yi8 yi9 yi10 z0 z1 z2 z3 z4 z5 z6 z7 z8 z9
              obtain ⟨ym0, -, ym2, -, lm⟩ := cl4 HM.out
              obtain ⟨yp0, yp1, yp2, yp3, yp4, yp5, lp⟩ := cl6 HP.out
              obtain ⟨yi0, yi1, yi2, yi3, yi4, yi5, yi6, yi7, yi8, yi9, yi10, li⟩ := cl11 HI.out
              obtain ⟨z0, z1, z2, z3, z4, z5, z6, z7, z8, z9, lg⟩ := fz_3 HFL.out
              have HV2 : Hid (V = false) := by
                show _ = _
                rw [HF.out]
                simp [*]
              clear HF
              go_wp2_with fail
              go_ret
              exact ⟨ret_b HV2.out.symm, BC.out⟩
            · rw [kr20] at kr20e
              refine J_loud1 6 _ rfl (by kernel_rfl) ?_
              simp only [List.getElem_toArray, List.getElem_cons_succ, List.getElem_cons_zero]
              intro wj hj
              go_wp2_with fail
              refine (kr20e.out wj (Ext.below (BC.out.trans (hj.mono BC.out.size)))).mono ?_
              rintro e w2 ⟨rfl, hq2⟩
              go_wp2_with fail
              refine ⟨KeepX.below hq2, ?_⟩
              have hb2 := hj.trans (hq2.mono hj.size)
              clear hq2 hj
              have HM := Lib.hid ((hb2.block _ lm).trans HM.out)
              have HP := Lib.hid ((hb2.block _ lp).trans HP.out)
              have HI := Lib.hid ((hb2.block _ li).trans HI.out)
              have HFL := Lib.hid (HFL.out.ext (Ext.below hb2))
              have BC := Lib.hid (BC.out.trans (hb2.mono BC.out.size))
              clear hb2
              clear ym0 ym2 yp0 yp1 yp2 yp3 yp4 yp5 yi0 yi1 yi2 yi3 yi4 yi5 yi6 yi7 yi8 yi9 yi10 z0 z1 z2 z3 z4 z5 z6 z7 z8 z9
              obtain ⟨ym0, -, ym2, -, lm⟩ := cl4 HM.out
              obtain ⟨yp0, yp1, yp2, yp3, yp4, yp5, lp⟩ := cl6 HP.out
              obtain ⟨yi0, yi1, yi2, yi3, yi4, yi5, yi6, yi7, yi8, yi9, yi10, li⟩ := cl11 HI.out
              obtain ⟨z0, z1, z2, z3, z4, z5, z6, z7, z8, z9, lg⟩ := fz_3 HFL.out
              refine J_mobs [7, 8] _ _ _ _ (by kernel_rfl) ?_
              simp only [List.map_cons, List.map_nil, List.getElem?_toArray, List.getElem?_cons_succ, List.getElem?_cons_zero, Option.getD_some, List.size_toArray, List.length_cons, List.length_nil, Nat.reduceAdd, Nat.reduceSub]
              repeat (go_big_quiet_step (fail))
              refine wpQuiet_nil ?_
              refine J_mobs [9, 10, 11, 12, 13, 14] _ _ _ _ (by kernel_rfl) ?_
              simp only [List.map_cons, List.map_nil, List.getElem?_toArray, List.getElem?_cons_succ, List.getElem?_cons_zero, Option.getD_some, List.size_toArray, List.length_cons, List.length_nil, Nat.reduceAdd, Nat.reduceSub]
              repeat (go_big_quiet_step (fail))
              refine wpQuiet_nil ?_
              have kr21e := Lib.hid (ER.out ra true)
              have kr21f : Hid (regF p ra true = regF p ra true) := rfl
              cases kr21 : regF p ra true
              · rw [kr21] at kr21e
                refine J_loud1 15 _ rfl (by kernel_rfl) ?_
                simp only [List.getElem_toArray, List.getElem_cons_succ, List.getElem_cons_zero]
                intro wj hj
                go_wp2_with fail
                refine (kr21e.out wj (Ext.below (BC.out.trans (hj.mono BC.out.size)))).mono ?_
                rintro e w2 ⟨rfl, hq2⟩
                go_wp2_with fail
                refine ⟨KeepX.below hq2, ?_⟩
                have hb2 := hj.trans (hq2.mono hj.size)
                clear hq2 hj
                have HM := Lib.hid ((hb2.block _ lm).trans HM.out)
                have HP := Lib.hid ((hb2.block _ lp).trans HP.out)
                have HI := Lib.hid ((hb2.block _ li).trans HI.out)
                have HFL := Lib.hid (HFL.out.ext (Ext.below hb2))
                have BC := Lib.hid (BC.out.trans (hb2.mono BC.out.size))
                clear hb2
                clear ym0 ym2 yp0 yp1 yp2 yp3 yp4 yp5 yi0 yi1 yi2 yi3 yi4 yi5 yi6 yi7 yi8 yi9 yi10 z0 z1 z2 z3 z4 z5 z6 z7 z8 z9
                obtain ⟨ym0, -, ym2, -, lm⟩ := cl4 HM.out
                obtain ⟨yp0, yp1, yp2, yp3, yp4, yp5, lp⟩ := cl6 HP.out
                obtain ⟨yi0, yi1, yi2, yi3, yi4, yi5, yi6, yi7, yi8, yi9, yi10, li⟩ := cl11 HI.out
                obtain ⟨z0, z1, z2, z3, z4, z5, z6, z7, z8, z9, lg⟩ := fz_3 HFL.out
                refine J_mobs [16, 17, 18] _ _ _ _ (by kernel_rfl) ?_
                simp only [List.map_cons, List.map_nil, List.getElem?_toArray, List.getElem?_cons_succ, List.getElem?_cons_zero, Option.getD_some, List.size_toArray, List.length_cons, List.length_nil, Nat.reduceAdd, Nat.reduceSub]
                repeat (go_big_quiet_step (fail))
                refine wpQuiet_nil ?_
                refine J_mobs [19, 20, 21, 22, 23, 24] _ _ _ _ (by kernel_rfl) ?_
                simp only [List.map_cons, List.map_nil, List.getElem?_toArray, List.getElem?_cons_succ, List.getElem?_cons_zero, Option.getD_some, List.size_toArray, List.length_cons, List.length_nil, Nat.reduceAdd, Nat.reduceSub]
                repeat (go_big_quiet_step (fail))
                refine wpQuiet_nil ?_
                refine J_loud1 25 _ rfl (by kernel_rfl) ?_
                simp only [List.getElem_toArray, List.getElem_cons_succ, List.getElem_cons_zero]
                intro wj hj
                go_wp2_with fail
                refine ⟨KeepX.refl _ _, ?_⟩
                have HM := Lib.hid ((hj.block _ lm).trans HM.out)
                have HP := Lib.hid ((hj.block _ lp).trans HP.out)
                have HI := Lib.hid ((hj.block _ li).trans HI.out)
                have HFL := Lib.hid (HFL.out.ext (Ext.below hj))
                have BC := Lib.hid (BC.out.trans (hj.mono BC.out.size))
                clear hj
                clear ym0 ym2 yp0 yp1 yp2 yp3 yp4 yp5 yi0 yi1 yi2 yi3 yi4 yi5 yi6 yi7 yi8 yi9 yi10 z0 z1 z2 z3 z4 z5 z6 z7 z8 z9
                obtain ⟨ym0, -, ym2, -, lm⟩ := cl4 HM.out
                obtain ⟨yp0, yp1, yp2, yp3, yp4, yp5, lp⟩ := cl6 HP.out
                obtain ⟨yi0, yi1, yi2, yi3, yi4, yi5, yi6, yi7, yi8, yi9, yi10, li⟩ := cl11 HI.out
                obtain ⟨z0, z1, z2, z3, z4, z5, z6, z7, z8, z9, lg⟩ := fz_3 HFL.out
                refine J_mobs [26, 27] _ _ _ _ (by kernel_rfl) ?_
                simp only [List.map_cons, List.map_nil, List.getElem?_toArray, List.getElem?_cons_succ, List.getElem?_cons_zero, Option.getD_some, List.size_toArray, List.length_cons, List.length_nil, Nat.reduceAdd, Nat.reduceSub]
                repeat (go_big_quiet_step (fail))
                refine wpQuiet_nil ?_
                refine J_done (by kernel_rfl) (fun wk hk => ?_) _
                have HM := Lib.hid ((hk.block _ lm).trans HM.out)
                have HP := Lib.hid ((hk.block _ lp).trans HP.out)
                have HI := Lib.hid ((hk.block _ li).trans HI.out)
                have HFL := Lib.hid (HFL.out.ext (Ext.below hk))
                have BC := Lib.hid (BC.out.trans (hk.mono BC.out.size))
                clear hk
                clear ym0 ym2 yp0 yp1 yp2 yp3 yp4 yp5 yi0 yi1 yi2 yi3 yi4 yi5 yi6 yi7 yi8 yi9 yi10 z0 z1 z2 z3 z4 z5 z6 z7 z8 z9
                obtain ⟨ym0, -, ym2, -, lm⟩ := cl4 HM.out
                obtain ⟨yp0, yp1, yp2, yp3, yp4, yp5, lp⟩ := cl6 HP.out
                obtain ⟨yi0, yi1, yi2, yi3, yi4, yi5, yi6, yi7, yi8, yi9, yi10, li⟩ := cl11 HI.out
                obtain ⟨z0, z1, z2, z3, z4, z5, z6, z7, z8, z9, lg⟩ := fz_3 HFL.out
                have HV2 : Hid (V = false) := by
                  show _ = _
                  rw [HF.out]
                  simp [*]
                clear HF
                go_wp2_with fail
                go_ret
                exact ⟨ret_b HV2.out.symm, BC.out⟩
              · rw [kr21] at kr21e
                refine J_loud1 15 _ rfl (by kernel_rfl) ?_
                simp only [List.getElem_toArray, List.getElem_cons_succ, List.getElem_cons_zero]
                intro wj hj
                go_wp2_with fail
                refine (kr21e.out wj (Ext.below (BC.out.trans (hj.mono BC.out.size)))).mono ?_
                rintro e w2 ⟨rfl, hq2⟩
                go_wp2_with fail
                refine ⟨KeepX.below hq2, ?_⟩
                have hb2 := hj.trans (hq2.mono hj.size)
                clear hq2 hj
                have HM := Lib.hid ((hb2.block _ lm).trans HM.out)
                have HP := Lib.hid ((hb2.block _ lp).trans HP.out)
                have HI := Lib.hid ((hb2.block _ li).trans HI.out)
                have HFL := Lib.hid (HFL.out.ext (Ext.below hb2))
                have BC := Lib.hid (BC.out.trans (hb2.mono BC.out.size))
                clear hb2
                clear ym0 ym2 yp0 yp1 yp2 yp3 yp4 yp5 yi0 yi1 yi2 yi3 yi4 yi5 yi6 yi7 yi8 yi9 yi10 z0 z1 z2 z3 z4 z5 z6 z7 z8 z9
                obtain ⟨ym0, -, ym2, -, lm⟩ := cl4 HM.out
                obtain ⟨yp0, yp1, yp2, yp3, yp4, yp5, lp⟩ := cl6 HP.out
                obtain ⟨yi0, yi1, yi2, yi3, yi4, yi5, yi6, yi7, yi8, yi9, yi10, li⟩ := cl11 HI.out
                obtain ⟨z0, z1, z2, z3, z4, z5, z6, z7, z8, z9, lg⟩ := fz_3 HFL.out
                refine J_mobs [16, 17, 18] _ _ _ _ (by kernel_rfl) ?_
                simp only [List.map_cons, List.map_nil, List.getElem?_toArray, List.getElem?_cons_succ, List.getElem?_cons_zero, Option.getD_some, List.size_toArray, List.length_cons, List.length_nil, Nat.reduceAdd, Nat.reduceSub]
                repeat (go_big_quiet_step (fail))
                refine wpQuiet_nil ?_
                refine J_mobs [19, 20, 21, 22, 23, 24] _ _ _ _ (by kernel_rfl) ?_
                simp only [List.map_cons, List.map_nil, List.getElem?_toArray, List.getElem?_cons_succ, List.getElem?_cons_zero, Option.getD_some, List.size_toArray, List.length_cons, List.length_nil, Nat.reduceAdd, Nat.reduceSub]
                repeat (go_big_quiet_step (fail))
                refine wpQuiet_nil ?_
                have kr22e := Lib.hid (ER.out rb true)
                have kr22f : Hid (regF p rb true = regF p rb true) := rfl
                cases kr22 : regF p rb true
                · rw [kr22] at kr22e
                  refine J_loud1 25 _ rfl (by kernel_rfl) ?_
                  simp only [List.getElem_toArray, List.getElem_cons_succ, List.getElem_cons_zero]
                  intro wj hj
                  go_wp2_with fail
                  refine (kr22e.out wj (Ext.below (BC.out.trans (hj.mono BC.out.size)))).mono ?_
                  rintro e w2 ⟨rfl, hq2⟩
                  go_wp2_with fail
                  refine ⟨KeepX.below hq2, ?_⟩
                  have hb2 := hj.trans (hq2.mono hj.size)
                  clear hq2 hj
                  have HM := Lib.hid ((hb2.block _ lm).trans HM.out)
                  have HP := Lib.hid ((hb2.block _ lp).trans HP.out)
                  have HI := Lib.hid ((hb2.block _ li).trans HI.out)
                  have HFL := Lib.hid (HFL.out.ext (Ext.below hb2))
                  have BC := Lib.hid (BC.out.trans (hb2.mono BC.out.size))
                  clear hb2
                  clear ym0 ym2 yp0 yp1 yp2 yp3 yp4 yp5 yi0 yi1 yi2 yi3 yi4 yi5 yi6 yi7 yi8 yi9 yi10 z0 z1 z2 z3 z4 z5 z6 z7 z8 z9
                  obtain ⟨ym0, -, ym2, -, lm⟩ := cl4 HM.out
                  obtain ⟨yp0, yp1, yp2, yp3, yp4, yp5, lp⟩ := cl6 HP.out
                  obtain ⟨yi0, yi1, yi2, yi3, yi4, yi5, yi6, yi7, yi8, yi9, yi10, li⟩ := cl11 HI.out
                  obtain ⟨z0, z1, z2, z3, z4, z5, z6, z7, z8, z9, lg⟩ := fz_3 HFL.out
                  refine J_mobs [26, 27] _ _ _ _ (by kernel_rfl) ?_
                  simp only [List.map_cons, List.map_nil, List.getElem?_toArray, List.getElem?_cons_succ, List.getElem?_cons_zero, Option.getD_some, List.size_toArray, List.length_cons, List.length_nil, Nat.reduceAdd, Nat.reduceSub]
                  repeat (go_big_quiet_step (fail))
                  refine wpQuiet_nil ?_
                  refine J_done (by kernel_rfl) (fun wk hk => ?_) _
                  have HM := Lib.hid ((hk.block _ lm).trans HM.out)
                  have HP := Lib.hid ((hk.block _ lp).trans HP.out)
                  have HI := Lib.hid ((hk.block _ li).trans HI.out)
                  have HFL := Lib.hid (HFL.out.ext (Ext.below hk))
                  have BC := Lib.hid (BC.out.trans (hk.mono BC.out.size))
                  clear hk
                  clear ym0 ym2 yp0 yp1 yp2 yp3 yp4 yp5 yi0 yi1 yi2 yi3 yi4 yi5 yi6 yi7 yi8 yi9 yi10 z0 z1 z2 z3 z4 z5 z6 z7 z8 z9
                  obtain ⟨ym0, -, ym2, -, lm⟩ := cl4 HM.out
                  obtain ⟨yp0, yp1, yp2, yp3, yp4, yp5, lp⟩ := cl6 HP.out
                  obtain ⟨yi0, yi1, yi2, yi3, yi4, yi5, yi6, yi7, yi8, yi9, yi10, li⟩ := cl11 HI.out
                  obtain ⟨z0, z1, z2, z3, z4, z5, z6, z7, z8, z9, lg⟩ := fz_3 HFL.out
                  have HV2 : Hid (V = false) := by
                    show _ = _
                    rw [HF.out]
                    simp [*]
                  clear HF
                  go_wp2_with fail
                  go_ret
                  exact ⟨ret_b HV2.out.symm, BC.out⟩
                · rw [kr22] at kr22e
                  refine J_loud1 25 _ rfl (by kernel_rfl) ?_
                  simp only [List.getElem_toArray, List.getElem_cons_succ, List.getElem_cons_zero]
                  intro wj hj
                  go_wp2_with fail
                  refine (kr22e.out wj (Ext.below (BC.out.trans (hj.mono BC.out.size)))).mono ?_
                  rintro e w2 ⟨rfl, hq2⟩
                  go_wp2_with fail
                  refine ⟨KeepX.below hq2, ?_⟩
                  have hb2 := hj.trans (hq2.mono hj.size)
                  clear hq2 hj
                  have HM := Lib.hid ((hb2.block _ lm).trans HM.out)
                  have HP := Lib.hid ((hb2.block _ lp).trans HP.out)
                  have HI := Lib.hid ((hb2.block _ li).trans HI.out)
                  have HFL := Lib.hid (HFL.out.ext (Ext.below hb2))
                  have BC := Lib.hid (BC.out.trans (hb2.mono BC.out.size))
                  clear hb2
                  clear ym0 ym2 yp0 yp1 yp2 yp3 yp4 yp5 yi0 yi1 yi2 yi3 yi4 yi5 yi6 yi7 yi8 yi9 yi10 z0 z1 z2 z3 z4 z5 z6 z7 z8 z9
                  obtain ⟨ym0, -, ym2, -, lm⟩ := cl4 HM.out
                  obtain ⟨yp0, yp1, yp2, yp3, yp4, yp5, lp⟩ := cl6 HP.out
                  obtain ⟨yi0, yi1, yi2, yi3, yi4, yi5, yi6, yi7, yi8, yi9, yi10, li⟩ := cl11 HI.out
                  obtain ⟨z0, z1, z2, z3, z4, z5, z6, z7, z8, z9, lg⟩ := fz_3 HFL.out
                  refine J_mobs [26, 27] _ _ _ _ (by kernel_rfl) ?_
                  simp only [List.map_cons, List.map_nil, List.getElem?_toArray, List.getElem?_cons_succ, List.getElem?_cons_zero, Option.getD_some, List.size_toArray, List.length_cons, List.length_nil, Nat.reduceAdd, Nat.reduceSub]
                  repeat (go_big_quiet_step (fail))
                  refine wpQuiet_nil ?_
                  refine J_done (by kernel_rfl) (fun wk hk => ?_) _
                  have HM := Lib.hid ((hk.block _ lm).trans HM.out)
                  have HP := Lib.hid ((hk.block _ lp).trans HP.out)
                  have HI := Lib.hid ((hk.block _ li).trans HI.out)
                  have HFL := Lib.hid (HFL.out.ext (Ext.below hk))
                  have BC := Lib.hid (BC.out.trans (hk.mono BC.out.size))
                  clear hk
                  clear ym0 ym2 yp0 yp1 yp2 yp3 yp4 yp5 yi0 yi1 yi2 yi3 yi4 yi5 yi6 yi7 yi8 yi9 yi10 z0 z1 z2 z3 z4 z5 z6 z7 z8 z9
                  obtain ⟨ym0, -, ym2, -, lm⟩ := cl4 HM.out
                  obtain ⟨yp0, yp1, yp2, yp3, yp4, yp5, lp⟩ := cl6 HP.out
                  obtain ⟨yi0, yi1, yi2, yi3, yi4, yi5, yi6, yi7, yi8, yi9, yi10, li⟩ := cl11 HI.out
                  obtain ⟨z0, z1, z2, z3, z4, z5, z6, z7, z8, z9, lg⟩ := fz_3 HFL.out
                  by_cases k23 : 1 ≤ fn
                  · have gk23 : decide (1 ≤ fn) = true := decide_eq_true k23
                    have gl23 : decide (fn < 1) = false := decide_eq_false (by omega)
                    by_cases k24 : fn ≤ 16
                    · have gk24 : decide (fn ≤ 16) = true := decide_eq_true k24
                      have gl24 : decide (16 < fn) = false := decide_eq_false (by omega)
                      have go1 : decide (off < -32768) = false := decide_eq_false (by have := (‹Hid (off = 0)›).out; omega)
                      have go2 : decide (32768 < off) = false := decide_eq_false (by have := (‹Hid (off = 0)›).out; omega)
                      have HV2 : Hid (V = true) := by
                        show _ = _
                        rw [HF.out]
                        simp [*]
                      clear HF
                      go_wp2_with fail
                      go_ret
                      exact ⟨ret_b HV2.out.symm, BC.out⟩
                    · have gk24 : decide (fn ≤ 16) = false := decide_eq_false k24
                      have gl24 : decide (16 < fn) = true := decide_eq_true (by omega)
                      have HV2 : Hid (V = false) := by
                        show _ = _
                        rw [HF.out]
                        simp [*]
                      clear HF
                      go_wp2_with fail
                      go_ret
                      exact ⟨ret_b HV2.out.symm, BC.out⟩
                  · have gk23 : decide (1 ≤ fn) = false := decide_eq_false k23
                    have gl23 : decide (fn < 1) = true := decide_eq_true (by omega)
                    have HV2 : Hid (V = false) := by
                      show _ = _
                      rw [HF.out]
                      simp [*]
                    clear HF
                    go_wp2_with fail
                    go_ret
                    exact ⟨ret_b HV2.out.symm, BC.out⟩
          · have ga1 : decide ((0 : Int) < (args.length : Int)) = true := decide_eq_true (by omega)
            have ga2 : decide (0 < args.length) = true := decide_eq_true (by omega)
            have ga3 : decide (args.length = 0) = false := decide_eq_false ka
            refine wp_region_text (by kernel_rfl) ?_
            simp only [List.append_eq, List.cons_append, List.nil_append]
            repeat (go_big_quiet_step (fail))
            refine wpQuiet_nil ?_
            have HV2 : Hid (V = false) := by
              show _ = _
              rw [HF.out]
              simp [*]
            clear HF
            go_wp2_with fail
            go_ret
            exact ⟨ret_b HV2.out.symm, BC.out⟩
        · have gk19 : (num == 0) = false := beq_eq_false_iff_ne.2 k19
          have gn19 : (num != 0) = true := bne_iff_ne.2 k19
          have kh19 := Lib.hid k19
          clear k19
          refine wp_region_text (by kernel_rfl) ?_
          simp only [List.append_eq, List.cons_append, List.nil_append]
          repeat (go_big_quiet_step (fail))
          refine wpQuiet_nil ?_
          have HV2 : Hid (V = false) := by
            show _ = _
            rw [HF.out]
            simp [*]
          clear HF
          go_wp2_with fail
          go_ret
          exact ⟨ret_b HV2.out.symm, BC.out⟩
      · have gk18 : (size == 0) = false := beq_eq_false_iff_ne.2 k18
        have gn18 : (size != 0) = true := bne_iff_ne.2 k18
        have kh18 := Lib.hid k18
        clear k18
        refine wp_region_text (by kernel_rfl) ?_
        simp only [List.append_eq, List.cons_append, List.nil_append]
        repeat (go_big_quiet_step (fail))
        refine wpQuiet_nil ?_
        have HV2 : Hid (V = false) := by
          show _ = _
          rw [HF.out]
          simp [*]
        clear HF
        go_wp2_with fail
        go_ret
        exact ⟨ret_b HV2.out.symm, BC.out⟩
    · have gk17 : (off == 0) = false := beq_eq_false_iff_ne.2 k17
      have gn17 : (off != 0) = true := bne_iff_ne.2 k17
      have kh17 := Lib.hid k17
      clear k17
      refine wp_region_text (by kernel_rfl) ?_
      simp only [List.append_eq, List.cons_append, List.nil_append]
      repeat (go_big_quiet_step (fail))
      refine wpQuiet_nil ?_
      have HV2 : Hid (V = false) := by
        show _ = _
        rw [HF.out]
        simp [*]
      clear HF
      go_wp2_with fail
      go_ret
      exact ⟨ret_b HV2.out.symm, BC.out⟩
  · have gk16 : (obj == 0) = false := beq_eq_false_iff_ne.2 k16
    have gn16 : (obj != 0) = true := bne_iff_ne.2 k16
    have kh16 := Lib.hid k16
    clear k16
    refine wp_region_text (by kernel_rfl) ?_
    simp only [List.append_eq, List.cons_append, List.nil_append]
    repeat (go_big_quiet_step (fail))
    refine wpQuiet_nil ?_
    have HV2 : Hid (V = false) := by
      show _ = _
      rw [HF.out]
      simp [*]
    clear HF
    go_wp2_with fail
    go_ret
    exact ⟨ret_b HV2.out.symm, BC.out⟩
theorem fz_4 {w : World} {g : Nat} (h : FldAt w 4 g) : w.cell? ⟨g, 0, none⟩ = some (.bool true) ∧ w.cell? ⟨g, 1, none⟩ = some (.bool true) ∧ w.cell? ⟨g, 2, none⟩ = some (.bool false) ∧ w.cell? ⟨g, 3, none⟩ = some (.bool true) ∧ w.cell? ⟨g, 4, none⟩ = some (.bool false) ∧ w.cell? ⟨g, 5, none⟩ = some (.bool false) ∧ w.cell? ⟨g, 6, none⟩ = some (.bool false) ∧ w.cell? ⟨g, 7, none⟩ = some (.bool false) ∧ w.cell? ⟨g, 8, none⟩ = some (.bool false) ∧ w.cell? ⟨g, 9, none⟩ = some (.bool true) ∧ g < w.heap.size := ⟨h.c0, h.c1, h.c2, h.c3, h.c4, h.c5, h.c6, h.c7, h.c8, h.c9, h.lt⟩
theorem okI_4 (m : Md) (p : Pr) (d ra rb fn obj off size num : Int) (args : List Int) (log : Bool) : okI m p ⟨4, d, ra, rb, fn, obj, off, size, num, args, log⟩ = ((obj == 0) && ((off == 0) && ((size == 0) && ((num == 0) && (decide (args.length = 0) && (regF p d true && (regF p ra true && (regF p rb false && (decide (17 ≤ fn) && (decide (fn ≤ 19))))))))))) := by
  cases log <;> (rw [Bool.eq_iff_iff]; simp [okI, bareF, plainI, regF, moreF, offF, readsA, readsB, defI, -List.length_eq_zero_iff] <;> omega)
theorem rins_4 (m : Md) (p : Pr) (v V0 : Value) (d ra rb fn obj off size num : Int) (args : List Int) (log : Bool) (aa : Option Addr) (ca : Nat) (w : World) (hm : MdV w v m) (hp : PrV w V0 p) (ha2 : ca ≤ 9223372036854775807) (ha1 : args.length ≤ ca) (h0 : 0 ≤ p.regs) (h1 : p.regs ≤ 100000) :
    Calls Tryd.prog 41 #[v, V0, .agg #[.int .i64 4, .int .i64 d, .int .i64 ra, .int .i64 rb, .int .i64 fn, .int .i64 obj, .int .i64 off, .int .i64 size, .int .u32 num, .slice aa args.length ca, .bool log]] w fun e w' => e = .returned (.bool (okI m p ⟨4, d, ra, rb, fn, obj, off, size, num, args, log⟩)) ∧ Below w.heap.size w w' := by
  obtain ⟨V, hV⟩ : ∃ V, okI m p ⟨4, d, ra, rb, fn, obj, off, size, num, args, log⟩ = V := ⟨_, rfl⟩
  rw [hV]
  have HF := Lib.hid (hV.symm.trans (okI_4 m p d ra rb fn obj off size num args log))
  clear hV
  have ER : Hid (∀ r s w', Ext w w' → Calls Tryd.prog 63 #[V0, .int .i64 r, .bool s] w' fun e w'' => e = .returned (.bool (regF p r s)) ∧ Below w'.heap.size w' w'') := fun r s w' he => rregister_c p V0 r s w' (hp.ext he) h0 h1
  obtain ⟨nm, vo, vb, rfl, ⟨ao, co, rfl, -, hco, -⟩, ⟨ab, cb, rfl, -, hcb, -⟩⟩ := hp
  obtain ⟨vg, vd, vp, rfl, ⟨ag, cg, rfl, hcg1, hcg, -⟩, ⟨ad, cd, rfl, -⟩, ⟨ap, cp, rfl, hcp1, hcp, -⟩⟩ := hm
  unfold maxLen at hco hcb hcg hcp
  have EF := Lib.hid (fun w => fields_c 4 w (by decide) (by decide))
  go_enter Tryd.func41, Tryd.ntmps41
  go_wp2_with fail
  refine (EF.out _).mono ?_
  rintro e w1 ⟨g, rfl, hg, hf, hb⟩
  have HM : Hid (w1.heap[w.heap.size]? = some (.cells #[.slice ag m.globs.length cg, .slice ad m.data.length cd, .slice ap m.procs.length cp, .int .i64 m.main] 26 (0, 0))) := (hb.block w.heap.size (by simp <;> omega)).trans (allocs_heap [.cells #[.slice ag m.globs.length cg, .slice ad m.data.length cd, .slice ap m.procs.length cp, .int .i64 m.main] 26, .cells #[.string nm, .bool p.void, .int .i64 p.params, .int .i64 p.regs, .slice ao p.objs.length co, .slice ab p.blks.length cb] 37, .cells #[.int .i64 4, .int .i64 d, .int .i64 ra, .int .i64 rb, .int .i64 fn, .int .i64 obj, .int .i64 off, .int .i64 size, .int .u32 num, .slice aa args.length ca, .bool log] 45] w 0 (by simp))
  have HP : Hid (w1.heap[w.heap.size + 1]? = some (.cells #[.string nm, .bool p.void, .int .i64 p.params, .int .i64 p.regs, .slice ao p.objs.length co, .slice ab p.blks.length cb] 37 (0, 0))) := (hb.block (w.heap.size + 1) (by simp <;> omega)).trans (allocs_heap [.cells #[.slice ag m.globs.length cg, .slice ad m.data.length cd, .slice ap m.procs.length cp, .int .i64 m.main] 26, .cells #[.string nm, .bool p.void, .int .i64 p.params, .int .i64 p.regs, .slice ao p.objs.length co, .slice ab p.blks.length cb] 37, .cells #[.int .i64 4, .int .i64 d, .int .i64 ra, .int .i64 rb, .int .i64 fn, .int .i64 obj, .int .i64 off, .int .i64 size, .int .u32 num, .slice aa args.length ca, .bool log] 45] w 1 (by simp))
  have HI : Hid (w1.heap[w.heap.size + 1 + 1]? = some (.cells #[.int .i64 4, .int .i64 d, .int .i64 ra, .int .i64 rb, .int .i64 fn, .int .i64 obj, .int .i64 off, .int .i64 size, .int .u32 num, .slice aa args.length ca, .bool log] 45 (0, 0))) := (hb.block (w.heap.size + 1 + 1) (by simp <;> omega)).trans (allocs_heap [.cells #[.slice ag m.globs.length cg, .slice ad m.data.length cd, .slice ap m.procs.length cp, .int .i64 m.main] 26, .cells #[.string nm, .bool p.void, .int .i64 p.params, .int .i64 p.regs, .slice ao p.objs.length co, .slice ab p.blks.length cb] 37, .cells #[.int .i64 4, .int .i64 d, .int .i64 ra, .int .i64 rb, .int .i64 fn, .int .i64 obj, .int .i64 off, .int .i64 size, .int .u32 num, .slice aa args.length ca, .bool log] 45] w 2 (by simp))
  have HFL := Lib.hid hf
  have BC : Hid (Below w.heap.size w w1) := below3c hb
  clear hg hf hb
  obtain ⟨ym0, -, ym2, -, lm⟩ := cl4 HM.out
  obtain ⟨yp0, yp1, yp2, yp3, yp4, yp5, lp⟩ := cl6 HP.out
  obtain ⟨yi0, yi1, yi2, yi3, yi4, yi5, yi6, yi7, yi8, yi9, yi10, li⟩ := cl11 HI.out
  obtain ⟨z0, z1, z2, z3, z4, z5, z6, z7, z8, z9, lg⟩ := fz_4 HFL.out
  go_upto_region 4 with (fail)
  by_cases k25 : obj = 0
  · have gk25 : (obj == 0) = true := beq_iff_eq.2 k25
    have gn25 : (obj != 0) = false := bne_eq_false_iff_eq.2 k25
    have kh25 := Lib.hid k25
    clear k25
    by_cases k26 : off = 0
    · have gk26 : (off == 0) = true := beq_iff_eq.2 k26
      have gn26 : (off != 0) = false := bne_eq_false_iff_eq.2 k26
      have kh26 := Lib.hid k26
      clear k26
      by_cases k27 : size = 0
      · have gk27 : (size == 0) = true := beq_iff_eq.2 k27
        have gn27 : (size != 0) = false := bne_eq_false_iff_eq.2 k27
        have kh27 := Lib.hid k27
        clear k27
        by_cases k28 : num = 0
        · have gk28 : (num == 0) = true := beq_iff_eq.2 k28
          have gn28 : (num != 0) = false := bne_eq_false_iff_eq.2 k28
          have kh28 := Lib.hid k28
          clear k28
          by_cases ka : args.length = 0
          · have ga1 : decide ((0 : Int) < (args.length : Int)) = false := decide_eq_false (by omega)
            have ga2 : decide (0 < args.length) = false := decide_eq_false (by omega)
            have ga3 : decide (args.length = 0) = true := decide_eq_true ka
            have ka := Lib.hid ka
            refine wp_region_text (by kernel_rfl) ?_
            simp only [List.append_eq, List.cons_append, List.nil_append]
            repeat (go_big_quiet_step (fail))
            refine wpQuiet_nil ?_
            go_wp2_with fail
            refine wp_region_junk (fun _ => True) (by kernel_rfl) ?_
            refine J_mobs [0, 1, 2, 3, 4, 5] _ _ _ _ (by kernel_rfl) ?_
            simp only [List.map_cons, List.map_nil, List.getElem?_toArray, List.getElem?_cons_succ, List.getElem?_cons_zero, Option.getD_some, List.size_toArray, List.length_cons, List.length_nil, Nat.reduceAdd, Nat.reduceSub]
            repeat (go_big_quiet_step (fail))
            refine wpQuiet_nil ?_
            have kr29e := Lib.hid (ER.out d true)
            have kr29f : Hid (regF p d true = regF p d true) := rfl
            cases kr29 : regF p d true
            · rw [kr29] at kr29e
              refine J_loud1 6 _ rfl (by kernel_rfl) ?_
              simp only [List.getElem_toArray, List.getElem_cons_succ, List.getElem_cons_zero]
              intro wj hj
              go_wp2_with fail
              refine (kr29e.out wj (Ext.below (BC.out.trans (hj.mono BC.out.size)))).mono ?_
              rintro e w2 ⟨rfl, hq2⟩
              go_wp2_with fail
              refine ⟨KeepX.below hq2, ?_⟩
              have hb2 := hj.trans (hq2.mono hj.size)
              clear hq2 hj
              have HM := Lib.hid ((hb2.block _ lm).trans HM.out)
              have HP := Lib.hid ((hb2.block _ lp).trans HP.out)
              have HI := Lib.hid ((hb2.block _ li).trans HI.out)
              have HFL := Lib.hid (HFL.out.ext (Ext.below hb2))
              have BC := Lib.hid (BC.out.trans (hb2.mono BC.out.size))
              clear hb2
              clear ym0 ym2 yp0 yp1 yp2 yp3 yp4 yp5 yi0 yi1 yi2 yi3 yi4 yi5 yi6 yi7 yi8 yi9 yi10 z0 z1 z2 z3 z4 z5 z6 z7 z8 z9
              obtain ⟨ym0, -, ym2, -, lm⟩ := cl4 HM.out
              obtain ⟨yp0, yp1, yp2, yp3, yp4, yp5, lp⟩ := cl6 HP.out
              obtain ⟨yi0, yi1, yi2, yi3, yi4, yi5, yi6, yi7, yi8, yi9, yi10, li⟩ := cl11 HI.out
              obtain ⟨z0, z1, z2, z3, z4, z5, z6, z7, z8, z9, lg⟩ := fz_4 HFL.out
              refine J_mobs [7, 8] _ _ _ _ (by kernel_rfl) ?_
              simp only [List.map_cons, List.map_nil, List.getElem?_toArray, List.getElem?_cons_succ, List.getElem?_cons_zero, Option.getD_some, List.size_toArray, List.length_cons, List.length_nil, Nat.reduceAdd, Nat.reduceSub]
              repeat (go_big_quiet_step (fail))
              refine wpQuiet_nil ?_
              refine J_mobs [9, 10, 11, 12, 13, 14] _ _ _ _ (by kernel_rfl) ?_
              simp only [List.map_cons, List.map_nil, List.getElem?_toArray, List.getElem?_cons_succ, List.getElem?_cons_zero, Option.getD_some, List.size_toArray, List.length_cons, List.length_nil, Nat.reduceAdd, Nat.reduceSub]
              repeat (go_big_quiet_step (fail))
              refine wpQuiet_nil ?_
              refine J_loud1 15 _ rfl (by kernel_rfl) ?_
              simp only [List.getElem_toArray, List.getElem_cons_succ, List.getElem_cons_zero]
              intro wj hj
              go_wp2_with fail
              refine ⟨KeepX.refl _ _, ?_⟩
              have HM := Lib.hid ((hj.block _ lm).trans HM.out)
              have HP := Lib.hid ((hj.block _ lp).trans HP.out)
              have HI := Lib.hid ((hj.block _ li).trans HI.out)
              have HFL := Lib.hid (HFL.out.ext (Ext.below hj))
              have BC := Lib.hid (BC.out.trans (hj.mono BC.out.size))
              clear hj
              clear ym0 ym2 yp0 yp1 yp2 yp3 yp4 yp5 yi0 yi1 yi2 yi3 yi4 yi5 yi6 yi7 yi8 yi9 yi10 z0 z1 z2 z3 z4 z5 z6 z7 z8 z9
              obtain ⟨ym0, -, ym2, -, lm⟩ := cl4 HM.out
              obtain ⟨yp0, yp1, yp2, yp3, yp4, yp5, lp⟩ := cl6 HP.out
              obtain ⟨yi0, yi1, yi2, yi3, yi4, yi5, yi6, yi7, yi8, yi9, yi10, li⟩ := cl11 HI.out
              obtain ⟨z0, z1, z2, z3, z4, z5, z6, z7, z8, z9, lg⟩ := fz_4 HFL.out
              refine J_mobs [16, 17, 18] _ _ _ _ (by kernel_rfl) ?_
              simp only [List.map_cons, List.map_nil, List.getElem?_toArray, List.getElem?_cons_succ, List.getElem?_cons_zero, Option.getD_some, List.size_toArray, List.length_cons, List.length_nil, Nat.reduceAdd, Nat.reduceSub]
              repeat (go_big_quiet_step (fail))
              refine wpQuiet_nil ?_
              refine J_mobs [19, 20, 21, 22, 23, 24] _ _ _ _ (by kernel_rfl) ?_
              simp only [List.map_cons, List.map_nil, List.getElem?_toArray, List.getElem?_cons_succ, List.getElem?_cons_zero, Option.getD_some, List.size_toArray, List.length_cons, List.length_nil, Nat.reduceAdd, Nat.reduceSub]
              repeat (go_big_quiet_step (fail))
              refine wpQuiet_nil ?_
              refine J_loud1 25 _ rfl (by kernel_rfl) ?_
              simp only [List.getElem_toArray, List.getElem_cons_succ, List.getElem_cons_zero]
              intro wj hj
              go_wp2_with fail
              refine ⟨KeepX.refl _ _, ?_⟩
              have HM := Lib.hid ((hj.block _ lm).trans HM.out)
              have HP := Lib.hid ((hj.block _ lp).trans HP.out)
              have HI := Lib.hid ((hj.block _ li).trans HI.out)
              have HFL := Lib.hid (HFL.out.ext (Ext.below hj))
              have BC := Lib.hid (BC.out.trans (hj.mono BC.out.size))
              clear hj
              clear ym0 ym2 yp0 yp1 yp2 yp3 yp4 yp5 yi0 yi1 yi2 yi3 yi4 yi5 yi6 yi7 yi8 yi9 yi10 z0 z1 z2 z3 z4 z5 z6 z7 z8 z9
              obtain ⟨ym0, -, ym2, -, lm⟩ := cl4 HM.out
              obtain ⟨yp0, yp1, yp2, yp3, yp4, yp5, lp⟩ := cl6 HP.out
              obtain ⟨yi0, yi1, yi2, yi3, yi4, yi5, yi6, yi7, yi8, yi9, yi10, li⟩ := cl11 HI.out
              obtain ⟨z0, z1, z2, z3, z4, z5, z6, z7, z8, z9, lg⟩ := fz_4 HFL.out
              refine J_mobs [26, 27] _ _ _ _ (by kernel_rfl) ?_
              simp only [List.map_cons, List.map_nil, List.getElem?_toArray, List.getElem?_cons_succ, List.getElem?_cons_zero, Option.getD_some, List.size_toArray, List.length_cons, List.length_nil, Nat.reduceAdd, Nat.reduceSub]
              repeat (go_big_quiet_step (fail))
              refine wpQuiet_nil ?_
              refine J_done (by kernel_rfl) (fun wk hk => ?_) _
              have HM := Lib.hid ((hk.block _ lm).trans HM.out)
              have HP := Lib.hid ((hk.block _ lp).trans HP.out)
              have HI := Lib.hid ((hk.block _ li).trans HI.out)
              have HFL := Lib.hid (HFL.out.ext (Ext.below hk))
              have BC := Lib.hid (BC.out.trans (hk.mono BC.out.size))
              clear hk
              clear ym0 ym2 yp0 yp1 yp2 yp3 yp4 yp5 yi0 yi1 yi2 yi3 yi4 yi5 yi6 yi7 yi8 yi9 yi10 z0 z1 z2 z3 z4 z5 z6 z7 z8 z9
              obtain ⟨ym0, -, ym2, -, lm⟩ := cl4 HM.out
              obtain ⟨yp0, yp1, yp2, yp3, yp4, yp5, lp⟩ := cl6 HP.out
              obtain ⟨yi0, yi1, yi2, yi3, yi4, yi5, yi6, yi7, yi8, yi9, yi10, li⟩ := cl11 HI.out
              obtain ⟨z0, z1, z2, z3, z4, z5, z6, z7, z8, z9, lg⟩ := fz_4 HFL.out
              have HV2 : Hid (V = false) := by
                show _ = _
                rw [HF.out]
                simp [*]
              clear HF
              go_wp2_with fail
              go_ret
              exact ⟨ret_b HV2.out.symm, BC.out⟩
            · rw [kr29] at kr29e
              refine J_loud1 6 _ rfl (by kernel_rfl) ?_
              simp only [List.getElem_toArray, List.getElem_cons_succ, List.getElem_cons_zero]
              intro wj hj
              go_wp2_with fail
              refine (kr29e.out wj (Ext.below (BC.out.trans (hj.mono BC.out.size)))).mono ?_
              rintro e w2 ⟨rfl, hq2⟩
              go_wp2_with fail
              refine ⟨KeepX.below hq2, ?_⟩
              have hb2 := hj.trans (hq2.mono hj.size)
              clear hq2 hj
              have HM := Lib.hid ((hb2.block _ lm).trans HM.out)
              have HP := Lib.hid ((hb2.block _ lp).trans HP.out)
              have HI := Lib.hid ((hb2.block _ li).trans HI.out)
              have HFL := Lib.hid (HFL.out.ext (Ext.below hb2))
              have BC := Lib.hid (BC.out.trans (hb2.mono BC.out.size))
              clear hb2
              clear ym0 ym2 yp0 yp1 yp2 yp3 yp4 yp5 yi0 yi1 yi2 yi3 yi4 yi5 yi6 yi7 yi8 yi9 yi10 z0 z1 z2 z3 z4 z5 z6 z7 z8 z9
              obtain ⟨ym0, -, ym2, -, lm⟩ := cl4 HM.out
              obtain ⟨yp0, yp1, yp2, yp3, yp4, yp5, lp⟩ := cl6 HP.out
              obtain ⟨yi0, yi1, yi2, yi3, yi4, yi5, yi6, yi7, yi8, yi9, yi10, li⟩ := cl11 HI.out
              obtain ⟨z0, z1, z2, z3, z4, z5, z6, z7, z8, z9, lg⟩ := fz_4 HFL.out
              refine J_mobs [7, 8] _ _ _ _ (by kernel_rfl) ?_
              simp only [List.map_cons, List.map_nil, List.getElem?_toArray, List.getElem?_cons_succ, List.getElem?_cons_zero, Option.getD_some, List.size_toArray, List.length_cons, List.length_nil, Nat.reduceAdd, Nat.reduceSub]
              repeat (go_big_quiet_step (fail))
              refine wpQuiet_nil ?_
              refine J_mobs [9, 10, 11, 12, 13, 14] _ _ _ _ (by kernel_rfl) ?_
              simp only [List.map_cons, List.map_nil, List.getElem?_toArray, List.getElem?_cons_succ, List.getElem?_cons_zero, Option.getD_some, List.size_toArray, List.length_cons, List.length_nil, Nat.reduceAdd, Nat.reduceSub]
              repeat (go_big_quiet_step (fail))
              refine wpQuiet_nil ?_
              have kr30e := Lib.hid (ER.out ra true)
              have kr30f : Hid (regF p ra true = regF p ra true) := rfl
              cases kr30 : regF p ra true
              · rw [kr30] at kr30e
                refine J_loud1 15 _ rfl (by kernel_rfl) ?_
                simp only [List.getElem_toArray, List.getElem_cons_succ, List.getElem_cons_zero]
                intro wj hj
                go_wp2_with fail
                refine (kr30e.out wj (Ext.below (BC.out.trans (hj.mono BC.out.size)))).mono ?_
                rintro e w2 ⟨rfl, hq2⟩
                go_wp2_with fail
                refine ⟨KeepX.below hq2, ?_⟩
                have hb2 := hj.trans (hq2.mono hj.size)
                clear hq2 hj
                have HM := Lib.hid ((hb2.block _ lm).trans HM.out)
                have HP := Lib.hid ((hb2.block _ lp).trans HP.out)
                have HI := Lib.hid ((hb2.block _ li).trans HI.out)
                have HFL := Lib.hid (HFL.out.ext (Ext.below hb2))
                have BC := Lib.hid (BC.out.trans (hb2.mono BC.out.size))
                clear hb2
                clear ym0 ym2 yp0 yp1 yp2 yp3 yp4 yp5 yi0 yi1 yi2 yi3 yi4 yi5 yi6 yi7 yi8 yi9 yi10 z0 z1 z2 z3 z4 z5 z6 z7 z8 z9
                obtain ⟨ym0, -, ym2, -, lm⟩ := cl4 HM.out
                obtain ⟨yp0, yp1, yp2, yp3, yp4, yp5, lp⟩ := cl6 HP.out
                obtain ⟨yi0, yi1, yi2, yi3, yi4, yi5, yi6, yi7, yi8, yi9, yi10, li⟩ := cl11 HI.out
                obtain ⟨z0, z1, z2, z3, z4, z5, z6, z7, z8, z9, lg⟩ := fz_4 HFL.out
                refine J_mobs [16, 17, 18] _ _ _ _ (by kernel_rfl) ?_
                simp only [List.map_cons, List.map_nil, List.getElem?_toArray, List.getElem?_cons_succ, List.getElem?_cons_zero, Option.getD_some, List.size_toArray, List.length_cons, List.length_nil, Nat.reduceAdd, Nat.reduceSub]
                repeat (go_big_quiet_step (fail))
                refine wpQuiet_nil ?_
                refine J_mobs [19, 20, 21, 22, 23, 24] _ _ _ _ (by kernel_rfl) ?_
                simp only [List.map_cons, List.map_nil, List.getElem?_toArray, List.getElem?_cons_succ, List.getElem?_cons_zero, Option.getD_some, List.size_toArray, List.length_cons, List.length_nil, Nat.reduceAdd, Nat.reduceSub]
                repeat (go_big_quiet_step (fail))
                refine wpQuiet_nil ?_
                refine J_loud1 25 _ rfl (by kernel_rfl) ?_
                simp only [List.getElem_toArray, List.getElem_cons_succ, List.getElem_cons_zero]
                intro wj hj
                go_wp2_with fail
                refine ⟨KeepX.refl _ _, ?_⟩
                have HM := Lib.hid ((hj.block _ lm).trans HM.out)
                have HP := Lib.hid ((hj.block _ lp).trans HP.out)
                have HI := Lib.hid ((hj.block _ li).trans HI.out)
                have HFL := Lib.hid (HFL.out.ext (Ext.below hj))
                have BC := Lib.hid (BC.out.trans (hj.mono BC.out.size))
                clear hj
                clear ym0 ym2 yp0 yp1 yp2 yp3 yp4 yp5 yi0 yi1 yi2 yi3 yi4 yi5 yi6 yi7 yi8 yi9 yi10 z0 z1 z2 z3 z4 z5 z6 z7 z8 z9
                obtain ⟨ym0, -, ym2, -, lm⟩ := cl4 HM.out
                obtain ⟨yp0, yp1, yp2, yp3, yp4, yp5, lp⟩ := cl6 HP.out
                obtain ⟨yi0, yi1, yi2, yi3, yi4, yi5, yi6, yi7, yi8, yi9, yi10, li⟩ := cl11 HI.out
                obtain ⟨z0, z1, z2, z3, z4, z5, z6, z7, z8, z9, lg⟩ := fz_4 HFL.out
                refine J_mobs [26, 27] _ _ _ _ (by kernel_rfl) ?_
                simp only [List.map_cons, List.map_nil, List.getElem?_toArray, List.getElem?_cons_succ, List.getElem?_cons_zero, Option.getD_some, List.size_toArray, List.length_cons, List.length_nil, Nat.reduceAdd, Nat.reduceSub]
                repeat (go_big_quiet_step (fail))
                refine wpQuiet_nil ?_
                refine J_done (by kernel_rfl) (fun wk hk => ?_) _
                have HM := Lib.hid ((hk.block _ lm).trans HM.out)
                have HP := Lib.hid ((hk.block _ lp).trans HP.out)
                have HI := Lib.hid ((hk.block _ li).trans HI.out)
                have HFL := Lib.hid (HFL.out.ext (Ext.below hk))
                have BC := Lib.hid (BC.out.trans (hk.mono BC.out.size))
                clear hk
                clear ym0 ym2 yp0 yp1 yp2 yp3 yp4 yp5 yi0 yi1 yi2 yi3 yi4 yi5 yi6 yi7 yi8 yi9 yi10 z0 z1 z2 z3 z4 z5 z6 z7 z8 z9
                obtain ⟨ym0, -, ym2, -, lm⟩ := cl4 HM.out
                obtain ⟨yp0, yp1, yp2, yp3, yp4, yp5, lp⟩ := cl6 HP.out
                obtain ⟨yi0, yi1, yi2, yi3, yi4, yi5, yi6, yi7, yi8, yi9, yi10, li⟩ := cl11 HI.out
                obtain ⟨z0, z1, z2, z3, z4, z5, z6, z7, z8, z9, lg⟩ := fz_4 HFL.out
                have HV2 : Hid (V = false) := by
                  show _ = _
                  rw [HF.out]
                  simp [*]
                clear HF
                go_wp2_with fail
                go_ret
                exact ⟨ret_b HV2.out.symm, BC.out⟩
              · rw [kr30] at kr30e
                refine J_loud1 15 _ rfl (by kernel_rfl) ?_
                simp only [List.getElem_toArray, List.getElem_cons_succ, List.getElem_cons_zero]
                intro wj hj
                go_wp2_with fail
                refine (kr30e.out wj (Ext.below (BC.out.trans (hj.mono BC.out.size)))).mono ?_
                rintro e w2 ⟨rfl, hq2⟩
                go_wp2_with fail
                refine ⟨KeepX.below hq2, ?_⟩
                have hb2 := hj.trans (hq2.mono hj.size)
                clear hq2 hj
                have HM := Lib.hid ((hb2.block _ lm).trans HM.out)
                have HP := Lib.hid ((hb2.block _ lp).trans HP.out)
                have HI := Lib.hid ((hb2.block _ li).trans HI.out)
                have HFL := Lib.hid (HFL.out.ext (Ext.below hb2))
                have BC := Lib.hid (BC.out.trans (hb2.mono BC.out.size))
                clear hb2
                clear ym0 ym2 yp0 yp1 yp2 yp3 yp4 yp5 yi0 yi1 yi2 yi3 yi4 yi5 yi6 yi7 yi8 yi9 yi10 z0 z1 z2 z3 z4 z5 z6 z7 z8 z9
                obtain ⟨ym0, -, ym2, -, lm⟩ := cl4 HM.out
                obtain ⟨yp0, yp1, yp2, yp3, yp4, yp5, lp⟩ := cl6 HP.out
                obtain ⟨yi0, yi1, yi2, yi3, yi4, yi5, yi6, yi7, yi8, yi9, yi10, li⟩ := cl11 HI.out
                obtain ⟨z0, z1, z2, z3, z4, z5, z6, z7, z8, z9, lg⟩ := fz_4 HFL.out
                refine J_mobs [16, 17, 18] _ _ _ _ (by kernel_rfl) ?_
                simp only [List.map_cons, List.map_nil, List.getElem?_toArray, List.getElem?_cons_succ, List.getElem?_cons_zero, Option.getD_some, List.size_toArray, List.length_cons, List.length_nil, Nat.reduceAdd, Nat.reduceSub]
                repeat (go_big_quiet_step (fail))
                refine wpQuiet_nil ?_
                refine J_mobs [19, 20, 21, 22, 23, 24] _ _ _ _ (by kernel_rfl) ?_
                simp only [List.map_cons, List.map_nil, List.getElem?_toArray, List.getElem?_cons_succ, List.getElem?_cons_zero, Option.getD_some, List.size_toArray, List.length_cons, List.length_nil, Nat.reduceAdd, Nat.reduceSub]
                repeat (go_big_quiet_step (fail))
                refine wpQuiet_nil ?_
                have kr31e := Lib.hid (ER.out rb false)
                have kr31f : Hid (regF p rb false = regF p rb false) := rfl
                cases kr31 : regF p rb false
                · rw [kr31] at kr31e
                  refine J_loud1 25 _ rfl (by kernel_rfl) ?_
                  simp only [List.getElem_toArray, List.getElem_cons_succ, List.getElem_cons_zero]
                  intro wj hj
                  go_wp2_with fail
                  refine (kr31e.out wj (Ext.below (BC.out.trans (hj.mono BC.out.size)))).mono ?_
                  rintro e w2 ⟨rfl, hq2⟩
                  go_wp2_with fail
                  refine ⟨KeepX.below hq2, ?_⟩
                  have hb2 := hj.trans (hq2.mono hj.size)
                  clear hq2 hj
                  have HM := Lib.hid ((hb2.block _ lm).trans HM.out)
                  have HP := Lib.hid ((hb2.block _ lp).trans HP.out)
                  have HI := Lib.hid ((hb2.block _ li).trans HI.out)
                  have HFL := Lib.hid (HFL.out.ext (Ext.below hb2))
                  have BC := Lib.hid (BC.out.trans (hb2.mono BC.out.size))
                  clear hb2
                  clear ym0 ym2 yp0 yp1 yp2 yp3 yp4 yp5 yi0 yi1 yi2 yi3 yi4 yi5 yi6 yi7 yi8 yi9 yi10 z0 z1 z2 z3 z4 z5 z6 z7 z8 z9
                  obtain ⟨ym0, -, ym2, -, lm⟩ := cl4 HM.out
                  obtain ⟨yp0, yp1, yp2, yp3, yp4, yp5, lp⟩ := cl6 HP.out
                  obtain ⟨yi0, yi1, yi2, yi3, yi4, yi5, yi6, yi7, yi8, yi9, yi10, li⟩ := cl11 HI.out
                  obtain ⟨z0, z1, z2, z3, z4, z5, z6, z7, z8, z9, lg⟩ := fz_4 HFL.out
                  refine J_mobs [26, 27] _ _ _ _ (by kernel_rfl) ?_
                  simp only [List.map_cons, List.map_nil, List.getElem?_toArray, List.getElem?_cons_succ, List.getElem?_cons_zero, Option.getD_some, List.size_toArray, List.length_cons, List.length_nil, Nat.reduceAdd, Nat.reduceSub]
                  repeat (go_big_quiet_step (fail))
                  refine wpQuiet_nil ?_
                  refine J_done (by kernel_rfl) (fun wk hk => ?_) _
                  have HM := Lib.hid ((hk.block _ lm).trans HM.out)
                  have HP := Lib.hid ((hk.block _ lp).trans HP.out)
                  have HI := Lib.hid ((hk.block _ li).trans HI.out)
                  have HFL := Lib.hid (HFL.out.ext (Ext.below hk))
                  have BC := Lib.hid (BC.out.trans (hk.mono BC.out.size))
                  clear hk
                  clear ym0 ym2 yp0 yp1 yp2 yp3 yp4 yp5 yi0 yi1 yi2 yi3 yi4 yi5 yi6 yi7 yi8 yi9 yi10 z0 z1 z2 z3 z4 z5 z6 z7 z8 z9
                  obtain ⟨ym0, -, ym2, -, lm⟩ := cl4 HM.out
                  obtain ⟨yp0, yp1, yp2, yp3, yp4, yp5, lp⟩ := cl6 HP.out
                  obtain ⟨yi0, yi1, yi2, yi3, yi4, yi5, yi6, yi7, yi8, yi9, yi10, li⟩ := cl11 HI.out
                  obtain ⟨z0, z1, z2, z3, z4, z5, z6, z7, z8, z9, lg⟩ := fz_4 HFL.out
                  have HV2 : Hid (V = false) := by
                    show _ = _
                    rw [HF.out]
                    simp [*]
                  clear HF
                  go_wp2_with fail
                  go_ret
                  exact ⟨ret_b HV2.out.symm, BC.out⟩
                · rw [kr31] at kr31e
                  refine J_loud1 25 _ rfl (by kernel_rfl) ?_
                  simp only [List.getElem_toArray, List.getElem_cons_succ, List.getElem_cons_zero]
                  intro wj hj
                  go_wp2_with fail
                  refine (kr31e.out wj (Ext.below (BC.out.trans (hj.mono BC.out.size)))).mono ?_
                  rintro e w2 ⟨rfl, hq2⟩
                  go_wp2_with fail
                  refine ⟨KeepX.below hq2, ?_⟩
                  have hb2 := hj.trans (hq2.mono hj.size)
                  clear hq2 hj
                  have HM := Lib.hid ((hb2.block _ lm).trans HM.out)
                  have HP := Lib.hid ((hb2.block _ lp).trans HP.out)
                  have HI := Lib.hid ((hb2.block _ li).trans HI.out)
                  have HFL := Lib.hid (HFL.out.ext (Ext.below hb2))
                  have BC := Lib.hid (BC.out.trans (hb2.mono BC.out.size))
                  clear hb2
                  clear ym0 ym2 yp0 yp1 yp2 yp3 yp4 yp5 yi0 yi1 yi2 yi3 yi4 yi5 yi6 yi7 yi8 yi9 yi10 z0 z1 z2 z3 z4 z5 z6 z7 z8 z9
                  obtain ⟨ym0, -, ym2, -, lm⟩ := cl4 HM.out
                  obtain ⟨yp0, yp1, yp2, yp3, yp4, yp5, lp⟩ := cl6 HP.out
                  obtain ⟨yi0, yi1, yi2, yi3, yi4, yi5, yi6, yi7, yi8, yi9, yi10, li⟩ := cl11 HI.out
                  obtain ⟨z0, z1, z2, z3, z4, z5, z6, z7, z8, z9, lg⟩ := fz_4 HFL.out
                  refine J_mobs [26, 27] _ _ _ _ (by kernel_rfl) ?_
                  simp only [List.map_cons, List.map_nil, List.getElem?_toArray, List.getElem?_cons_succ, List.getElem?_cons_zero, Option.getD_some, List.size_toArray, List.length_cons, List.length_nil, Nat.reduceAdd, Nat.reduceSub]
                  repeat (go_big_quiet_step (fail))
                  refine wpQuiet_nil ?_
                  refine J_done (by kernel_rfl) (fun wk hk => ?_) _
                  have HM := Lib.hid ((hk.block _ lm).trans HM.out)
                  have HP := Lib.hid ((hk.block _ lp).trans HP.out)
                  have HI := Lib.hid ((hk.block _ li).trans HI.out)
                  have HFL := Lib.hid (HFL.out.ext (Ext.below hk))
                  have BC := Lib.hid (BC.out.trans (hk.mono BC.out.size))
                  clear hk
                  clear ym0 ym2 yp0 yp1 yp2 yp3 yp4 yp5 yi0 yi1 yi2 yi3 yi4 yi5 yi6 yi7 yi8 yi9 yi10 z0 z1 z2 z3 z4 z5 z6 z7 z8 z9
                  obtain ⟨ym0, -, ym2, -, lm⟩ := cl4 HM.out
                  obtain ⟨yp0, yp1, yp2, yp3, yp4, yp5, lp⟩ := cl6 HP.out
                  obtain ⟨yi0, yi1, yi2, yi3, yi4, yi5, yi6, yi7, yi8, yi9, yi10, li⟩ := cl11 HI.out
                  obtain ⟨z0, z1, z2, z3, z4, z5, z6, z7, z8, z9, lg⟩ := fz_4 HFL.out
                  by_cases k32 : 17 ≤ fn
                  · have gk32 : decide (17 ≤ fn) = true := decide_eq_true k32
                    have gl32 : decide (fn < 17) = false := decide_eq_false (by omega)
                    by_cases k33 : fn ≤ 19
                    · have gk33 : decide (fn ≤ 19) = true := decide_eq_true k33
                      have gl33 : decide (19 < fn) = false := decide_eq_false (by omega)
                      have go1 : decide (off < -32768) = false := decide_eq_false (by have := (‹Hid (off = 0)›).out; omega)
                      have go2 : decide (32768 < off) = false := decide_eq_false (by have := (‹Hid (off = 0)›).out; omega)
                      have HV2 : Hid (V = true) := by
                        show _ = _
                        rw [HF.out]
                        simp [*]
                      clear HF
                      go_wp2_with fail
                      go_ret
                      exact ⟨ret_b HV2.out.symm, BC.out⟩
                    · have gk33 : decide (fn ≤ 19) = false := decide_eq_false k33
                      have gl33 : decide (19 < fn) = true := decide_eq_true (by omega)
                      have HV2 : Hid (V = false) := by
                        show _ = _
                        rw [HF.out]
                        simp [*]
                      clear HF
                      go_wp2_with fail
                      go_ret
                      exact ⟨ret_b HV2.out.symm, BC.out⟩
                  · have gk32 : decide (17 ≤ fn) = false := decide_eq_false k32
                    have gl32 : decide (fn < 17) = true := decide_eq_true (by omega)
                    have HV2 : Hid (V = false) := by
                      show _ = _
                      rw [HF.out]
                      simp [*]
                    clear HF
                    go_wp2_with fail
                    go_ret
                    exact ⟨ret_b HV2.out.symm, BC.out⟩
          · have ga1 : decide ((0 : Int) < (args.length : Int)) = true := decide_eq_true (by omega)
            have ga2 : decide (0 < args.length) = true := decide_eq_true (by omega)
            have ga3 : decide (args.length = 0) = false := decide_eq_false ka
            refine wp_region_text (by kernel_rfl) ?_
            simp only [List.append_eq, List.cons_append, List.nil_append]
            repeat (go_big_quiet_step (fail))
            refine wpQuiet_nil ?_
            have HV2 : Hid (V = false) := by
              show _ = _
              rw [HF.out]
              simp [*]
            clear HF
            go_wp2_with fail
            go_ret
            exact ⟨ret_b HV2.out.symm, BC.out⟩
        · have gk28 : (num == 0) = false := beq_eq_false_iff_ne.2 k28
          have gn28 : (num != 0) = true := bne_iff_ne.2 k28
          have kh28 := Lib.hid k28
          clear k28
          refine wp_region_text (by kernel_rfl) ?_
          simp only [List.append_eq, List.cons_append, List.nil_append]
          repeat (go_big_quiet_step (fail))
          refine wpQuiet_nil ?_
          have HV2 : Hid (V = false) := by
            show _ = _
            rw [HF.out]
            simp [*]
          clear HF
          go_wp2_with fail
          go_ret
          exact ⟨ret_b HV2.out.symm, BC.out⟩
      · have gk27 : (size == 0) = false := beq_eq_false_iff_ne.2 k27
        have gn27 : (size != 0) = true := bne_iff_ne.2 k27
        have kh27 := Lib.hid k27
        clear k27
        refine wp_region_text (by kernel_rfl) ?_
        simp only [List.append_eq, List.cons_append, List.nil_append]
        repeat (go_big_quiet_step (fail))
        refine wpQuiet_nil ?_
        have HV2 : Hid (V = false) := by
          show _ = _
          rw [HF.out]
          simp [*]
        clear HF
        go_wp2_with fail
        go_ret
        exact ⟨ret_b HV2.out.symm, BC.out⟩
    · have gk26 : (off == 0) = false := beq_eq_false_iff_ne.2 k26
      have gn26 : (off != 0) = true := bne_iff_ne.2 k26
      have kh26 := Lib.hid k26
      clear k26
      refine wp_region_text (by kernel_rfl) ?_
      simp only [List.append_eq, List.cons_append, List.nil_append]
      repeat (go_big_quiet_step (fail))
      refine wpQuiet_nil ?_
      have HV2 : Hid (V = false) := by
        show _ = _
        rw [HF.out]
        simp [*]
      clear HF
      go_wp2_with fail
      go_ret
      exact ⟨ret_b HV2.out.symm, BC.out⟩
  · have gk25 : (obj == 0) = false := beq_eq_false_iff_ne.2 k25
    have gn25 : (obj != 0) = true := bne_iff_ne.2 k25
    have kh25 := Lib.hid k25
    clear k25
    refine wp_region_text (by kernel_rfl) ?_
    simp only [List.append_eq, List.cons_append, List.nil_append]
    repeat (go_big_quiet_step (fail))
    refine wpQuiet_nil ?_
    have HV2 : Hid (V = false) := by
      show _ = _
      rw [HF.out]
      simp [*]
    clear HF
    go_wp2_with fail
    go_ret
    exact ⟨ret_b HV2.out.symm, BC.out⟩
end Go.Proofs.YtnnhobbabcfogaaDoor
