/-
  The document's judgement of instructions, operation by operation.
-/
import Derived.Test.YtnnhobbabcfogaaDoorR20
import Derived.Test.YtnnhobbabcfogaaDoorF4
import Derived.Test.YtnnhobbabcfogaaDoorE7
import Derived.Test.YtnnhobbabcfogaaDoorN2
set_option linter.all false
namespace Go.Proofs.YtnnhobbabcfogaaDoor
open Go.ChangeShapes Go.WideShapes Go.ChangeAt Go.RowKit
set_option maxHeartbeats 8000000
set_option linter.unusedVariables false
set_option maxRecDepth 100000

theorem fz_5 {w : World} {g : Nat} (h : FldAt w 5 g) : w.cell? ⟨g, 0, none⟩ = some (.bool true) ∧ w.cell? ⟨g, 1, none⟩ = some (.bool true) ∧ w.cell? ⟨g, 2, none⟩ = some (.bool false) ∧ w.cell? ⟨g, 3, none⟩ = some (.bool false) ∧ w.cell? ⟨g, 4, none⟩ = some (.bool false) ∧ w.cell? ⟨g, 5, none⟩ = some (.bool true) ∧ w.cell? ⟨g, 6, none⟩ = some (.bool true) ∧ w.cell? ⟨g, 7, none⟩ = some (.bool false) ∧ w.cell? ⟨g, 8, none⟩ = some (.bool false) ∧ w.cell? ⟨g, 9, none⟩ = some (.bool true) ∧ g < w.heap.size := ⟨h.c0, h.c1, h.c2, h.c3, h.c4, h.c5, h.c6, h.c7, h.c8, h.c9, h.lt⟩
theorem okI_5 (m : Md) (p : Pr) (d ra rb fn obj off size num : Int) (args : List Int) (log : Bool) : okI m p ⟨5, d, ra, rb, fn, obj, off, size, num, args, log⟩ = ((fn == 0) && ((obj == 0) && ((num == 0) && (decide (args.length = 0) && (regF p d true && (regF p ra true && (regF p rb false && ((size == 1 || size == 4) && (decide (-32768 ≤ off) && (decide (off ≤ 32768))))))))))) := by
  cases log <;> (rw [Bool.eq_iff_iff]; simp [okI, bareF, plainI, regF, moreF, offF, readsA, readsB, defI, -List.length_eq_zero_iff] <;> omega)
theorem rins_5 (m : Md) (p : Pr) (v V0 : Value) (d ra rb fn obj off size num : Int) (args : List Int) (log : Bool) (aa : Option Addr) (ca : Nat) (w : World) (hm : MdV w v m) (hp : PrV w V0 p) (ha2 : ca ≤ 9223372036854775807) (ha1 : args.length ≤ ca) (h0 : 0 ≤ p.regs) (h1 : p.regs ≤ 100000) :
    Calls Tryd.prog 41 #[v, V0, .agg #[.int .i64 5, .int .i64 d, .int .i64 ra, .int .i64 rb, .int .i64 fn, .int .i64 obj, .int .i64 off, .int .i64 size, .int .u32 num, .slice aa args.length ca, .bool log]] w fun e w' => e = .returned (.bool (okI m p ⟨5, d, ra, rb, fn, obj, off, size, num, args, log⟩)) ∧ Below w.heap.size w w' := by
  obtain ⟨V, hV⟩ : ∃ V, okI m p ⟨5, d, ra, rb, fn, obj, off, size, num, args, log⟩ = V := ⟨_, rfl⟩
  rw [hV]
  have HF := Lib.hid (hV.symm.trans (okI_5 m p d ra rb fn obj off size num args log))
  clear hV
  have ER : Hid (∀ r s w', Ext w w' → Calls Tryd.prog 63 #[V0, .int .i64 r, .bool s] w' fun e w'' => e = .returned (.bool (regF p r s)) ∧ Below w'.heap.size w' w'') := fun r s w' he => rregister_c p V0 r s w' (hp.ext he) h0 h1
  obtain ⟨nm, vo, vb, rfl, ⟨ao, co, rfl, -, hco, -⟩, ⟨ab, cb, rfl, -, hcb, -⟩⟩ := hp
  obtain ⟨vg, vd, vp, rfl, ⟨ag, cg, rfl, hcg1, hcg, -⟩, ⟨ad, cd, rfl, -⟩, ⟨ap, cp, rfl, hcp1, hcp, -⟩⟩ := hm
  unfold maxLen at hco hcb hcg hcp
  have EF := Lib.hid (fun w => fields_c 5 w (by decide) (by decide))
  go_enter Tryd.func41, Tryd.ntmps41
  go_wp2_with fail
  refine (EF.out _).mono ?_
  rintro e w1 ⟨g, rfl, hg, hf, hb⟩
  have HM : Hid (w1.heap[w.heap.size]? = some (.cells #[.slice ag m.globs.length cg, .slice ad m.data.length cd, .slice ap m.procs.length cp, .int .i64 m.main] 26 (0, 0))) := (hb.block w.heap.size (by simp <;> omega)).trans (allocs_heap [.cells #[.slice ag m.globs.length cg, .slice ad m.data.length cd, .slice ap m.procs.length cp, .int .i64 m.main] 26, .cells #[.string nm, .bool p.void, .int .i64 p.params, .int .i64 p.regs, .slice ao p.objs.length co, .slice ab p.blks.length cb] 37, .cells #[.int .i64 5, .int .i64 d, .int .i64 ra, .int .i64 rb, .int .i64 fn, .int .i64 obj, .int .i64 off, .int .i64 size, .int .u32 num, .slice aa args.length ca, .bool log] 45] w 0 (by simp))
  have HP : Hid (w1.heap[w.heap.size + 1]? = some (.cells #[.string nm, .bool p.void, .int .i64 p.params, .int .i64 p.regs, .slice ao p.objs.length co, .slice ab p.blks.length cb] 37 (0, 0))) := (hb.block (w.heap.size + 1) (by simp <;> omega)).trans (allocs_heap [.cells #[.slice ag m.globs.length cg, .slice ad m.data.length cd, .slice ap m.procs.length cp, .int .i64 m.main] 26, .cells #[.string nm, .bool p.void, .int .i64 p.params, .int .i64 p.regs, .slice ao p.objs.length co, .slice ab p.blks.length cb] 37, .cells #[.int .i64 5, .int .i64 d, .int .i64 ra, .int .i64 rb, .int .i64 fn, .int .i64 obj, .int .i64 off, .int .i64 size, .int .u32 num, .slice aa args.length ca, .bool log] 45] w 1 (by simp))
  have HI : Hid (w1.heap[w.heap.size + 1 + 1]? = some (.cells #[.int .i64 5, .int .i64 d, .int .i64 ra, .int .i64 rb, .int .i64 fn, .int .i64 obj, .int .i64 off, .int .i64 size, .int .u32 num, .slice aa args.length ca, .bool log] 45 (0, 0))) := (hb.block (w.heap.size + 1 + 1) (by simp <;> omega)).trans (allocs_heap [.cells #[.slice ag m.globs.length cg, .slice ad m.data.length cd, .slice ap m.procs.length cp, .int .i64 m.main] 26, .cells #[.string nm, .bool p.void, .int .i64 p.params, .int .i64 p.regs, .slice ao p.objs.length co, .slice ab p.blks.length cb] 37, .cells #[.int .i64 5, .int .i64 d, .int .i64 ra, .int .i64 rb, .int .i64 fn, .int .i64 obj, .int .i64 off, .int .i64 size, .int .u32 num, .slice aa args.length ca, .bool log] 45] w 2 (by simp))
  have HFL := Lib.hid hf
  have BC : Hid (Below w.heap.size w w1) := below3c hb
  clear hg hf hb
  obtain ⟨ym0, -, ym2, -, lm⟩ := cl4 HM.out
  obtain ⟨yp0, yp1, yp2, yp3, yp4, yp5, lp⟩ := cl6 HP.out
  obtain ⟨yi0, yi1, yi2, yi3, yi4, yi5, yi6, yi7, yi8, yi9, yi10, li⟩ := cl11 HI.out
  obtain ⟨z0, z1, z2, z3, z4, z5, z6, z7, z8, z9, lg⟩ := fz_5 HFL.out
  go_upto_region 4 with (fail)
  by_cases k1 : fn = 0
  · have gk1 : (fn == 0) = true := beq_iff_eq.2 k1
    have gn1 : (fn != 0) = false := bne_eq_false_iff_eq.2 k1
    have kh1 := Lib.hid k1
    clear k1
    by_cases k2 : obj = 0
    · have gk2 : (obj == 0) = true := beq_iff_eq.2 k2
      have gn2 : (obj != 0) = false := bne_eq_false_iff_eq.2 k2
      have kh2 := Lib.hid k2
      clear k2
      by_cases k3 : num = 0
      · have gk3 : (num == 0) = true := beq_iff_eq.2 k3
        have gn3 : (num != 0) = false := bne_eq_false_iff_eq.2 k3
        have kh3 := Lib.hid k3
        clear k3
        by_cases ka : args.length = 0
        · have ga1 : decide ((0 : Int) < (args.length : Int)) = false := decide_eq_false (by omega)
          have ga2 : decide (0 < args.length) = false := decide_eq_false (by omega)
          have ga3 : decide (args.length = 0) = true := decide_eq_true ka
          have ka := Lib.hid ka
          refine wp_region_text (by kernel_rfl) ?_
          simp only [List.append_eq, List.cons_append, List.nil_append]
          repeat (go_big_quiet_step (fail))
          refine wpQuiet_nil ?_
          go_wp2_with fail
          refine wp_region_junk (fun _ => True) (by kernel_rfl) ?_
          refine J_mobs [0, 1, 2, 3, 4, 5] _ _ _ _ (by kernel_rfl) ?_
          simp only [List.map_cons, List.map_nil, List.getElem?_toArray, List.getElem?_cons_succ, List.getElem?_cons_zero, Option.getD_some, List.size_toArray, List.length_cons, List.length_nil, Nat.reduceAdd, Nat.reduceSub]
          repeat (go_big_quiet_step (fail))
          refine wpQuiet_nil ?_
          have kr4e := Lib.hid (ER.out d true)
          have kr4f : Hid (regF p d true = regF p d true) := rfl
          cases kr4 : regF p d true
          · rw [kr4] at kr4e
            refine J_loud1 6 _ rfl (by kernel_rfl) ?_
            simp only [List.getElem_toArray, List.getElem_cons_succ, List.getElem_cons_zero]
            intro wj hj
            go_wp2_with fail
            refine (kr4e.out wj (Ext.below (BC.out.trans (hj.mono BC.out.size)))).mono ?_
            rintro e w2 ⟨rfl, hq2⟩
            go_wp2_with fail
            refine ⟨KeepX.below hq2, ?_⟩
            have hb2 := hj.trans (hq2.mono hj.size)
            clear hq2 hj
            have HM := Lib.hid ((hb2.block _ lm).trans HM.out)
            have HP := Lib.hid ((hb2.block _ lp).trans HP.out)
            have HI := Lib.hid ((hb2.block _ li).trans HI.out)
            have HFL := Lib.hid (HFL.out.ext (Ext.below hb2))
            have BC := Lib.hid (BC.out.trans (hb2.mono BC.out.size))
            clear hb2
            clear ym0 ym2 yp0 yp1 yp2 yp3 yp4 yp5 yi0 yi1 yi2 yi3 yi4 yi5 yi6 yi7 yi8 yi9 yi10 z0 z1 z2 z3 z4 z5 z6 z7 z8 z9
            obtain ⟨ym0, -, ym2, -, lm⟩ := cl4 HM.out
            obtain ⟨yp0, yp1, yp2, yp3, yp4, yp5, lp⟩ := cl6 HP.out
            obtain ⟨yi0, yi1, yi2, yi3, yi4, yi5, yi6, yi7, yi8, yi9, yi10, li⟩ := cl11 HI.out
            obtain ⟨z0, z1, z2, z3, z4, z5, z6, z7, z8, z9, lg⟩ := fz_5 HFL.out
            refine J_mobs [7, 8] _ _ _ _ (by kernel_rfl) ?_
            simp only [List.map_cons, List.map_nil, List.getElem?_toArray, List.getElem?_cons_succ, List.getElem?_cons_zero, Option.getD_some, List.size_toArray, List.length_cons, List.length_nil, Nat.reduceAdd, Nat.reduceSub]
            repeat (go_big_quiet_step (fail))
            refine wpQuiet_nil ?_
            refine J_mobs [9, 10, 11, 12, 13, 14] _ _ _ _ (by kernel_rfl) ?_
            simp only [List.map_cons, List.map_nil, List.getElem?_toArray, List.getElem?_cons_succ, List.getElem?_cons_zero, Option.getD_some, List.size_toArray, List.length_cons, List.length_nil, Nat.reduceAdd, Nat.reduceSub]
            repeat (go_big_quiet_step (fail))
            refine wpQuiet_nil ?_
            refine J_loud1 15 _ rfl (by kernel_rfl) ?_
            simp only [List.getElem_toArray, List.getElem_cons_succ, List.getElem_cons_zero]
            intro wj hj
            go_wp2_with fail
            refine ⟨KeepX.refl _ _, ?_⟩
            have HM := Lib.hid ((hj.block _ lm).trans HM.out)
            have HP := Lib.hid ((hj.block _ lp).trans HP.out)
            have HI := Lib.hid ((hj.block _ li).trans HI.out)
            have HFL := Lib.hid (HFL.out.ext (Ext.below hj))
            have BC := Lib.hid (BC.out.trans (hj.mono BC.out.size))
            clear hj
            clear ym0 ym2 yp0 yp1 yp2 yp3 yp4 yp5 yi0 yi1 yi2 yi3 yi4 yi5 yi6 yi7 yi8 yi9 yi10 z0 z1 z2 z3 z4 z5 z6 z7 z8 z9
            obtain ⟨ym0, -, ym2, -, lm⟩ := cl4 HM.out
            obtain ⟨yp0, yp1, yp2, yp3, yp4, yp5, lp⟩ := cl6 HP.out
            obtain ⟨yi0, yi1, yi2, yi3, yi4, yi5, yi6, yi7, yi8, yi9, yi10, li⟩ := cl11 HI.out
            obtain ⟨z0, z1, z2, z3, z4, z5, z6, z7, z8, z9, lg⟩ := fz_5 HFL.out
            refine J_mobs [16, 17, 18] _ _ _ _ (by kernel_rfl) ?_
            simp only [List.map_cons, List.map_nil, List.getElem?_toArray, List.getElem?_cons_succ, List.getElem?_cons_zero, Option.getD_some, List.size_toArray, List.length_cons, List.length_nil, Nat.reduceAdd, Nat.reduceSub]
            repeat (go_big_quiet_step (fail))
            refine wpQuiet_nil ?_
            refine J_mobs [19, 20, 21, 22, 23, 24] _ _ _ _ (by kernel_rfl) ?_
            simp only [List.map_cons, List.map_nil, List.getElem?_toArray, List.getElem?_cons_succ, List.getElem?_cons_zero, Option.getD_some, List.size_toArray, List.length_cons, List.length_nil, Nat.reduceAdd, Nat.reduceSub]
            repeat (go_big_quiet_step (fail))
            refine wpQuiet_nil ?_
            refine J_loud1 25 _ rfl (by kernel_rfl) ?_
            simp only [List.getElem_toArray, List.getElem_cons_succ, List.getElem_cons_zero]
            intro wj hj
            go_wp2_with fail
            refine ⟨KeepX.refl _ _, ?_⟩
            have HM := Lib.hid ((hj.block _ lm).trans HM.out)
            have HP := Lib.hid ((hj.block _ lp).trans HP.out)
            have HI := Lib.hid ((hj.block _ li).trans HI.out)
            have HFL := Lib.hid (HFL.out.ext (Ext.below hj))
            have BC := Lib.hid (BC.out.trans (hj.mono BC.out.size))
            clear hj
            clear ym0 ym2 yp0 yp1 yp2 yp3 yp4 yp5 yi0 yi1 yi2 yi3 yi4 yi5 yi6 yi7 yi8 yi9 yi10 z0 z1 z2 z3 z4 z5 z6 z7 z8 z9
            obtain ⟨ym0, -, ym2, -, lm⟩ := cl4 HM.out
            obtain ⟨yp0, yp1, yp2, yp3, yp4, yp5, lp⟩ := cl6 HP.out
            obtain ⟨yi0, yi1, yi2, yi3, yi4, yi5, yi6, yi7, yi8, yi9, yi10, li⟩ := cl11 HI.out
            obtain ⟨z0, z1, z2, z3, z4, z5, z6, z7, z8, z9, lg⟩ := fz_5 HFL.out
            refine J_mobs [26, 27] _ _ _ _ (by kernel_rfl) ?_
            simp only [List.map_cons, List.map_nil, List.getElem?_toArray, List.getElem?_cons_succ, List.getElem?_cons_zero, Option.getD_some, List.size_toArray, List.length_cons, List.length_nil, Nat.reduceAdd, Nat.reduceSub]
            repeat (go_big_quiet_step (fail))
            refine wpQuiet_nil ?_
            refine J_done (by kernel_rfl) (fun wk hk => ?_) _
            have HM := Lib.hid ((hk.block _ lm).trans HM.out)
            have HP := Lib.hid ((hk.block _ lp).trans HP.out)
            have HI := Lib.hid ((hk.block _ li).trans HI.out)
            have HFL := Lib.hid (HFL.out.ext (Ext.below hk))
            have BC := Lib.hid (BC.out.trans (hk.mono BC.out.size))
            clear hk
            clear ym0 ym2 yp0 yp1 yp2 yp3 yp4 yp5 yi0 yi1 yi2 yi3 yi4 yi5 yi6 yi7 yi8 yi9 yi10 z0 z1 z2 z3 z4 z5 z6 z7 z8 z9
            obtain ⟨ym0, -, ym2, -, lm⟩ := cl4 HM.out
            obtain ⟨yp0, yp1, yp2, yp3, yp4, yp5, lp⟩ := cl6 HP.out
            obtain ⟨yi0, yi1, yi2, yi3, yi4, yi5, yi6, yi7, yi8, yi9, yi10, li⟩ := cl11 HI.out
            obtain ⟨z0, z1, z2, z3, z4, z5, z6, z7, z8, z9, lg⟩ := fz_5 HFL.out
            have HV2 : Hid (V = false) := by
              show _ = _
              rw [HF.out]
              simp [*]
            clear HF
            go_wp2_with fail
            go_ret
            exact ⟨ret_b HV2.out.symm, BC.out⟩
          · rw [kr4] at kr4e
            refine J_loud1 6 _ rfl (by kernel_rfl) ?_
            simp only [List.getElem_toArray, List.getElem_cons_succ, List.getElem_cons_zero]
            intro wj hj
            go_wp2_with fail
            refine (kr4e.out wj (Ext.below (BC.out.trans (hj.mono BC.out.size)))).mono ?_
            rintro e w2 ⟨rfl, hq2⟩
            go_wp2_with fail
            refine ⟨KeepX.below hq2, ?_⟩
            have hb2 := hj.trans (hq2.mono hj.size)
            clear hq2 hj
            have HM := Lib.hid ((hb2.block _ lm).trans HM.out)
            have HP := Lib.hid ((hb2.block _ lp).trans HP.out)
            have HI := Lib.hid ((hb2.block _ li).trans HI.out)
            have HFL := Lib.hid (HFL.out.ext (Ext.below hb2))
            have BC := Lib.hid (BC.out.trans (hb2.mono BC.out.size))
            clear hb2
            clear ym0 ym2 yp0 yp1 yp2 yp3 yp4 yp5 yi0 yi1 yi2 yi3 yi4 yi5 yi6 yi7 yi8 yi9 yi10 z0 z1 z2 z3 z4 z5 z6 z7 z8 z9
            obtain ⟨ym0, -, ym2, -, lm⟩ := cl4 HM.out
            obtain ⟨yp0, yp1, yp2, yp3, yp4, yp5, lp⟩ := cl6 HP.out
            obtain ⟨yi0, yi1, yi2, yi3, yi4, yi5, yi6, yi7, yi8, yi9, yi10, li⟩ := cl11 HI.out
            obtain ⟨z0, z1, z2, z3, z4, z5, z6, z7, z8, z9, lg⟩ := fz_5 HFL.out
            refine J_mobs [7, 8] _ _ _ _ (by kernel_rfl) ?_
            simp only [List.map_cons, List.map_nil, List.getElem?_toArray, List.getElem?_cons_succ, List.getElem?_cons_zero, Option.getD_some, List.size_toArray, List.length_cons, List.length_nil, Nat.reduceAdd, Nat.reduceSub]
            repeat (go_big_quiet_step (fail))
            refine wpQuiet_nil ?_
            refine J_mobs [9, 10, 11, 12, 13, 14] _ _ _ _ (by kernel_rfl) ?_
            simp only [List.map_cons, List.map_nil, List.getElem?_toArray, List.getElem?_cons_succ, List.getElem?_cons_zero, Option.getD_some, List.size_toArray, List.length_cons, List.length_nil, Nat.reduceAdd, Nat.reduceSub]
            repeat (go_big_quiet_step (fail))
            refine wpQuiet_nil ?_
            have kr5e := Lib.hid (ER.out ra true)
            have kr5f : Hid (regF p ra true = regF p ra true) := rfl
            cases kr5 : regF p ra true
            · rw [kr5] at kr5e
              refine J_loud1 15 _ rfl (by kernel_rfl) ?_
              simp only [List.getElem_toArray, List.getElem_cons_succ, List.getElem_cons_zero]
              intro wj hj
              go_wp2_with fail
              refine (kr5e.out wj (Ext.below (BC.out.trans (hj.mono BC.out.size)))).mono ?_
              rintro e w2 ⟨rfl, hq2⟩
              go_wp2_with fail
              refine ⟨KeepX.below hq2, ?_⟩
              have hb2 := hj.trans (hq2.mono hj.size)
              clear hq2 hj
              have HM := Lib.hid ((hb2.block _ lm).trans HM.out)
              have HP := Lib.hid ((hb2.block _ lp).trans HP.out)
              have HI := Lib.hid ((hb2.block _ li).trans HI.out)
              have HFL := Lib.hid (HFL.out.ext (Ext.below hb2))
              have BC := Lib.hid (BC.out.trans (hb2.mono BC.out.size))
              clear hb2
              clear ym0 ym2 yp0 yp1 yp2 yp3 yp4 yp5 yi0 yi1 yi2 yi3 yi4 yi5 yi6 yi7 yi8 yi9 yi10 z0 z1 z2 z3 z4 z5 z6 z7 z8 z9
              obtain ⟨ym0, -, ym2, -, lm⟩ := cl4 HM.out
              obtain ⟨yp0, yp1, yp2, yp3, yp4, yp5, lp⟩ := cl6 HP.out
              obtain ⟨yi0, yi1, yi2, yi3, yi4, yi5, yi6, yi7, yi8, yi9, yi10, li⟩ := cl11 HI.out
              obtain ⟨z0, z1, z2, z3, z4, z5, z6, z7, z8, z9, lg⟩ := fz_5 HFL.out
              refine J_mobs [16, 17, 18] _ _ _ _ (by kernel_rfl) ?_
              simp only [List.map_cons, List.map_nil, List.getElem?_toArray, List.getElem?_cons_succ, List.getElem?_cons_zero, Option.getD_some, List.size_toArray, List.length_cons, List.length_nil, Nat.reduceAdd, Nat.reduceSub]
              repeat (go_big_quiet_step (fail))
              refine wpQuiet_nil ?_
              refine J_mobs [19, 20, 21, 22, 23, 24] _ _ _ _ (by kernel_rfl) ?_
              simp only [List.map_cons, List.map_nil, List.getElem?_toArray, List.getElem?_cons_succ, List.getElem?_cons_zero, Option.getD_some, List.size_toArray, List.length_cons, List.length_nil, Nat.reduceAdd, Nat.reduceSub]
              repeat (go_big_quiet_step (fail))
              refine wpQuiet_nil ?_
              refine J_loud1 25 _ rfl (by kernel_rfl) ?_
              simp only [List.getElem_toArray, List.getElem_cons_succ, List.getElem_cons_zero]
              intro wj hj
              go_wp2_with fail
              refine ⟨KeepX.refl _ _, ?_⟩
              have HM := Lib.hid ((hj.block _ lm).trans HM.out)
              have HP := Lib.hid ((hj.block _ lp).trans HP.out)
              have HI := Lib.hid ((hj.block _ li).trans HI.out)
              have HFL := Lib.hid (HFL.out.ext (Ext.below hj))
              have BC := Lib.hid (BC.out.trans (hj.mono BC.out.size))
              clear hj
              clear ym0 ym2 yp0 yp1 yp2 yp3 yp4 yp5 yi0 yi1 yi2 yi3 yi4 yi5 yi6 yi7 yi8 yi9 yi10 z0 z1 z2 z3 z4 z5 z6 z7 z8 z9
              obtain ⟨ym0, -, ym2, -, lm⟩ := cl4 HM.out
              obtain ⟨yp0, yp1, yp2, yp3, yp4, yp5, lp⟩ := cl6 HP.out
              obtain ⟨yi0, yi1, yi2, yi3, yi4, yi5, yi6, yi7, yi8, yi9, yi10, li⟩ := cl11 HI.out
              obtain ⟨z0, z1, z2, z3, z4, z5, z6, z7, z8, z9, lg⟩ := fz_5 HFL.out
              refine J_mobs [26, 27] _ _ _ _ (by kernel_rfl) ?_
              simp only [List.map_cons, List.map_nil, List.getElem?_toArray, List.getElem?_cons_succ, List.getElem?_cons_zero, Option.getD_some, List.size_toArray, List.length_cons, List.length_nil, Nat.reduceAdd, Nat.reduceSub]
              repeat (go_big_quiet_step (fail))
              refine wpQuiet_nil ?_
              refine J_done (by kernel_rfl) (fun wk hk => ?_) _
              have HM := Lib.hid ((hk.block _ lm).trans HM.out)
              have HP := Lib.hid ((hk.block _ lp).trans HP.out)
              have HI := Lib.hid ((hk.block _ li).trans HI.out)
              have HFL := Lib.hid (HFL.out.ext (Ext.below hk))
              have BC := Lib.hid (BC.out.trans (hk.mono BC.out.size))
              clear hk
              clear ym0 ym2 yp0 yp1 yp2 yp3 yp4 yp5 yi0 yi1 yi2 yi3 yi4 yi5 yi6 yi7 yi8 yi9 yi10 z0 z1 z2 z3 z4 z5 z6 z7 z8 z9
              obtain ⟨ym0, -, ym2, -, lm⟩ := cl4 HM.out
              obtain ⟨yp0, yp1, yp2, yp3, yp4, yp5, lp⟩ := cl6 HP.out
              obtain ⟨yi0, yi1, yi2, yi3, yi4, yi5, yi6, yi7, yi8, yi9, yi10, li⟩ := cl11 HI.out
              obtain ⟨z0, z1, z2, z3, z4, z5, z6, z7, z8, z9, lg⟩ := fz_5 HFL.out
              have HV2 : Hid (V = false) := by
                show _ = _
                rw [HF.out]
                simp [*]
              clear HF
              go_wp2_with fail
              go_ret
              exact ⟨ret_b HV2.out.symm, BC.out⟩
            · rw [kr5] at kr5e
              refine J_loud1 15 _ rfl (by kernel_rfl) ?_
              simp only [List.getElem_toArray, List.getElem_cons_succ, List.getElem_cons_zero]
              intro wj hj
              go_wp2_with fail
              refine (kr5e.out wj (Ext.below (BC.out.trans (hj.mono BC.out.size)))).mono ?_
              rintro e w2 ⟨rfl, hq2⟩
              go_wp2_with fail
              refine ⟨KeepX.below hq2, ?_⟩
              have hb2 := hj.trans (hq2.mono hj.size)
              clear hq2 hj
              have HM := Lib.hid ((hb2.block _ lm).trans HM.out)
              have HP := Lib.hid ((hb2.block _ lp).trans HP.out)
              have HI := Lib.hid ((hb2.block _ li).trans HI.out)
              have HFL := Lib.hid (HFL.out.ext (Ext.below hb2))
              have BC := Lib.hid (BC.out.trans (hb2.mono BC.out.size))
              clear hb2
              clear ym0 ym2 yp0 yp1 yp2 yp3 yp4 yp5 yi0 yi1 yi2 yi3 yi4 yi5 yi6 yi7 yi8 yi9 yi10 z0 z1 z2 z3 z4 z5 z6 z7 z8 z9
              obtain ⟨ym0, -, ym2, -, lm⟩ := cl4 HM.out
              obtain ⟨yp0, yp1, yp2, yp3, yp4, yp5, lp⟩ := cl6 HP.out
              obtain ⟨yi0, yi1, yi2, yi3, yi4, yi5, yi6, yi7, yi8, yi9, yi10, li⟩ := cl11 HI.out
              obtain ⟨z0, z1, z2, z3, z4, z5, z6, z7, z8, z9, lg⟩ := fz_5 HFL.out
              refine J_mobs [16, 17, 18] _ _ _ _ (by kernel_rfl) ?_
              simp only [List.map_cons, List.map_nil, List.getElem?_toArray, List.getElem?_cons_succ, List.getElem?_cons_zero, Option.getD_some, List.size_toArray, List.length_cons, List.length_nil, Nat.reduceAdd, Nat.reduceSub]
              repeat (go_big_quiet_step (fail))
              refine wpQuiet_nil ?_
              refine J_mobs [19, 20, 21, 22, 23, 24] _ _ _ _ (by kernel_rfl) ?_
              simp only [List.map_cons, List.map_nil, List.getElem?_toArray, List.getElem?_cons_succ, List.getElem?_cons_zero, Option.getD_some, List.size_toArray, List.length_cons, List.length_nil, Nat.reduceAdd, Nat.reduceSub]
              repeat (go_big_quiet_step (fail))
              refine wpQuiet_nil ?_
              have kr6e := Lib.hid (ER.out rb false)
              have kr6f : Hid (regF p rb false = regF p rb false) := rfl
              cases kr6 : regF p rb false
              · rw [kr6] at kr6e
                refine J_loud1 25 _ rfl (by kernel_rfl) ?_
                simp only [List.getElem_toArray, List.getElem_cons_succ, List.getElem_cons_zero]
                intro wj hj
                go_wp2_with fail
                refine (kr6e.out wj (Ext.below (BC.out.trans (hj.mono BC.out.size)))).mono ?_
                rintro e w2 ⟨rfl, hq2⟩
                go_wp2_with fail
                refine ⟨KeepX.below hq2, ?_⟩
                have hb2 := hj.trans (hq2.mono hj.size)
                clear hq2 hj
                have HM := Lib.hid ((hb2.block _ lm).trans HM.out)
                have HP := Lib.hid ((hb2.block _ lp).trans HP.out)
                have HI := Lib.hid ((hb2.block _ li).trans HI.out)
                have HFL := Lib.hid (HFL.out.ext (Ext.below hb2))
                have BC := Lib.hid (BC.out.trans (hb2.mono BC.out.size))
                clear hb2
                clear ym0 ym2 yp0 yp1 yp2 yp3 yp4 yp5 yi0 yi1 yi2 yi3 yi4 yi5 yi6 yi7 yi8 yi9 yi10 z0 z1 z2 z3 z4 z5 z6 z7 z8 z9
                obtain ⟨ym0, -, ym2, -, lm⟩ := cl4 HM.out
                obtain ⟨yp0, yp1, yp2, yp3, yp4, yp5, lp⟩ := cl6 HP.out
                obtain ⟨yi0, yi1, yi2, yi3, yi4, yi5, yi6, yi7, yi8, yi9, yi10, li⟩ := cl11 HI.out
                obtain ⟨z0, z1, z2, z3, z4, z5, z6, z7, z8, z9, lg⟩ := fz_5 HFL.out
                refine J_mobs [26, 27] _ _ _ _ (by kernel_rfl) ?_
                simp only [List.map_cons, List.map_nil, List.getElem?_toArray, List.getElem?_cons_succ, List.getElem?_cons_zero, Option.getD_some, List.size_toArray, List.length_cons, List.length_nil, Nat.reduceAdd, Nat.reduceSub]
                repeat (go_big_quiet_step (fail))
                refine wpQuiet_nil ?_
                refine J_done (by kernel_rfl) (fun wk hk => ?_) _
                have HM := Lib.hid ((hk.block _ lm).trans HM.out)
                have HP := Lib.hid ((hk.block _ lp).trans HP.out)
                have HI := Lib.hid ((hk.block _ li).trans HI.out)
                have HFL := Lib.hid (HFL.out.ext (Ext.below hk))
                have BC := Lib.hid (BC.out.trans (hk.mono BC.out.size))
                clear hk
                clear ym0 ym2 yp0 yp1 yp2 yp3 yp4 yp5 yi0 yi1 yi2 yi3 yi4 yi5 yi6 yi7 yi8 yi9 yi10 z0 z1 z2 z3 z4 z5 z6 z7 z8 z9
                obtain ⟨ym0, -, ym2, -, lm⟩ := cl4 HM.out
                obtain ⟨yp0, yp1, yp2, yp3, yp4, yp5, lp⟩ := cl6 HP.out
                obtain ⟨yi0, yi1, yi2, yi3, yi4, yi5, yi6, yi7, yi8, yi9, yi10, li⟩ := cl11 HI.out
                obtain ⟨z0, z1, z2, z3, z4, z5, z6, z7, z8, z9, lg⟩ := fz_5 HFL.out
                have HV2 : Hid (V = false) := by
                  show _ = _
                  rw [HF.out]
                  simp [*]
                clear HF
                go_wp2_with fail
                go_ret
                exact ⟨ret_b HV2.out.symm, BC.out⟩
              · rw [kr6] at kr6e
                refine J_loud1 25 _ rfl (by kernel_rfl) ?_
                simp only [List.getElem_toArray, List.getElem_cons_succ, List.getElem_cons_zero]
                intro wj hj
                go_wp2_with fail
                refine (kr6e.out wj (Ext.below (BC.out.trans (hj.mono BC.out.size)))).mono ?_
                rintro e w2 ⟨rfl, hq2⟩
                go_wp2_with fail
                refine ⟨KeepX.below hq2, ?_⟩
                have hb2 := hj.trans (hq2.mono hj.size)
                clear hq2 hj
                have HM := Lib.hid ((hb2.block _ lm).trans HM.out)
                have HP := Lib.hid ((hb2.block _ lp).trans HP.out)
                have HI := Lib.hid ((hb2.block _ li).trans HI.out)
                have HFL := Lib.hid (HFL.out.ext (Ext.below hb2))
                have BC := Lib.hid (BC.out.trans (hb2.mono BC.out.size))
                clear hb2
                clear ym0 ym2 yp0 yp1 yp2 yp3 yp4 yp5 yi0 yi1 yi2 yi3 yi4 yi5 yi6 yi7 yi8 yi9 yi10 z0 z1 z2 z3 z4 z5 z6 z7 z8 z9
                obtain ⟨ym0, -, ym2, -, lm⟩ := cl4 HM.out
                obtain ⟨yp0, yp1, yp2, yp3, yp4, yp5, lp⟩ := cl6 HP.out
                obtain ⟨yi0, yi1, yi2, yi3, yi4, yi5, yi6, yi7, yi8, yi9, yi10, li⟩ := cl11 HI.out
                obtain ⟨z0, z1, z2, z3, z4, z5, z6, z7, z8, z9, lg⟩ := fz_5 HFL.out
                refine J_mobs [26, 27] _ _ _ _ (by kernel_rfl) ?_
                simp only [List.map_cons, List.map_nil, List.getElem?_toArray, List.getElem?_cons_succ, List.getElem?_cons_zero, Option.getD_some, List.size_toArray, List.length_cons, List.length_nil, Nat.reduceAdd, Nat.reduceSub]
                repeat (go_big_quiet_step (fail))
                refine wpQuiet_nil ?_
                refine J_done (by kernel_rfl) (fun wk hk => ?_) _
                have HM := Lib.hid ((hk.block _ lm).trans HM.out)
                have HP := Lib.hid ((hk.block _ lp).trans HP.out)
                have HI := Lib.hid ((hk.block _ li).trans HI.out)
                have HFL := Lib.hid (HFL.out.ext (Ext.below hk))
                have BC := Lib.hid (BC.out.trans (hk.mono BC.out.size))
                clear hk
                clear ym0 ym2 yp0 yp1 yp2 yp3 yp4 yp5 yi0 yi1 yi2 yi3 yi4 yi5 yi6 yi7 yi8 yi9 yi10 z0 z1 z2 z3 z4 z5 z6 z7 z8 z9
                obtain ⟨ym0, -, ym2, -, lm⟩ := cl4 HM.out
                obtain ⟨yp0, yp1, yp2, yp3, yp4, yp5, lp⟩ := cl6 HP.out
                obtain ⟨yi0, yi1, yi2, yi3, yi4, yi5, yi6, yi7, yi8, yi9, yi10, li⟩ := cl11 HI.out
                obtain ⟨z0, z1, z2, z3, z4, z5, z6, z7, z8, z9, lg⟩ := fz_5 HFL.out
                by_cases k7 : size = 1
                · have gk7 : (size == 1) = true := beq_iff_eq.2 k7
                  have gn7 : (size != 1) = false := bne_eq_false_iff_eq.2 k7
                  have kh7 := Lib.hid k7
                  clear k7
                  have gs4 : (size == 4) = false := beq_eq_false_iff_ne.2 (by have := (‹Hid (size = 1)›).out; omega)
                  by_cases k8 : -32768 ≤ off
                  · have gk8 : decide (-32768 ≤ off) = true := decide_eq_true k8
                    have gl8 : decide (off < -32768) = false := decide_eq_false (by omega)
                    by_cases k9 : off ≤ 32768
                    · have gk9 : decide (off ≤ 32768) = true := decide_eq_true k9
                      have gl9 : decide (32768 < off) = false := decide_eq_false (by omega)
                      have HV2 : Hid (V = true) := by
                        show _ = _
                        rw [HF.out]
                        simp [*]
                      clear HF
                      go_wp2_with fail
                      go_ret
                      exact ⟨ret_b HV2.out.symm, BC.out⟩
                    · have gk9 : decide (off ≤ 32768) = false := decide_eq_false k9
                      have gl9 : decide (32768 < off) = true := decide_eq_true (by omega)
                      have HV2 : Hid (V = false) := by
                        show _ = _
                        rw [HF.out]
                        simp [*]
                      clear HF
                      go_wp2_with fail
                      go_ret
                      exact ⟨ret_b HV2.out.symm, BC.out⟩
                  · have gk8 : decide (-32768 ≤ off) = false := decide_eq_false k8
                    have gl8 : decide (off < -32768) = true := decide_eq_true (by omega)
                    have HV2 : Hid (V = false) := by
                      show _ = _
                      rw [HF.out]
                      simp [*]
                    clear HF
                    go_wp2_with fail
                    go_ret
                    exact ⟨ret_b HV2.out.symm, BC.out⟩
                · have gk7 : (size == 1) = false := beq_eq_false_iff_ne.2 k7
                  have gn7 : (size != 1) = true := bne_iff_ne.2 k7
                  have kh7 := Lib.hid k7
                  clear k7
                  by_cases k10 : size = 4
                  · have gk10 : (size == 4) = true := beq_iff_eq.2 k10
                    have gn10 : (size != 4) = false := bne_eq_false_iff_eq.2 k10
                    have kh10 := Lib.hid k10
                    clear k10
                    by_cases k11 : -32768 ≤ off
                    · have gk11 : decide (-32768 ≤ off) = true := decide_eq_true k11
                      have gl11 : decide (off < -32768) = false := decide_eq_false (by omega)
                      by_cases k12 : off ≤ 32768
                      · have gk12 : decide (off ≤ 32768) = true := decide_eq_true k12
                        have gl12 : decide (32768 < off) = false := decide_eq_false (by omega)
                        have HV2 : Hid (V = true) := by
                          show _ = _
                          rw [HF.out]
                          simp [*]
                        clear HF
                        go_wp2_with fail
                        go_ret
                        exact ⟨ret_b HV2.out.symm, BC.out⟩
                      · have gk12 : decide (off ≤ 32768) = false := decide_eq_false k12
                        have gl12 : decide (32768 < off) = true := decide_eq_true (by omega)
                        have HV2 : Hid (V = false) := by
                          show _ = _
                          rw [HF.out]
                          simp [*]
                        clear HF
                        go_wp2_with fail
                        go_ret
                        exact ⟨ret_b HV2.out.symm, BC.out⟩
                    · have gk11 : decide (-32768 ≤ off) = false := decide_eq_false k11
                      have gl11 : decide (off < -32768) = true := decide_eq_true (by omega)
                      have HV2 : Hid (V = false) := by
                        show _ = _
                        rw [HF.out]
                        simp [*]
                      clear HF
                      go_wp2_with fail
                      go_ret
                      exact ⟨ret_b HV2.out.symm, BC.out⟩
                  · have gk10 : (size == 4) = false := beq_eq_false_iff_ne.2 k10
                    have gn10 : (size != 4) = true := bne_iff_ne.2 k10
                    have kh10 := Lib.hid k10
                    clear k10
                    have HV2 : Hid (V = false) := by
                      show _ = _
                      rw [HF.out]
                      simp [*]
                    clear HF
                    go_wp2_with fail
                    go_ret
                    exact ⟨ret_b HV2.out.symm, BC.out⟩
        · have ga1 : decide ((0 : Int) < (args.length : Int)) = true := decide_eq_true (by omega)
          have ga2 : decide (0 < args.length) = true := decide_eq_true (by omega)
          have ga3 : decide (args.length = 0) = false := decide_eq_false ka
          refine wp_region_text (by kernel_rfl) ?_
          simp only [List.append_eq, List.cons_append, List.nil_append]
          repeat (go_big_quiet_step (fail))
          refine wpQuiet_nil ?_
          have HV2 : Hid (V = false) := by
            show _ = _
            rw [HF.out]
            simp [*]
          clear HF
          go_wp2_with fail
          go_ret
          exact ⟨ret_b HV2.out.symm, BC.out⟩
      · have gk3 : (num == 0) = false := beq_eq_false_iff_ne.2 k3
        have gn3 : (num != 0) = true := bne_iff_ne.2 k3
        have kh3 := Lib.hid k3
        clear k3
        refine wp_region_text (by kernel_rfl) ?_
        simp only [List.append_eq, List.cons_append, List.nil_append]
        repeat (go_big_quiet_step (fail))
        refine wpQuiet_nil ?_
        have HV2 : Hid (V = false) := by
          show _ = _
          rw [HF.out]
          simp [*]
        clear HF
        go_wp2_with fail
        go_ret
        exact ⟨ret_b HV2.out.symm, BC.out⟩
    · have gk2 : (obj == 0) = false := beq_eq_false_iff_ne.2 k2
      have gn2 : (obj != 0) = true := bne_iff_ne.2 k2
      have kh2 := Lib.hid k2
      clear k2
      refine wp_region_text (by kernel_rfl) ?_
      simp only [List.append_eq, List.cons_append, List.nil_append]
      repeat (go_big_quiet_step (fail))
      refine wpQuiet_nil ?_
      have HV2 : Hid (V = false) := by
        show _ = _
        rw [HF.out]
        simp [*]
      clear HF
      go_wp2_with fail
      go_ret
      exact ⟨ret_b HV2.out.symm, BC.out⟩
  · have gk1 : (fn == 0) = false := beq_eq_false_iff_ne.2 k1
    have gn1 : (fn != 0) = true := bne_iff_ne.2 k1
    have kh1 := Lib.hid k1
    clear k1
    refine wp_region_text (by kernel_rfl) ?_
    simp only [List.append_eq, List.cons_append, List.nil_append]
    repeat (go_big_quiet_step (fail))
    refine wpQuiet_nil ?_
    have HV2 : Hid (V = false) := by
      show _ = _
      rw [HF.out]
      simp [*]
    clear HF
    go_wp2_with fail
    go_ret
    exact ⟨ret_b HV2.out.symm, BC.out⟩
theorem fz_6 {w : World} {g : Nat} (h : FldAt w 6 g) : w.cell? ⟨g, 0, none⟩ = some (.bool false) ∧ w.cell? ⟨g, 1, none⟩ = some (.bool true) ∧ w.cell? ⟨g, 2, none⟩ = some (.bool true) ∧ w.cell? ⟨g, 3, none⟩ = some (.bool false) ∧ w.cell? ⟨g, 4, none⟩ = some (.bool false) ∧ w.cell? ⟨g, 5, none⟩ = some (.bool true) ∧ w.cell? ⟨g, 6, none⟩ = some (.bool true) ∧ w.cell? ⟨g, 7, none⟩ = some (.bool false) ∧ w.cell? ⟨g, 8, none⟩ = some (.bool false) ∧ w.cell? ⟨g, 9, none⟩ = some (.bool true) ∧ g < w.heap.size := ⟨h.c0, h.c1, h.c2, h.c3, h.c4, h.c5, h.c6, h.c7, h.c8, h.c9, h.lt⟩
theorem okI_6 (m : Md) (p : Pr) (d ra rb fn obj off size num : Int) (args : List Int) (log : Bool) : okI m p ⟨6, d, ra, rb, fn, obj, off, size, num, args, log⟩ = ((fn == 0) && ((obj == 0) && ((num == 0) && (decide (args.length = 0) && (regF p d false && (regF p ra true && (regF p rb true && ((size == 1 || size == 4) && (decide (-32768 ≤ off) && (decide (off ≤ 32768))))))))))) := by
  cases log <;> (rw [Bool.eq_iff_iff]; simp [okI, bareF, plainI, regF, moreF, offF, readsA, readsB, defI, -List.length_eq_zero_iff] <;> omega)
theorem rins_6 (m : Md) (p : Pr) (v V0 : Value) (d ra rb fn obj off size num : Int) (args : List Int) (log : Bool) (aa : Option Addr) (ca : Nat) (w : World) (hm : MdV w v m) (hp : PrV w V0 p) (ha2 : ca ≤ 9223372036854775807) (ha1 : args.length ≤ ca) (h0 : 0 ≤ p.regs) (h1 : p.regs ≤ 100000) :
    Calls Tryd.prog 41 #[v, V0, .agg #[.int .i64 6, .int .i64 d, .int .i64 ra, .int .i64 rb, .int .i64 fn, .int .i64 obj, .int .i64 off, .int .i64 size, .int .u32 num, .slice aa args.length ca, .bool log]] w fun e w' => e = .returned (.bool (okI m p ⟨6, d, ra, rb, fn, obj, off, size, num, args, log⟩)) ∧ Below w.heap.size w w' := by
  obtain ⟨V, hV⟩ : ∃ V, okI m p ⟨6, d, ra, rb, fn, obj, off, size, num, args, log⟩ = V := ⟨_, rfl⟩
  rw [hV]
  have HF := Lib.hid (hV.symm.trans (okI_6 m p d ra rb fn obj off size num args log))
  clear hV
  have ER : Hid (∀ r s w', Ext w w' → Calls Tryd.prog 63 #[V0, .int .i64 r, .bool s] w' fun e w'' => e = .returned (.bool (regF p r s)) ∧ Below w'.heap.size w' w'') := fun r s w' he => rregister_c p V0 r s w' (hp.ext he) h0 h1
  obtain ⟨nm, vo, vb, rfl, ⟨ao, co, rfl, -, hco, -⟩, ⟨ab, cb, rfl, -, hcb, -⟩⟩ := hp
  obtain ⟨vg, vd, vp, rfl, ⟨ag, cg, rfl, hcg1, hcg, -⟩, ⟨ad, cd, rfl, -⟩, ⟨ap, cp, rfl, hcp1, hcp, -⟩⟩ := hm
  unfold maxLen at hco hcb hcg hcp
  have EF := Lib.hid (fun w => fields_c 6 w (by decide) (by decide))
  go_enter Tryd.func41, Tryd.ntmps41
  go_wp2_with fail
  refine (EF.out _).mono ?_
  rintro e w1 ⟨g, rfl, hg, hf, hb⟩
  have HM : Hid (w1.heap[w.heap.size]? = some (.cells #[.slice ag m.globs.length cg, .slice ad m.data.length cd, .slice ap m.procs.length cp, .int .i64 m.main] 26 (0, 0))) := (hb.block w.heap.size (by simp <;> omega)).trans (allocs_heap [.cells #[.slice ag m.globs.length cg, .slice ad m.data.length cd, .slice ap m.procs.length cp, .int .i64 m.main] 26, .cells #[.string nm, .bool p.void, .int .i64 p.params, .int .i64 p.regs, .slice ao p.objs.length co, .slice ab p.blks.length cb] 37, .cells #[.int .i64 6, .int .i64 d, .int .i64 ra, .int .i64 rb, .int .i64 fn, .int .i64 obj, .int .i64 off, .int .i64 size, .int .u32 num, .slice aa args.length ca, .bool log] 45] w 0 (by simp))
  have HP : Hid (w1.heap[w.heap.size + 1]? = some (.cells #[.string nm, .bool p.void, .int .i64 p.params, .int .i64 p.regs, .slice ao p.objs.length co, .slice ab p.blks.length cb] 37 (0, 0))) := (hb.block (w.heap.size + 1) (by simp <;> omega)).trans (allocs_heap [.cells #[.slice ag m.globs.length cg, .slice ad m.data.length cd, .slice ap m.procs.length cp, .int .i64 m.main] 26, .cells #[.string nm, .bool p.void, .int .i64 p.params, .int .i64 p.regs, .slice ao p.objs.length co, .slice ab p.blks.length cb] 37, .cells #[.int .i64 6, .int .i64 d, .int .i64 ra, .int .i64 rb, .int .i64 fn, .int .i64 obj, .int .i64 off, .int .i64 size, .int .u32 num, .slice aa args.length ca, .bool log] 45] w 1 (by simp))
  have HI : Hid (w1.heap[w.heap.size + 1 + 1]? = some (.cells #[.int .i64 6, .int .i64 d, .int .i64 ra, .int .i64 rb, .int .i64 fn, .int .i64 obj, .int .i64 off, .int .i64 size, .int .u32 num, .slice aa args.length ca, .bool log] 45 (0, 0))) := (hb.block (w.heap.size + 1 + 1) (by simp <;> omega)).trans (allocs_heap [.cells #[.slice ag m.globs.length cg, .slice ad m.data.length cd, .slice ap m.procs.length cp, .int .i64 m.main] 26, .cells #[.string nm, .bool p.void, .int .i64 p.params, .int .i64 p.regs, .slice ao p.objs.length co, .slice ab p.blks.length cb] 37, .cells #[.int .i64 6, .int .i64 d, .int .i64 ra, .int .i64 rb, .int .i64 fn, .int .i64 obj, .int .i64 off, .int .i64 size, .int .u32 num, .slice aa args.length ca, .bool log] 45] w 2 (by simp))
  have HFL := Lib.hid hf
  have BC : Hid (Below w.heap.size w w1) := below3c hb
  clear hg hf hb
  obtain ⟨ym0, -, ym2, -, lm⟩ := cl4 HM.out
  obtain ⟨yp0, yp1, yp2, yp3, yp4, yp5, lp⟩ := cl6 HP.out
  obtain ⟨yi0, yi1, yi2, yi3, yi4, yi5, yi6, yi7, yi8, yi9, yi10, li⟩ := cl11 HI.out
  obtain ⟨z0, z1, z2, z3, z4, z5, z6, z7, z8, z9, lg⟩ := fz_6 HFL.out
  go_upto_region 4 with (fail)
  by_cases k13 : fn = 0
  · have gk13 : (fn == 0) = true := beq_iff_eq.2 k13
    have gn13 : (fn != 0) = false := bne_eq_false_iff_eq.2 k13
    have kh13 := Lib.hid k13
    clear k13
    by_cases k14 : obj = 0
    · have gk14 : (obj == 0) = true := beq_iff_eq.2 k14
      have gn14 : (obj != 0) = false := bne_eq_false_iff_eq.2 k14
      have kh14 := Lib.hid k14
      clear k14
      by_cases k15 : num = 0
      · have gk15 : (num == 0) = true := beq_iff_eq.2 k15
        have gn15 : (num != 0) = false := bne_eq_false_iff_eq.2 k15
        have kh15 := Lib.hid k15
        clear k15
        by_cases ka : args.length = 0
        · have ga1 : decide ((0 : Int) < (args.length : Int)) = false := decide_eq_false (by omega)
          have ga2 : decide (0 < args.length) = false := decide_eq_false (by omega)
          have ga3 : decide (args.length = 0) = true := decide_eq_true ka
          have ka := Lib.hid ka
          refine wp_region_text (by kernel_rfl) ?_
          simp only [List.append_eq, List.cons_append, List.nil_append]
          repeat (go_big_quiet_step (fail))
          refine wpQuiet_nil ?_
          go_wp2_with fail
          refine wp_region_junk (fun _ => True) (by kernel_rfl) ?_
          refine J_mobs [0, 1, 2, 3, 4, 5] _ _ _ _ (by kernel_rfl) ?_
          simp only [List.map_cons, List.map_nil, List.getElem?_toArray, List.getElem?_cons_succ, List.getElem?_cons_zero, Option.getD_some, List.size_toArray, List.length_cons, List.length_nil, Nat.reduceAdd, Nat.reduceSub]
          repeat (go_big_quiet_step (fail))
          refine wpQuiet_nil ?_
          have kr16e := Lib.hid (ER.out d false)
          have kr16f : Hid (regF p d false = regF p d false) := rfl
          cases kr16 : regF p d false
          · rw [kr16] at kr16e
            refine J_loud1 6 _ rfl (by kernel_rfl) ?_
            simp only [List.getElem_toArray, List.getElem_cons_succ, List.getElem_cons_zero]
            intro wj hj
            go_wp2_with fail
            refine (kr16e.out wj (Ext.below (BC.out.trans (hj.mono BC.out.size)))).mono ?_
            rintro e w2 ⟨rfl, hq2⟩
            go_wp2_with fail
            refine ⟨KeepX.below hq2, ?_⟩
            have hb2 := hj.trans (hq2.mono hj.size)
            clear hq2 hj
            have HM := Lib.hid ((hb2.block _ lm).trans HM.out)
            have HP := Lib.hid ((hb2.block _ lp).trans HP.out)
            have HI := Lib.hid ((hb2.block _ li).trans HI.out)
            have HFL := Lib.hid (HFL.out.ext (Ext.below hb2))
            have BC := Lib.hid (BC.out.trans (hb2.mono BC.out.size))
            clear hb2
            clear ym0 ym2 yp0 yp1 yp2 yp3 yp4 yp5 yi0 yi1 yi2 yi3 yi4 yi5 yi6 yi7 yi8 yi9 yi10 z0 z1 z2 z3 z4 z5 z6 z7 z8 z9
            obtain ⟨ym0, -, ym2, -, lm⟩ := cl4 HM.out
            obtain ⟨yp0, yp1, yp2, yp3, yp4, yp5, lp⟩ := cl6 HP.out
            obtain ⟨yi0, yi1, yi2, yi3, yi4, yi5, yi6, yi7, yi8, yi9, yi10, li⟩ := cl11 HI.out
            obtain ⟨z0, z1, z2, z3, z4, z5, z6, z7, z8, z9, lg⟩ := fz_6 HFL.out
            refine J_mobs [7, 8] _ _ _ _ (by kernel_rfl) ?_
            simp only [List.map_cons, List.map_nil, List.getElem?_toArray, List.getElem?_cons_succ, List.getElem?_cons_zero, Option.getD_some, List.size_toArray, List.length_cons, List.length_nil, Nat.reduceAdd, Nat.reduceSub]
            repeat (go_big_quiet_step (fail))
            refine wpQuiet_nil ?_
            refine J_mobs [9, 10, 11, 12, 13, 14] _ _ _ _ (by kernel_rfl) ?_
            simp only [List.map_cons, List.map_nil, List.getElem?_toArray, List.getElem?_cons_succ, List.getElem?_cons_zero, Option.getD_some, List.size_toArray, List.length_cons, List.length_nil, Nat.reduceAdd, Nat.reduceSub]
            repeat (go_big_quiet_step (fail))
            refine wpQuiet_nil ?_
            refine J_loud1 15 _ rfl (by kernel_rfl) ?_
            simp only [List.getElem_toArray, List.getElem_cons_succ, List.getElem_cons_zero]
            intro wj hj
            go_wp2_with fail
            refine ⟨KeepX.refl _ _, ?_⟩
            have HM := Lib.hid ((hj.block _ lm).trans HM.out)
            have HP := Lib.hid ((hj.block _ lp).trans HP.out)
            have HI := Lib.hid ((hj.block _ li).trans HI.out)
            have HFL := Lib.hid (HFL.out.ext (Ext.below hj))
            have BC := Lib.hid (BC.out.trans (hj.mono BC.out.size))
            clear hj
            clear ym0 ym2 yp0 yp1 yp2 yp3 yp4 yp5 yi0 yi1 yi2 yi3 yi4 yi5 yi6 yi7 yi8 yi9 yi10 z0 z1 z2 z3 z4 z5 z6 z7 z8 z9
            obtain ⟨ym0, -, ym2, -, lm⟩ := cl4 HM.out
            obtain ⟨yp0, yp1, yp2, yp3, yp4, yp5, lp⟩ := cl6 HP.out
            obtain ⟨yi0, yi1, yi2, yi3, yi4, yi5, yi6, yi7, yi8, yi9, yi10, li⟩ := cl11 HI.out
            obtain ⟨z0, z1, z2, z3, z4, z5, z6, z7, z8, z9, lg⟩ := fz_6 HFL.out
            refine J_mobs [16, 17, 18] _ _ _ _ (by kernel_rfl) ?_
            simp only [List.map_cons, List.map_nil, List.getElem?_toArray, List.getElem?_cons_succ, List.getElem?_cons_zero, Option.getD_some, List.size_toArray, List.length_cons, List.length_nil, Nat.reduceAdd, Nat.reduceSub]
            repeat (go_big_quiet_step (fail))
            refine wpQuiet_nil ?_
            refine J_mobs [19, 20, 21, 22, 23, 24] _ _ _ _ (by kernel_rfl) ?_
            simp only [List.map_cons, List.map_nil, List.getElem?_toArray, List.getElem?_cons_succ, List.getElem?_cons_zero, Option.getD_some, List.size_toArray, List.length_cons, List.length_nil, Nat.reduceAdd, Nat.reduceSub]
            repeat (go_big_quiet_step (fail))
            refine wpQuiet_nil ?_
            refine J_loud1 25 _ rfl (by kernel_rfl) ?_
            simp only [List.getElem_toArray, List.getElem_cons_succ, List.getElem_cons_zero]
            intro wj hj
            go_wp2_with fail
            refine ⟨KeepX.refl _ _, ?_⟩
            have HM := Lib.hid ((hj.block _ lm).trans HM.out)
            have HP := Lib.hid ((hj.block _ lp).trans HP.out)
            have HI := Lib.hid ((hj.block _ li).trans HI.out)
            have HFL := Lib.hid (HFL.out.ext (Ext.below hj))
            have BC := Lib.hid (BC.out.trans (hj.mono BC.out.size))
            clear hj
            clear ym0 ym2 yp0 yp1 yp2 yp3 yp4 yp5 yi0 yi1 yi2 yi3 yi4 yi5 yi6 yi7 yi8 yi9 yi10 z0 z1 z2 z3 z4 z5 z6 z7 z8 z9
            obtain ⟨ym0, -, ym2, -, lm⟩ := cl4 HM.out
            obtain ⟨yp0, yp1, yp2, yp3, yp4, yp5, lp⟩ := cl6 HP.out
            obtain ⟨yi0, yi1, yi2, yi3, yi4, yi5, yi6, yi7, yi8, yi9, yi10, li⟩ := cl11 HI.out
            obtain ⟨z0, z1, z2, z3, z4, z5, z6, z7, z8, z9, lg⟩ := fz_6 HFL.out
            refine J_mobs [26, 27] _ _ _ _ (by kernel_rfl) ?_
            simp only [List.map_cons, List.map_nil, List.getElem?_toArray, List.getElem?_cons_succ, List.getElem?_cons_zero, Option.getD_some, List.size_toArray, List.length_cons, List.length_nil, Nat.reduceAdd, Nat.reduceSub]
            repeat (go_big_quiet_step (fail))
            refine wpQuiet_nil ?_
            refine J_done (by kernel_rfl) (fun wk hk => ?_) _
            have HM := Lib.hid ((hk.block _ lm).trans HM.out)
            have HP := Lib.hid ((hk.block _ lp).trans HP.out)
            have HI := Lib.hid ((hk.block _ li).trans HI.out)
            have HFL := Lib.hid (HFL.out.ext (Ext.below hk))
            have BC := Lib.hid (BC.out.trans (hk.mono BC.out.size))
            clear hk
            clear ym0 ym2 yp0 yp1 yp2 yp3 yp4 yp5 yi0 yi1 yi2 yi3 yi4 yi5 yi6 yi7 yi8 yi9 yi10 z0 z1 z2 z3 z4 z5 z6 z7 z8 z9
            obtain ⟨ym0, -, ym2, -, lm⟩ := cl4 HM.out
            obtain ⟨yp0, yp1, yp2, yp3, yp4, yp5, lp⟩ := cl6 HP.out
            obtain ⟨yi0, yi1, yi2, yi3, yi4, yi5, yi6, yi7, yi8, yi9, yi10, li⟩ := cl11 HI.out
            obtain ⟨z0, z1, z2, z3, z4, z5, z6, z7, z8, z9, lg⟩ := fz_6 HFL.out
            have HV2 : Hid (V = false) := by
              show _ = _
              rw [HF.out]
              simp [*]
            clear HF
            go_wp2_with fail
            go_ret
            exact ⟨ret_b HV2.out.symm, BC.out⟩
          · rw [kr16] at kr16e
            refine J_loud1 6 _ rfl (by kernel_rfl) ?_
            simp only [List.getElem_toArray, List.getElem_cons_succ, List.getElem_cons_zero]
            intro wj hj
            go_wp2_with fail
            refine (kr16e.out wj (Ext.below (BC.out.trans (hj.mono BC.out.size)))).mono ?_
            rintro e w2 ⟨rfl, hq2⟩
            go_wp2_with fail
            refine ⟨KeepX.below hq2, ?_⟩
            have hb2 := hj.trans (hq2.mono hj.size)
            clear hq2 hj
            have HM := Lib.hid ((hb2.block _ lm).trans HM.out)
            have HP := Lib.hid ((hb2.block _ lp).trans HP.out)
            have HI := Lib.hid ((hb2.block _ li).trans HI.out)
            have HFL := Lib.hid (HFL.out.ext (Ext.below hb2))
            have BC := Lib.hid (BC.out.trans (hb2.mono BC.out.size))
            clear hb2
            clear ym0 ym2 yp0 yp1 yp2 yp3 yp4 yp5 yi0 yi1 yi2 yi3 yi4 yi5 yi6 yi7 yi8 yi9 yi10 z0 z1 z2 z3 z4 z5 z6 z7 z8 z9
            obtain ⟨ym0, -, ym2, -, lm⟩ := cl4 HM.out
            obtain ⟨yp0, yp1, yp2, yp3, yp4, yp5, lp⟩ := cl6 HP.out
            obtain ⟨yi0, yi1, yi2, yi3, yi4, yi5, yi6, yi7, yi8, yi9, yi10, li⟩ := cl11 HI.out
            obtain ⟨z0, z1, z2, z3, z4, z5, z6, z7, z8, z9, lg⟩ := fz_6 HFL.out
            refine J_mobs [7, 8] _ _ _ _ (by kernel_rfl) ?_
            simp only [List.map_cons, List.map_nil, List.getElem?_toArray, List.getElem?_cons_succ, List.getElem?_cons_zero, Option.getD_some, List.size_toArray, List.length_cons, List.length_nil, Nat.reduceAdd, Nat.reduceSub]
            repeat (go_big_quiet_step (fail))
            refine wpQuiet_nil ?_
            refine J_mobs [9, 10, 11, 12, 13, 14] _ _ _ _ (by kernel_rfl) ?_
            simp only [List.map_cons, List.map_nil, List.getElem?_toArray, List.getElem?_cons_succ, List.getElem?_cons_zero, Option.getD_some, List.size_toArray, List.length_cons, List.length_nil, Nat.reduceAdd, Nat.reduceSub]
            repeat (go_big_quiet_step (fail))
            refine wpQuiet_nil ?_
            have kr17e := Lib.hid (ER.out ra true)
            have kr17f : Hid (regF p ra true = regF p ra true) := rfl
            cases kr17 : regF p ra true
            · rw [kr17] at kr17e
              refine J_loud1 15 _ rfl (by kernel_rfl) ?_
              simp only [List.getElem_toArray, List.getElem_cons_succ, List.getElem_cons_zero]
              intro wj hj
              go_wp2_with fail
              refine (kr17e.out wj (Ext.below (BC.out.trans (hj.mono BC.out.size)))).mono ?_
              rintro e w2 ⟨rfl, hq2⟩
              go_wp2_with fail
              refine ⟨KeepX.below hq2, ?_⟩
              have hb2 := hj.trans (hq2.mono hj.size)
              clear hq2 hj
              have HM := Lib.hid ((hb2.block _ lm).trans HM.out)
              have HP := Lib.hid ((hb2.block _ lp).trans HP.out)
              have HI := Lib.hid ((hb2.block _ li).trans HI.out)
              have HFL := Lib.hid (HFL.out.ext (Ext.below hb2))
              have BC := Lib.hid (BC.out.trans (hb2.mono BC.out.size))
              clear hb2
              clear ym0 ym2 yp0 yp1 yp2 yp3 yp4 yp5 yi0 yi1 yi2 yi3 yi4 yi5 yi6 yi7 yi8 yi9 yi10 z0 z1 z2 z3 z4 z5 z6 z7 z8 z9
              obtain ⟨ym0, -, ym2, -, lm⟩ := cl4 HM.out
              obtain ⟨yp0, yp1, yp2, yp3, yp4, yp5, lp⟩ := cl6 HP.out
              obtain ⟨yi0, yi1, yi2, yi3, yi4, yi5, yi6, yi7, yi8, yi9, yi10, li⟩ := cl11 HI.out
              obtain ⟨z0, z1, z2, z3, z4, z5, z6, z7, z8, z9, lg⟩ := fz_6 HFL.out
              refine J_mobs [16, 17, 18] _ _ _ _ (by kernel_rfl) ?_
              simp only [List.map_cons, List.map_nil, List.getElem?_toArray, List.getElem?_cons_succ, List.getElem?_cons_zero, Option.getD_some, List.size_toArray, List.length_cons, List.length_nil, Nat.reduceAdd, Nat.reduceSub]
              repeat (go_big_quiet_step (fail))
              refine wpQuiet_nil ?_
              refine J_mobs [19, 20, 21, 22, 23, 24] _ _ _ _ (by kernel_rfl) ?_
              simp only [List.map_cons, List.map_nil, List.getElem?_toArray, List.getElem?_cons_succ, List.getElem?_cons_zero, Option.getD_some, List.size_toArray, List.length_cons, List.length_nil, Nat.reduceAdd, Nat.reduceSub]
              repeat (go_big_quiet_step (fail))
              refine wpQuiet_nil ?_
              refine J_loud1 25 _ rfl (by kernel_rfl) ?_
              simp only [List.getElem_toArray, List.getElem_cons_succ, List.getElem_cons_zero]
              intro wj hj
              go_wp2_with fail
              refine ⟨KeepX.refl _ _, ?_⟩
              have HM := Lib.hid ((hj.block _ lm).trans HM.out)
              have HP := Lib.hid ((hj.block _ lp).trans HP.out)
              have HI := Lib.hid ((hj.block _ li).trans HI.out)
              have HFL := Lib.hid (HFL.out.ext (Ext.below hj))
              have BC := Lib.hid (BC.out.trans (hj.mono BC.out.size))
              clear hj
              clear ym0 ym2 yp0 yp1 yp2 yp3 yp4 yp5 yi0 yi1 yi2 yi3 yi4 yi5 yi6 yi7 yi8 yi9 yi10 z0 z1 z2 z3 z4 z5 z6 z7 z8 z9
              obtain ⟨ym0, -, ym2, -, lm⟩ := cl4 HM.out
              obtain ⟨yp0, yp1, yp2, yp3, yp4, yp5, lp⟩ := cl6 HP.out
              obtain ⟨yi0, yi1, yi2, yi3, yi4, yi5, yi6, yi7, yi8, yi9, yi10, li⟩ := cl11 HI.out
              obtain ⟨z0, z1, z2, z3, z4, z5, z6, z7, z8, z9, lg⟩ := fz_6 HFL.out
              refine J_mobs [26, 27] _ _ _ _ (by kernel_rfl) ?_
              simp only [List.map_cons, List.map_nil, List.getElem?_toArray, List.getElem?_cons_succ, List.getElem?_cons_zero, Option.getD_some, List.size_toArray, List.length_cons, List.length_nil, Nat.reduceAdd, Nat.reduceSub]
              repeat (go_big_quiet_step (fail))
              refine wpQuiet_nil ?_
              refine J_done (by kernel_rfl) (fun wk hk => ?_) _
              have HM := Lib.hid ((hk.block _ lm).trans HM.out)
              have HP := Lib.hid ((hk.block _ lp).trans HP.out)
              have HI := Lib.hid ((hk.block _ li).trans HI.out)
              have HFL := Lib.hid (HFL.out.ext (Ext.below hk))
              have BC := Lib.hid (BC.out.trans (hk.mono BC.out.size))
              clear hk
              clear ym0 ym2 yp0 yp1 yp2 yp3 yp4 yp5 yi0 yi1 yi2 yi3 yi4 yi5 yi6 yi7 yi8 yi9 yi10 z0 z1 z2 z3 z4 z5 z6 z7 z8 z9
              obtain ⟨ym0, -, ym2, -, lm⟩ := cl4 HM.out
              obtain ⟨yp0, yp1, yp2, yp3, yp4, yp5, lp⟩ := cl6 HP.out
              obtain ⟨yi0, yi1, yi2, yi3, yi4, yi5, yi6, yi7, yi8, yi9, yi10, li⟩ := cl11 HI.out
              obtain ⟨z0, z1, z2, z3, z4, z5, z6, z7, z8, z9, lg⟩ := fz_6 HFL.out
              have HV2 : Hid (V = false) := by
                show _ = _
                rw [HF.out]
                simp [*]
              clear HF
              go_wp2_with fail
              go_ret
              exact ⟨ret_b HV2.out.symm, BC.out⟩
            · rw [kr17] at kr17e
              refine J_loud1 15 _ rfl (by kernel_rfl) ?_
              simp only [List.getElem_toArray, List.getElem_cons_succ, List.getElem_cons_zero]
              intro wj hj
              go_wp2_with fail
              refine (kr17e.out wj (Ext.below (BC.out.trans (hj.mono BC.out.size)))).mono ?_
              rintro e w2 ⟨rfl, hq2⟩
              go_wp2_with fail
              refine ⟨KeepX.below hq2, ?_⟩
              have hb2 := hj.trans (hq2.mono hj.size)
              clear hq2 hj
              have HM := Lib.hid ((hb2.block _ lm).trans HM.out)
              have HP := Lib.hid ((hb2.block _ lp).trans HP.out)
              have HI := Lib.hid ((hb2.block _ li).trans HI.out)
              have HFL := Lib.hid (HFL.out.ext (Ext.below hb2))
              have BC := Lib.hid (BC.out.trans (hb2.mono BC.out.size))
              clear hb2
              clear ym0 ym2 yp0 yp1 yp2 yp3 yp4 yp5 yi0 yi1 yi2 yi3 yi4 yi5 yi6 yi7 yi8 yi9 yi10 z0 z1 z2 z3 z4 z5 z6 z7 z8 z9
              obtain ⟨ym0, -, ym2, -, lm⟩ := cl4 HM.out
              obtain ⟨yp0, yp1, yp2, yp3, yp4, yp5, lp⟩ := cl6 HP.out
              obtain ⟨yi0, yi1, yi2, yi3, yi4, yi5, yi6, yi7, yi8, yi9, yi10, li⟩ := cl11 HI.out
              obtain ⟨z0, z1, z2, z3, z4, z5, z6, z7, z8, z9, lg⟩ := fz_6 HFL.out
              refine J_mobs [16, 17, 18] _ _ _ _ (by kernel_rfl) ?_
              simp only [List.map_cons, List.map_nil, List.getElem?_toArray, List.getElem?_cons_succ, List.getElem?_cons_zero, Option.getD_some, List.size_toArray, List.length_cons, List.length_nil, Nat.reduceAdd, Nat.reduceSub]
              repeat (go_big_quiet_step (fail))
              refine wpQuiet_nil ?_
              refine J_mobs [19, 20, 21, 22, 23, 24] _ _ _ _ (by kernel_rfl) ?_
              simp only [List.map_cons, List.map_nil, List.getElem?_toArray, List.getElem?_cons_succ, List.getElem?_cons_zero, Option.getD_some, List.size_toArray, List.length_cons, List.length_nil, Nat.reduceAdd, Nat.reduceSub]
              repeat (go_big_quiet_step (fail))
              refine wpQuiet_nil ?_
              have kr18e := Lib.hid (ER.out rb true)
              have kr18f : Hid (regF p rb true = regF p rb true) := rfl
              cases kr18 : regF p rb true
              · rw [kr18] at kr18e
                refine J_loud1 25 _ rfl (by kernel_rfl) ?_
                simp only [List.getElem_toArray, List.getElem_cons_succ, List.getElem_cons_zero]
                intro wj hj
                go_wp2_with fail
                refine (kr18e.out wj (Ext.below (BC.out.trans (hj.mono BC.out.size)))).mono ?_
                rintro e w2 ⟨rfl, hq2⟩
                go_wp2_with fail
                refine ⟨KeepX.below hq2, ?_⟩
                have hb2 := hj.trans (hq2.mono hj.size)
                clear hq2 hj
                have HM := Lib.hid ((hb2.block _ lm).trans HM.out)
                have HP := Lib.hid ((hb2.block _ lp).trans HP.out)
                have HI := Lib.hid ((hb2.block _ li).trans HI.out)
                have HFL := Lib.hid (HFL.out.ext (Ext.below hb2))
                have BC := Lib.hid (BC.out.trans (hb2.mono BC.out.size))
                clear hb2
                clear ym0 ym2 yp0 yp1 yp2 yp3 yp4 yp5 yi0 yi1 yi2 yi3 yi4 yi5 yi6 yi7 yi8 yi9 yi10 z0 z1 z2 z3 z4 z5 z6 z7 z8 z9
                obtain ⟨ym0, -, ym2, -, lm⟩ := cl4 HM.out
                obtain ⟨yp0, yp1, yp2, yp3, yp4, yp5, lp⟩ := cl6 HP.out
                obtain ⟨yi0, yi1, yi2, yi3, yi4, yi5, yi6, yi7, yi8, yi9, yi10, li⟩ := cl11 HI.out
                obtain ⟨z0, z1, z2, z3, z4, z5, z6, z7, z8, z9, lg⟩ := fz_6 HFL.out
                refine J_mobs [26, 27] _ _ _ _ (by kernel_rfl) ?_
                simp only [List.map_cons, List.map_nil, List.getElem?_toArray, List.getElem?_cons_succ, List.getElem?_cons_zero, Option.getD_some, List.size_toArray, List.length_cons, List.length_nil, Nat.reduceAdd, Nat.reduceSub]
                repeat (go_big_quiet_step (fail))
                refine wpQuiet_nil ?_
                refine J_done (by kernel_rfl) (fun wk hk => ?_) _
                have HM := Lib.hid ((hk.block _ lm).trans HM.out)
                have HP := Lib.hid ((hk.block _ lp).trans HP.out)
                have HI := Lib.hid ((hk.block _ li).trans HI.out)
                have HFL := Lib.hid (HFL.out.ext (Ext.below hk))
                have BC := Lib.hid (BC.out.trans (hk.mono BC.out.size))
                clear hk
                clear ym0 ym2 yp0 yp1 yp2 yp3 yp4 yp5 yi0 yi1 yi2 yi3 yi4 yi5 yi6 yi7 yi8 yi9 yi10 z0 z1 z2 z3 z4 z5 z6 z7 z8 z9
                obtain ⟨ym0, -, ym2, -, lm⟩ := cl4 HM.out
                obtain ⟨yp0, yp1, yp2, yp3, yp4, yp5, lp⟩ := cl6 HP.out
                obtain ⟨yi0, yi1, yi2, yi3, yi4, yi5, yi6, yi7, yi8, yi9, yi10, li⟩ := cl11 HI.out
                obtain ⟨z0, z1, z2, z3, z4, z5, z6, z7, z8, z9, lg⟩ := fz_6 HFL.out
                have HV2 : Hid (V = false) := by
                  show _ = _
                  rw [HF.out]
                  simp [*]
                clear HF
                go_wp2_with fail
                go_ret
                exact ⟨ret_b HV2.out.symm, BC.out⟩
              · rw [kr18] at kr18e
                refine J_loud1 25 _ rfl (by kernel_rfl) ?_
                simp only [List.getElem_toArray, List.getElem_cons_succ, List.getElem_cons_zero]
                intro wj hj
                go_wp2_with fail
                refine (kr18e.out wj (Ext.below (BC.out.trans (hj.mono BC.out.size)))).mono ?_
                rintro e w2 ⟨rfl, hq2⟩
                go_wp2_with fail
                refine ⟨KeepX.below hq2, ?_⟩
                have hb2 := hj.trans (hq2.mono hj.size)
                clear hq2 hj
                have HM := Lib.hid ((hb2.block _ lm).trans HM.out)
                have HP := Lib.hid ((hb2.block _ lp).trans HP.out)
                have HI := Lib.hid ((hb2.block _ li).trans HI.out)
                have HFL := Lib.hid (HFL.out.ext (Ext.below hb2))
                have BC := Lib.hid (BC.out.trans (hb2.mono BC.out.size))
                clear hb2
                clear ym0 ym2 yp0 yp1 yp2 yp3 yp4 yp5 yi0 yi1 yi2 yi3 yi4 yi5 yi6 yi7 yi8 yi9 yi10 z0 z1 z2 z3 z4 z5 z6 z7 z8 z9
                obtain ⟨ym0, -, ym2, -, lm⟩ := cl4 HM.out
                obtain ⟨yp0, yp1, yp2, yp3, yp4, yp5, lp⟩ := cl6 HP.out
                obtain ⟨yi0, yi1, yi2, yi3, yi4, yi5, yi6, yi7, yi8, yi9, yi10, li⟩ := cl11 HI.out
                obtain ⟨z0, z1, z2, z3, z4, z5, z6, z7, z8, z9, lg⟩ := fz_6 HFL.out
                refine J_mobs [26, 27] _ _ _ _ (by kernel_rfl) ?_
                simp only [List.map_cons, List.map_nil, List.getElem?_toArray, List.getElem?_cons_succ, List.getElem?_cons_zero, Option.getD_some, List.size_toArray, List.length_cons, List.length_nil, Nat.reduceAdd, Nat.reduceSub]
                repeat (go_big_quiet_step (fail))
                refine wpQuiet_nil ?_
                refine J_done (by kernel_rfl) (fun wk hk => ?_) _
                have HM := Lib.hid ((hk.block _ lm).trans HM.out)
                have HP := Lib.hid ((hk.block _ lp).trans HP.out)
                have HI := Lib.hid ((hk.block _ li).trans HI.out)
                have HFL := Lib.hid (HFL.out.ext (Ext.below hk))
                have BC := Lib.hid (BC.out.trans (hk.mono BC.out.size))
                clear hk
                clear ym0 ym2 yp0 yp1 yp2 yp3 yp4 yp5 yi0 yi1 yi2 yi3 yi4 yi5 yi6 yi7 yi8 yi9 yi10 z0 z1 z2 z3 z4 z5 z6 z7 z8 z9
                obtain ⟨ym0, -, ym2, -, lm⟩ := cl4 HM.out
                obtain ⟨yp0, yp1, yp2, yp3, yp4, yp5, lp⟩ := cl6 HP.out
                obtain ⟨yi0, yi1, yi2, yi3, yi4, yi5, yi6, yi7, yi8, yi9, yi10, li⟩ := cl11 HI.out
                obtain ⟨z0, z1, z2, z3, z4, z5, z6, z7, z8, z9, lg⟩ := fz_6 HFL.out
                by_cases k19 : size = 1
                · have gk19 : (size == 1) = true := beq_iff_eq.2 k19
                  have gn19 : (size != 1) = false := bne_eq_false_iff_eq.2 k19
                  have kh19 := Lib.hid k19
                  clear k19
                  have gs4 : (size == 4) = false := beq_eq_false_iff_ne.2 (by have := (‹Hid (size = 1)›).out; omega)
                  by_cases k20 : -32768 ≤ off
                  · have gk20 : decide (-32768 ≤ off) = true := decide_eq_true k20
                    have gl20 : decide (off < -32768) = false := decide_eq_false (by omega)
                    by_cases k21 : off ≤ 32768
                    · have gk21 : decide (off ≤ 32768) = true := decide_eq_true k21
                      have gl21 : decide (32768 < off) = false := decide_eq_false (by omega)
                      have HV2 : Hid (V = true) := by
                        show _ = _
                        rw [HF.out]
                        simp [*]
                      clear HF
                      go_wp2_with fail
                      go_ret
                      exact ⟨ret_b HV2.out.symm, BC.out⟩
                    · have gk21 : decide (off ≤ 32768) = false := decide_eq_false k21
                      have gl21 : decide (32768 < off) = true := decide_eq_true (by omega)
                      have HV2 : Hid (V = false) := by
                        show _ = _
                        rw [HF.out]
                        simp [*]
                      clear HF
                      go_wp2_with fail
                      go_ret
                      exact ⟨ret_b HV2.out.symm, BC.out⟩
                  · have gk20 : decide (-32768 ≤ off) = false := decide_eq_false k20
                    have gl20 : decide (off < -32768) = true := decide_eq_true (by omega)
                    have HV2 : Hid (V = false) := by
                      show _ = _
                      rw [HF.out]
                      simp [*]
                    clear HF
                    go_wp2_with fail
                    go_ret
                    exact ⟨ret_b HV2.out.symm, BC.out⟩
                · have gk19 : (size == 1) = false := beq_eq_false_iff_ne.2 k19
                  have gn19 : (size != 1) = true := bne_iff_ne.2 k19
                  have kh19 := Lib.hid k19
                  clear k19
                  by_cases k22 : size = 4
                  · have gk22 : (size == 4) = true := beq_iff_eq.2 k22
                    have gn22 : (size != 4) = false := bne_eq_false_iff_eq.2 k22
                    have kh22 := Lib.hid k22
                    clear k22
                    by_cases k23 : -32768 ≤ off
                    · have gk23 : decide (-32768 ≤ off) = true := decide_eq_true k23
                      have gl23 : decide (off < -32768) = false := decide_eq_false (by omega)
                      by_cases k24 : off ≤ 32768
                      · have gk24 : decide (off ≤ 32768) = true := decide_eq_true k24
                        have gl24 : decide (32768 < off) = false := decide_eq_false (by omega)
                        have HV2 : Hid (V = true) := by
                          show _ = _
                          rw [HF.out]
                          simp [*]
                        clear HF
                        go_wp2_with fail
                        go_ret
                        exact ⟨ret_b HV2.out.symm, BC.out⟩
                      · have gk24 : decide (off ≤ 32768) = false := decide_eq_false k24
                        have gl24 : decide (32768 < off) = true := decide_eq_true (by omega)
                        have HV2 : Hid (V = false) := by
                          show _ = _
                          rw [HF.out]
                          simp [*]
                        clear HF
                        go_wp2_with fail
                        go_ret
                        exact ⟨ret_b HV2.out.symm, BC.out⟩
                    · have gk23 : decide (-32768 ≤ off) = false := decide_eq_false k23
                      have gl23 : decide (off < -32768) = true := decide_eq_true (by omega)
                      have HV2 : Hid (V = false) := by
                        show _ = _
                        rw [HF.out]
                        simp [*]
                      clear HF
                      go_wp2_with fail
                      go_ret
                      exact ⟨ret_b HV2.out.symm, BC.out⟩
                  · have gk22 : (size == 4) = false := beq_eq_false_iff_ne.2 k22
                    have gn22 : (size != 4) = true := bne_iff_ne.2 k22
                    have kh22 := Lib.hid k22
                    clear k22
                    have HV2 : Hid (V = false) := by
                      show _ = _
                      rw [HF.out]
                      simp [*]
                    clear HF
                    go_wp2_with fail
                    go_ret
                    exact ⟨ret_b HV2.out.symm, BC.out⟩
        · have ga1 : decide ((0 : Int) < (args.length : Int)) = true := decide_eq_true (by omega)
          have ga2 : decide (0 < args.length) = true := decide_eq_true (by omega)
          have ga3 : decide (args.length = 0) = false := decide_eq_false ka
          refine wp_region_text (by kernel_rfl) ?_
          simp only [List.append_eq, List.cons_append, List.nil_append]
          repeat (go_big_quiet_step (fail))
          refine wpQuiet_nil ?_
          have HV2 : Hid (V = false) := by
            show _ = _
            rw [HF.out]
            simp [*]
          clear HF
          go_wp2_with fail
          go_ret
          exact ⟨ret_b HV2.out.symm, BC.out⟩
      · have gk15 : (num == 0) = false := beq_eq_false_iff_ne.2 k15
        have gn15 : (num != 0) = true := bne_iff_ne.2 k15
        have kh15 := Lib.hid k15
        clear k15
        refine wp_region_text (by kernel_rfl) ?_
        simp only [List.append_eq, List.cons_append, List.nil_append]
        repeat (go_big_quiet_step (fail))
        refine wpQuiet_nil ?_
        have HV2 : Hid (V = false) := by
          show _ = _
          rw [HF.out]
          simp [*]
        clear HF
        go_wp2_with fail
        go_ret
        exact ⟨ret_b HV2.out.symm, BC.out⟩
    · have gk14 : (obj == 0) = false := beq_eq_false_iff_ne.2 k14
      have gn14 : (obj != 0) = true := bne_iff_ne.2 k14
      have kh14 := Lib.hid k14
      clear k14
      refine wp_region_text (by kernel_rfl) ?_
      simp only [List.append_eq, List.cons_append, List.nil_append]
      repeat (go_big_quiet_step (fail))
      refine wpQuiet_nil ?_
      have HV2 : Hid (V = false) := by
        show _ = _
        rw [HF.out]
        simp [*]
      clear HF
      go_wp2_with fail
      go_ret
      exact ⟨ret_b HV2.out.symm, BC.out⟩
  · have gk13 : (fn == 0) = false := beq_eq_false_iff_ne.2 k13
    have gn13 : (fn != 0) = true := bne_iff_ne.2 k13
    have kh13 := Lib.hid k13
    clear k13
    refine wp_region_text (by kernel_rfl) ?_
    simp only [List.append_eq, List.cons_append, List.nil_append]
    repeat (go_big_quiet_step (fail))
    refine wpQuiet_nil ?_
    have HV2 : Hid (V = false) := by
      show _ = _
      rw [HF.out]
      simp [*]
    clear HF
    go_wp2_with fail
    go_ret
    exact ⟨ret_b HV2.out.symm, BC.out⟩
theorem fz_7 {w : World} {g : Nat} (h : FldAt w 7 g) : w.cell? ⟨g, 0, none⟩ = some (.bool true) ∧ w.cell? ⟨g, 1, none⟩ = some (.bool false) ∧ w.cell? ⟨g, 2, none⟩ = some (.bool false) ∧ w.cell? ⟨g, 3, none⟩ = some (.bool false) ∧ w.cell? ⟨g, 4, none⟩ = some (.bool true) ∧ w.cell? ⟨g, 5, none⟩ = some (.bool true) ∧ w.cell? ⟨g, 6, none⟩ = some (.bool false) ∧ w.cell? ⟨g, 7, none⟩ = some (.bool false) ∧ w.cell? ⟨g, 8, none⟩ = some (.bool false) ∧ w.cell? ⟨g, 9, none⟩ = some (.bool true) ∧ g < w.heap.size := ⟨h.c0, h.c1, h.c2, h.c3, h.c4, h.c5, h.c6, h.c7, h.c8, h.c9, h.lt⟩
theorem okI_7 (m : Md) (p : Pr) (d ra rb fn obj off size num : Int) (args : List Int) (log : Bool) : okI m p ⟨7, d, ra, rb, fn, obj, off, size, num, args, log⟩ = ((fn == 0) && ((size == 0) && ((num == 0) && (decide (args.length = 0) && (regF p d true && (regF p ra false && (regF p rb false && (decide (-32768 ≤ off) && (decide (off ≤ 32768) && (decide (0 ≤ obj) && (decide (obj < (p.objs.length : Int))))))))))))) := by
  cases log <;> (rw [Bool.eq_iff_iff]; simp [okI, bareF, plainI, regF, moreF, offF, readsA, readsB, defI, -List.length_eq_zero_iff] <;> omega)
theorem rins_7 (m : Md) (p : Pr) (v V0 : Value) (d ra rb fn obj off size num : Int) (args : List Int) (log : Bool) (aa : Option Addr) (ca : Nat) (w : World) (hm : MdV w v m) (hp : PrV w V0 p) (ha2 : ca ≤ 9223372036854775807) (ha1 : args.length ≤ ca) (h0 : 0 ≤ p.regs) (h1 : p.regs ≤ 100000) :
    Calls Tryd.prog 41 #[v, V0, .agg #[.int .i64 7, .int .i64 d, .int .i64 ra, .int .i64 rb, .int .i64 fn, .int .i64 obj, .int .i64 off, .int .i64 size, .int .u32 num, .slice aa args.length ca, .bool log]] w fun e w' => e = .returned (.bool (okI m p ⟨7, d, ra, rb, fn, obj, off, size, num, args, log⟩)) ∧ Below w.heap.size w w' := by
  obtain ⟨V, hV⟩ : ∃ V, okI m p ⟨7, d, ra, rb, fn, obj, off, size, num, args, log⟩ = V := ⟨_, rfl⟩
  rw [hV]
  have HF := Lib.hid (hV.symm.trans (okI_7 m p d ra rb fn obj off size num args log))
  clear hV
  have ER : Hid (∀ r s w', Ext w w' → Calls Tryd.prog 63 #[V0, .int .i64 r, .bool s] w' fun e w'' => e = .returned (.bool (regF p r s)) ∧ Below w'.heap.size w' w'') := fun r s w' he => rregister_c p V0 r s w' (hp.ext he) h0 h1
  obtain ⟨nm, vo, vb, rfl, ⟨ao, co, rfl, -, hco, -⟩, ⟨ab, cb, rfl, -, hcb, -⟩⟩ := hp
  obtain ⟨vg, vd, vp, rfl, ⟨ag, cg, rfl, hcg1, hcg, -⟩, ⟨ad, cd, rfl, -⟩, ⟨ap, cp, rfl, hcp1, hcp, -⟩⟩ := hm
  unfold maxLen at hco hcb hcg hcp
  have EF := Lib.hid (fun w => fields_c 7 w (by decide) (by decide))
  go_enter Tryd.func41, Tryd.ntmps41
  go_wp2_with fail
  refine (EF.out _).mono ?_
  rintro e w1 ⟨g, rfl, hg, hf, hb⟩
  have HM : Hid (w1.heap[w.heap.size]? = some (.cells #[.slice ag m.globs.length cg, .slice ad m.data.length cd, .slice ap m.procs.length cp, .int .i64 m.main] 26 (0, 0))) := (hb.block w.heap.size (by simp <;> omega)).trans (allocs_heap [.cells #[.slice ag m.globs.length cg, .slice ad m.data.length cd, .slice ap m.procs.length cp, .int .i64 m.main] 26, .cells #[.string nm, .bool p.void, .int .i64 p.params, .int .i64 p.regs, .slice ao p.objs.length co, .slice ab p.blks.length cb] 37, .cells #[.int .i64 7, .int .i64 d, .int .i64 ra, .int .i64 rb, .int .i64 fn, .int .i64 obj, .int .i64 off, .int .i64 size, .int .u32 num, .slice aa args.length ca, .bool log] 45] w 0 (by simp))
  have HP : Hid (w1.heap[w.heap.size + 1]? = some (.cells #[.string nm, .bool p.void, .int .i64 p.params, .int .i64 p.regs, .slice ao p.objs.length co, .slice ab p.blks.length cb] 37 (0, 0))) := (hb.block (w.heap.size + 1) (by simp <;> omega)).trans (allocs_heap [.cells #[.slice ag m.globs.length cg, .slice ad m.data.length cd, .slice ap m.procs.length cp, .int .i64 m.main] 26, .cells #[.string nm, .bool p.void, .int .i64 p.params, .int .i64 p.regs, .slice ao p.objs.length co, .slice ab p.blks.length cb] 37, .cells #[.int .i64 7, .int .i64 d, .int .i64 ra, .int .i64 rb, .int .i64 fn, .int .i64 obj, .int .i64 off, .int .i64 size, .int .u32 num, .slice aa args.length ca, .bool log] 45] w 1 (by simp))
  have HI : Hid (w1.heap[w.heap.size + 1 + 1]? = some (.cells #[.int .i64 7, .int .i64 d, .int .i64 ra, .int .i64 rb, .int .i64 fn, .int .i64 obj, .int .i64 off, .int .i64 size, .int .u32 num, .slice aa args.length ca, .bool log] 45 (0, 0))) := (hb.block (w.heap.size + 1 + 1) (by simp <;> omega)).trans (allocs_heap [.cells #[.slice ag m.globs.length cg, .slice ad m.data.length cd, .slice ap m.procs.length cp, .int .i64 m.main] 26, .cells #[.string nm, .bool p.void, .int .i64 p.params, .int .i64 p.regs, .slice ao p.objs.length co, .slice ab p.blks.length cb] 37, .cells #[.int .i64 7, .int .i64 d, .int .i64 ra, .int .i64 rb, .int .i64 fn, .int .i64 obj, .int .i64 off, .int .i64 size, .int .u32 num, .slice aa args.length ca, .bool log] 45] w 2 (by simp))
  have HFL := Lib.hid hf
  have BC : Hid (Below w.heap.size w w1) := below3c hb
  clear hg hf hb
  obtain ⟨ym0, -, ym2, -, lm⟩ := cl4 HM.out
  obtain ⟨yp0, yp1, yp2, yp3, yp4, yp5, lp⟩ := cl6 HP.out
  obtain ⟨yi0, yi1, yi2, yi3, yi4, yi5, yi6, yi7, yi8, yi9, yi10, li⟩ := cl11 HI.out
  obtain ⟨z0, z1, z2, z3, z4, z5, z6, z7, z8, z9, lg⟩ := fz_7 HFL.out
  go_upto_region 4 with (fail)
  by_cases k25 : fn = 0
  · have gk25 : (fn == 0) = true := beq_iff_eq.2 k25
    have gn25 : (fn != 0) = false := bne_eq_false_iff_eq.2 k25
    have kh25 := Lib.hid k25
    clear k25
    by_cases k26 : size = 0
    · have gk26 : (size == 0) = true := beq_iff_eq.2 k26
      have gn26 : (size != 0) = false := bne_eq_false_iff_eq.2 k26
      have kh26 := Lib.hid k26
      clear k26
      by_cases k27 : num = 0
      · have gk27 : (num == 0) = true := beq_iff_eq.2 k27
        have gn27 : (num != 0) = false := bne_eq_false_iff_eq.2 k27
        have kh27 := Lib.hid k27
        clear k27
        by_cases ka : args.length = 0
        · have ga1 : decide ((0 : Int) < (args.length : Int)) = false := decide_eq_false (by omega)
          have ga2 : decide (0 < args.length) = false := decide_eq_false (by omega)
          have ga3 : decide (args.length = 0) = true := decide_eq_true ka
          have ka := Lib.hid ka
          refine wp_region_text (by kernel_rfl) ?_
          simp only [List.append_eq, List.cons_append, List.nil_append]
          repeat (go_big_quiet_step (fail))
          refine wpQuiet_nil ?_
          go_wp2_with fail
          refine wp_region_junk (fun _ => True) (by kernel_rfl) ?_
          refine J_mobs [0, 1, 2, 3, 4, 5] _ _ _ _ (by kernel_rfl) ?_
          simp only [List.map_cons, List.map_nil, List.getElem?_toArray, List.getElem?_cons_succ, List.getElem?_cons_zero, Option.getD_some, List.size_toArray, List.length_cons, List.length_nil, Nat.reduceAdd, Nat.reduceSub]
          repeat (go_big_quiet_step (fail))
          refine wpQuiet_nil ?_
          have kr28e := Lib.hid (ER.out d true)
          have kr28f : Hid (regF p d true = regF p d true) := rfl
          cases kr28 : regF p d true
          · rw [kr28] at kr28e
            refine J_loud1 6 _ rfl (by kernel_rfl) ?_
            simp only [List.getElem_toArray, List.getElem_cons_succ, List.getElem_cons_zero]
            intro wj hj
            go_wp2_with fail
            refine (kr28e.out wj (Ext.below (BC.out.trans (hj.mono BC.out.size)))).mono ?_
            rintro e w2 ⟨rfl, hq2⟩
            go_wp2_with fail
            refine ⟨KeepX.below hq2, ?_⟩
            have hb2 := hj.trans (hq2.mono hj.size)
            clear hq2 hj
            have HM := Lib.hid ((hb2.block _ lm).trans HM.out)
            have HP := Lib.hid ((hb2.block _ lp).trans HP.out)
            have HI := Lib.hid ((hb2.block _ li).trans HI.out)
            have HFL := Lib.hid (HFL.out.ext (Ext.below hb2))
            have BC := Lib.hid (BC.out.trans (hb2.mono BC.out.size))
            clear hb2
            clear ym0 ym2 yp0 yp1 yp2 yp3 yp4 yp5 yi0 yi1 yi2 yi3 yi4 yi5 yi6 yi7 yi8 yi9 yi10 z0 z1 z2 z3 z4 z5 z6 z7 z8 z9
            obtain ⟨ym0, -, ym2, -, lm⟩ := cl4 HM.out
            obtain ⟨yp0, yp1, yp2, yp3, yp4, yp5, lp⟩ := cl6 HP.out
            obtain ⟨yi0, yi1, yi2, yi3, yi4, yi5, yi6, yi7, yi8, yi9, yi10, li⟩ := cl11 HI.out
            obtain ⟨z0, z1, z2, z3, z4, z5, z6, z7, z8, z9, lg⟩ := fz_7 HFL.out
            refine J_mobs [7, 8] _ _ _ _ (by kernel_rfl) ?_
            simp only [List.map_cons, List.map_nil, List.getElem?_toArray, List.getElem?_cons_succ, List.getElem?_cons_zero, Option.getD_some, List.size_toArray, List.length_cons, List.length_nil, Nat.reduceAdd, Nat.reduceSub]
            repeat (go_big_quiet_step (fail))
            refine wpQuiet_nil ?_
            refine J_mobs [9, 10, 11, 12, 13, 14] _ _ _ _ (by kernel_rfl) ?_
            simp only [List.map_cons, List.map_nil, List.getElem?_toArray, List.getElem?_cons_succ, List.getElem?_cons_zero, Option.getD_some, List.size_toArray, List.length_cons, List.length_nil, Nat.reduceAdd, Nat.reduceSub]
            repeat (go_big_quiet_step (fail))
            refine wpQuiet_nil ?_
            refine J_loud1 15 _ rfl (by kernel_rfl) ?_
            simp only [List.getElem_toArray, List.getElem_cons_succ, List.getElem_cons_zero]
            intro wj hj
            go_wp2_with fail
            refine ⟨KeepX.refl _ _, ?_⟩
            have HM := Lib.hid ((hj.block _ lm).trans HM.out)
            have HP := Lib.hid ((hj.block _ lp).trans HP.out)
            have HI := Lib.hid ((hj.block _ li).trans HI.out)
            have HFL := Lib.hid (HFL.out.ext (Ext.below hj))
            have BC := Lib.hid (BC.out.trans (hj.mono BC.out.size))
            clear hj
            clear ym0 ym2 yp0 yp1 yp2 yp3 yp4 yp5 yi0 yi1 yi2 yi3 yi4 yi5 yi6 yi7 yi8 yi9 yi10 z0 z1 z2 z3 z4 z5 z6 z7 z8 z9
            obtain ⟨ym0, -, ym2, -, lm⟩ := cl4 HM.out
            obtain ⟨yp0, yp1, yp2, yp3, yp4, yp5, lp⟩ := cl6 HP.out
            obtain ⟨yi0, yi1, yi2, yi3, yi4, yi5, yi6, yi7, yi8, yi9, yi10, li⟩ := cl11 HI.out
            obtain ⟨z0, z1, z2, z3, z4, z5, z6, z7, z8, z9, lg⟩ := fz_7 HFL.out
            refine J_mobs [16, 17, 18] _ _ _ _ (by kernel_rfl) ?_
            simp only [List.map_cons, List.map_nil, List.getElem?_toArray, List.getElem?_cons_succ, List.getElem?_cons_zero, Option.getD_some, List.size_toArray, List.length_cons, List.length_nil, Nat.reduceAdd, Nat.reduceSub]
            repeat (go_big_quiet_step (fail))
            refine wpQuiet_nil ?_
            refine J_mobs [19, 20, 21, 22, 23, 24] _ _ _ _ (by kernel_rfl) ?_
            simp only [List.map_cons, List.map_nil, List.getElem?_toArray, List.getElem?_cons_succ, List.getElem?_cons_zero, Option.getD_some, List.size_toArray, List.length_cons, List.length_nil, Nat.reduceAdd, Nat.reduceSub]
            repeat (go_big_quiet_step (fail))
            refine wpQuiet_nil ?_
            refine J_loud1 25 _ rfl (by kernel_rfl) ?_
            simp only [List.getElem_toArray, List.getElem_cons_succ, List.getElem_cons_zero]
            intro wj hj
            go_wp2_with fail
            refine ⟨KeepX.refl _ _, ?_⟩
            have HM := Lib.hid ((hj.block _ lm).trans HM.out)
            have HP := Lib.hid ((hj.block _ lp).trans HP.out)
            have HI := Lib.hid ((hj.block _ li).trans HI.out)
            have HFL := Lib.hid (HFL.out.ext (Ext.below hj))
            have BC := Lib.hid (BC.out.trans (hj.mono BC.out.size))
            clear hj
            clear ym0 ym2 yp0 yp1 yp2 yp3 yp4 yp5 yi0 yi1 yi2 yi3 yi4 yi5 yi6 yi7 yi8 yi9 yi10 z0 z1 z2 z3 z4 z5 z6 z7 z8 z9
            obtain ⟨ym0, -, ym2, -, lm⟩ := cl4 HM.out
            obtain ⟨yp0, yp1, yp2, yp3, yp4, yp5, lp⟩ := cl6 HP.out
            obtain ⟨yi0, yi1, yi2, yi3, yi4, yi5, yi6, yi7, yi8, yi9, yi10, li⟩ := cl11 HI.out
            obtain ⟨z0, z1, z2, z3, z4, z5, z6, z7, z8, z9, lg⟩ := fz_7 HFL.out
            refine J_mobs [26, 27] _ _ _ _ (by kernel_rfl) ?_
            simp only [List.map_cons, List.map_nil, List.getElem?_toArray, List.getElem?_cons_succ, List.getElem?_cons_zero, Option.getD_some, List.size_toArray, List.length_cons, List.length_nil, Nat.reduceAdd, Nat.reduceSub]
            repeat (go_big_quiet_step (fail))
            refine wpQuiet_nil ?_
            refine J_done (by kernel_rfl) (fun wk hk => ?_) _
            have HM := Lib.hid ((hk.block _ lm).trans HM.out)
            have HP := Lib.hid ((hk.block _ lp).trans HP.out)
            have HI := Lib.hid ((hk.block _ li).trans HI.out)
            have HFL := Lib.hid (HFL.out.ext (Ext.below hk))
            have BC := Lib.hid (BC.out.trans (hk.mono BC.out.size))
            clear hk
            clear ym0 ym2 yp0 yp1 yp2 yp3 yp4 yp5 yi0 yi1 yi2 yi3 yi4 yi5 yi6 yi7 yi8 yi9 yi10 z0 z1 z2 z3 z4 z5 z6 z7 z8 z9
            obtain ⟨ym0, -, ym2, -, lm⟩ := cl4 HM.out
            obtain ⟨yp0, yp1, yp2, yp3, yp4, yp5, lp⟩ := cl6 HP.out
            obtain ⟨yi0, yi1, yi2, yi3, yi4, yi5, yi6, yi7, yi8, yi9, yi10, li⟩ := cl11 HI.out
            obtain ⟨z0, z1, z2, z3, z4, z5, z6, z7, z8, z9, lg⟩ := fz_7 HFL.out
            have HV2 : Hid (V = false) := by
              show _ = _
              rw [HF.out]
              simp [*]
            clear HF
            go_wp2_with fail
            go_ret
            exact ⟨ret_b HV2.out.symm, BC.out⟩
          · rw [kr28] at kr28e
            refine J_loud1 6 _ rfl (by kernel_rfl) ?_
            simp only [List.getElem_toArray, List.getElem_cons_succ, List.getElem_cons_zero]
            intro wj hj
            go_wp2_with fail
            refine (kr28e.out wj (Ext.below (BC.out.trans (hj.mono BC.out.size)))).mono ?_
            rintro e w2 ⟨rfl, hq2⟩
            go_wp2_with fail
            refine ⟨KeepX.below hq2, ?_⟩
            have hb2 := hj.trans (hq2.mono hj.size)
            clear hq2 hj
            have HM := Lib.hid ((hb2.block _ lm).trans HM.out)
            have HP := Lib.hid ((hb2.block _ lp).trans HP.out)
            have HI := Lib.hid ((hb2.block _ li).trans HI.out)
            have HFL := Lib.hid (HFL.out.ext (Ext.below hb2))
            have BC := Lib.hid (BC.out.trans (hb2.mono BC.out.size))
            clear hb2
            clear ym0 ym2 yp0 yp1 yp2 yp3 yp4 yp5 yi0 yi1 yi2 yi3 yi4 yi5 yi6 yi7 yi8 yi9 yi10 z0 z1 z2 z3 z4 z5 z6 z7 z8 z9
            obtain ⟨ym0, -, ym2, -, lm⟩ := cl4 HM.out
            obtain ⟨yp0, yp1, yp2, yp3, yp4, yp5, lp⟩ := cl6 HP.out
            obtain ⟨yi0, yi1, yi2, yi3, yi4, yi5, yi6, yi7, yi8, yi9, yi10, li⟩ := cl11 HI.out
            obtain ⟨z0, z1, z2, z3, z4, z5, z6, z7, z8, z9, lg⟩ := fz_7 HFL.out
            refine J_mobs [7, 8] _ _ _ _ (by kernel_rfl) ?_
            simp only [List.map_cons, List.map_nil, List.getElem?_toArray, List.getElem?_cons_succ, List.getElem?_cons_zero, Option.getD_some, List.size_toArray, List.length_cons, List.length_nil, Nat.reduceAdd, Nat.reduceSub]
            repeat (go_big_quiet_step (fail))
            refine wpQuiet_nil ?_
            refine J_mobs [9, 10, 11, 12, 13, 14] _ _ _ _ (by kernel_rfl) ?_
            simp only [List.map_cons, List.map_nil, List.getElem?_toArray, List.getElem?_cons_succ, List.getElem?_cons_zero, Option.getD_some, List.size_toArray, List.length_cons, List.length_nil, Nat.reduceAdd, Nat.reduceSub]
            repeat (go_big_quiet_step (fail))
            refine wpQuiet_nil ?_
            have kr29e := Lib.hid (ER.out ra false)
            have kr29f : Hid (regF p ra false = regF p ra false) := rfl
            cases kr29 : regF p ra false
            · rw [kr29] at kr29e
              refine J_loud1 15 _ rfl (by kernel_rfl) ?_
              simp only [List.getElem_toArray, List.getElem_cons_succ, List.getElem_cons_zero]
              intro wj hj
              go_wp2_with fail
              refine (kr29e.out wj (Ext.below (BC.out.trans (hj.mono BC.out.size)))).mono ?_
              rintro e w2 ⟨rfl, hq2⟩
              go_wp2_with fail
              refine ⟨KeepX.below hq2, ?_⟩
              have hb2 := hj.trans (hq2.mono hj.size)
              clear hq2 hj
              have HM := Lib.hid ((hb2.block _ lm).trans HM.out)
              have HP := Lib.hid ((hb2.block _ lp).trans HP.out)
              have HI := Lib.hid ((hb2.block _ li).trans HI.out)
              have HFL := Lib.hid (HFL.out.ext (Ext.below hb2))
              have BC := Lib.hid (BC.out.trans (hb2.mono BC.out.size))
              clear hb2
              clear ym0 ym2 yp0 yp1 yp2 yp3 yp4 yp5 yi0 yi1 yi2 yi3 yi4 yi5 yi6 yi7 yi8 yi9 yi10 z0 z1 z2 z3 z4 z5 z6 z7 z8 z9
              obtain ⟨ym0, -, ym2, -, lm⟩ := cl4 HM.out
              obtain ⟨yp0, yp1, yp2, yp3, yp4, yp5, lp⟩ := cl6 HP.out
              obtain ⟨yi0, yi1, yi2, yi3, yi4, yi5, yi6, yi7, yi8, yi9, yi10, li⟩ := cl11 HI.out
              obtain ⟨z0, z1, z2, z3, z4, z5, z6, z7, z8, z9, lg⟩ := fz_7 HFL.out
              refine J_mobs [16, 17, 18] _ _ _ _ (by kernel_rfl) ?_
              simp only [List.map_cons, List.map_nil, List.getElem?_toArray, List.getElem?_cons_succ, List.getElem?_cons_zero, Option.getD_some, List.size_toArray, List.length_cons, List.length_nil, Nat.reduceAdd, Nat.reduceSub]
              repeat (go_big_quiet_step (fail))
              refine wpQuiet_nil ?_
              refine J_mobs [19, 20, 21, 22, 23, 24] _ _ _ _ (by kernel_rfl) ?_
              simp only [List.map_cons, List.map_nil, List.getElem?_toArray, List.getElem?_cons_succ, List.getElem?_cons_zero, Option.getD_some, List.size_toArray, List.length_cons, List.length_nil, Nat.reduceAdd, Nat.reduceSub]
              repeat (go_big_quiet_step (fail))
              refine wpQuiet_nil ?_
              refine J_loud1 25 _ rfl (by kernel_rfl) ?_
              simp only [List.getElem_toArray, List.getElem_cons_succ, List.getElem_cons_zero]
              intro wj hj
              go_wp2_with fail
              refine ⟨KeepX.refl _ _, ?_⟩
              have HM := Lib.hid ((hj.block _ lm).trans HM.out)
              have HP := Lib.hid ((hj.block _ lp).trans HP.out)
              have HI := Lib.hid ((hj.block _ li).trans HI.out)
              have HFL := Lib.hid (HFL.out.ext (Ext.below hj))
              have BC := Lib.hid (BC.out.trans (hj.mono BC.out.size))
              clear hj
              clear ym0 ym2 yp0 yp1 yp2 yp3 yp4 yp5 yi0 yi1 yi2 yi3 yi4 yi5 yi6 yi7 yi8 yi9 yi10 z0 z1 z2 z3 z4 z5 z6 z7 z8 z9
              obtain ⟨ym0, -, ym2, -, lm⟩ := cl4 HM.out
              obtain ⟨yp0, yp1, yp2, yp3, yp4, yp5, lp⟩ := cl6 HP.out
              obtain ⟨yi0, yi1, yi2, yi3, yi4, yi5, yi6, yi7, yi8, yi9, yi10, li⟩ := cl11 HI.out
              obtain ⟨z0, z1, z2, z3, z4, z5, z6, z7, z8, z9, lg⟩ := fz_7 HFL.out
              refine J_mobs [26, 27] _ _ _ _ (by kernel_rfl) ?_
              simp only [List.map_cons, List.map_nil, List.getElem?_toArray, List.getElem?_cons_succ, List.getElem?_cons_zero, Option.getD_some, List.size_toArray, List.length_cons, List.length_nil, Nat.reduceAdd, Nat.reduceSub]
              repeat (go_big_quiet_step (fail))
              refine wpQuiet_nil ?_
              refine J_done (by kernel_rfl) (fun wk hk => ?_) _
              have HM := Lib.hid ((hk.block _ lm).trans HM.out)
              have HP := Lib.hid ((hk.block _ lp).trans HP.out)
              have HI := Lib.hid ((hk.block _ li).trans HI.out)
              have HFL := Lib.hid (HFL.out.ext (Ext.below hk))
              have BC := Lib.hid (BC.out.trans (hk.mono BC.out.size))
              clear hk
              clear ym0 ym2 yp0 yp1 yp2 yp3 yp4 yp5 yi0 yi1 yi2 yi3 yi4 yi5 yi6 yi7 yi8 yi9 yi10 z0 z1 z2 z3 z4 z5 z6 z7 z8 z9
              obtain ⟨ym0, -, ym2, -, lm⟩ := cl4 HM.out
              obtain ⟨yp0, yp1, yp2, yp3, yp4, yp5, lp⟩ := cl6 HP.out
              obtain ⟨yi0, yi1, yi2, yi3, yi4, yi5, yi6, yi7, yi8, yi9, yi10, li⟩ := cl11 HI.out
              obtain ⟨z0, z1, z2, z3, z4, z5, z6, z7, z8, z9, lg⟩ := fz_7 HFL.out
              have HV2 : Hid (V = false) := by
                show _ = _
                rw [HF.out]
                simp [*]
              clear HF
              go_wp2_with fail
              go_ret
              exact ⟨ret_b HV2.out.symm, BC.out⟩
            · rw [kr29] at kr29e
              refine J_loud1 15 _ rfl (by kernel_rfl) ?_
              simp only [List.getElem_toArray, List.getElem_cons_succ, List.getElem_cons_zero]
              intro wj hj
              go_wp2_with fail
              refine (kr29e.out wj (Ext.below (BC.out.trans (hj.mono BC.out.size)))).mono ?_
              rintro e w2 ⟨rfl, hq2⟩
              go_wp2_with fail
              refine ⟨KeepX.below hq2, ?_⟩
              have hb2 := hj.trans (hq2.mono hj.size)
              clear hq2 hj
              have HM := Lib.hid ((hb2.block _ lm).trans HM.out)
              have HP := Lib.hid ((hb2.block _ lp).trans HP.out)
              have HI := Lib.hid ((hb2.block _ li).trans HI.out)
              have HFL := Lib.hid (HFL.out.ext (Ext.below hb2))
              have BC := Lib.hid (BC.out.trans (hb2.mono BC.out.size))
              clear hb2
              clear ym0 ym2 yp0 yp1 yp2 yp3 yp4 yp5 yi0 yi1 yi2 yi3 yi4 yi5 yi6 yi7 yi8 yi9 yi10 z0 z1 z2 z3 z4 z5 z6 z7 z8 z9
              obtain ⟨ym0, -, ym2, -, lm⟩ := cl4 HM.out
              obtain ⟨yp0, yp1, yp2, yp3, yp4, yp5, lp⟩ := cl6 HP.out
              obtain ⟨yi0, yi1, yi2, yi3, yi4, yi5, yi6, yi7, yi8, yi9, yi10, li⟩ := cl11 HI.out
              obtain ⟨z0, z1, z2, z3, z4, z5, z6, z7, z8, z9, lg⟩ := fz_7 HFL.out
              refine J_mobs [16, 17, 18] _ _ _ _ (by kernel_rfl) ?_
              simp only [List.map_cons, List.map_nil, List.getElem?_toArray, List.getElem?_cons_succ, List.getElem?_cons_zero, Option.getD_some, List.size_toArray, List.length_cons, List.length_nil, Nat.reduceAdd, Nat.reduceSub]
              repeat (go_big_quiet_step (fail))
              refine wpQuiet_nil ?_
              refine J_mobs [19, 20, 21, 22, 23, 24] _ _ _ _ (by kernel_rfl) ?_
              simp only [List.map_cons, List.map_nil, List.getElem?_toArray, List.getElem?_cons_succ, List.getElem?_cons_zero, Option.getD_some, List.size_toArray, List.length_cons, List.length_nil, Nat.reduceAdd, Nat.reduceSub]
              repeat (go_big_quiet_step (fail))
              refine wpQuiet_nil ?_
              have kr30e := Lib.hid (ER.out rb false)
              have kr30f : Hid (regF p rb false = regF p rb false) := rfl
              cases kr30 : regF p rb false
              · rw [kr30] at kr30e
                refine J_loud1 25 _ rfl (by kernel_rfl) ?_
                simp only [List.getElem_toArray, List.getElem_cons_succ, List.getElem_cons_zero]
                intro wj hj
                go_wp2_with fail
                refine (kr30e.out wj (Ext.below (BC.out.trans (hj.mono BC.out.size)))).mono ?_
                rintro e w2 ⟨rfl, hq2⟩
                go_wp2_with fail
                refine ⟨KeepX.below hq2, ?_⟩
                have hb2 := hj.trans (hq2.mono hj.size)
                clear hq2 hj
                have HM := Lib.hid ((hb2.block _ lm).trans HM.out)
                have HP := Lib.hid ((hb2.block _ lp).trans HP.out)
                have HI := Lib.hid ((hb2.block _ li).trans HI.out)
                have HFL := Lib.hid (HFL.out.ext (Ext.below hb2))
                have BC := Lib.hid (BC.out.trans (hb2.mono BC.out.size))
                clear hb2
                clear ym0 ym2 yp0 yp1 yp2 yp3 yp4 yp5 yi0 yi1 yi2 yi3 yi4 yi5 yi6 yi7 yi8 yi9 yi10 z0 z1 z2 z3 z4 z5 z6 z7 z8 z9
                obtain ⟨ym0, -, ym2, -, lm⟩ := cl4 HM.out
                obtain ⟨yp0, yp1, yp2, yp3, yp4, yp5, lp⟩ := cl6 HP.out
                obtain ⟨yi0, yi1, yi2, yi3, yi4, yi5, yi6, yi7, yi8, yi9, yi10, li⟩ := cl11 HI.out
                obtain ⟨z0, z1, z2, z3, z4, z5, z6, z7, z8, z9, lg⟩ := fz_7 HFL.out
                refine J_mobs [26, 27] _ _ _ _ (by kernel_rfl) ?_
                simp only [List.map_cons, List.map_nil, List.getElem?_toArray, List.getElem?_cons_succ, List.getElem?_cons_zero, Option.getD_some, List.size_toArray, List.length_cons, List.length_nil, Nat.reduceAdd, Nat.reduceSub]
                repeat (go_big_quiet_step (fail))
                refine wpQuiet_nil ?_
                refine J_done (by kernel_rfl) (fun wk hk => ?_) _
                have HM := Lib.hid ((hk.block _ lm).trans HM.out)
                have HP := Lib.hid ((hk.block _ lp).trans HP.out)
                have HI := Lib.hid ((hk.block _ li).trans HI.out)
                have HFL := Lib.hid (HFL.out.ext (Ext.below hk))
                have BC := Lib.hid (BC.out.trans (hk.mono BC.out.size))
                clear hk
                clear ym0 ym2 yp0 yp1 yp2 yp3 yp4 yp5 yi0 yi1 yi2 yi3 yi4 yi5 yi6 yi7 yi8 yi9 yi10 z0 z1 z2 z3 z4 z5 z6 z7 z8 z9
                obtain ⟨ym0, -, ym2, -, lm⟩ := cl4 HM.out
                obtain ⟨yp0, yp1, yp2, yp3, yp4, yp5, lp⟩ := cl6 HP.out
                obtain ⟨yi0, yi1, yi2, yi3, yi4, yi5, yi6, yi7, yi8, yi9, yi10, li⟩ := cl11 HI.out
                obtain ⟨z0, z1, z2, z3, z4, z5, z6, z7, z8, z9, lg⟩ := fz_7 HFL.out
                have HV2 : Hid (V = false) := by
                  show _ = _
                  rw [HF.out]
                  simp [*]
                clear HF
                go_wp2_with fail
                go_ret
                exact ⟨ret_b HV2.out.symm, BC.out⟩
              · rw [kr30] at kr30e
                refine J_loud1 25 _ rfl (by kernel_rfl) ?_
                simp only [List.getElem_toArray, List.getElem_cons_succ, List.getElem_cons_zero]
                intro wj hj
                go_wp2_with fail
                refine (kr30e.out wj (Ext.below (BC.out.trans (hj.mono BC.out.size)))).mono ?_
                rintro e w2 ⟨rfl, hq2⟩
                go_wp2_with fail
                refine ⟨KeepX.below hq2, ?_⟩
                have hb2 := hj.trans (hq2.mono hj.size)
                clear hq2 hj
                have HM := Lib.hid ((hb2.block _ lm).trans HM.out)
                have HP := Lib.hid ((hb2.block _ lp).trans HP.out)
                have HI := Lib.hid ((hb2.block _ li).trans HI.out)
                have HFL := Lib.hid (HFL.out.ext (Ext.below hb2))
                have BC := Lib.hid (BC.out.trans (hb2.mono BC.out.size))
                clear hb2
                clear ym0 ym2 yp0 yp1 yp2 yp3 yp4 yp5 yi0 yi1 yi2 yi3 yi4 yi5 yi6 yi7 yi8 yi9 yi10 z0 z1 z2 z3 z4 z5 z6 z7 z8 z9
                obtain ⟨ym0, -, ym2, -, lm⟩ := cl4 HM.out
                obtain ⟨yp0, yp1, yp2, yp3, yp4, yp5, lp⟩ := cl6 HP.out
                obtain ⟨yi0, yi1, yi2, yi3, yi4, yi5, yi6, yi7, yi8, yi9, yi10, li⟩ := cl11 HI.out
                obtain ⟨z0, z1, z2, z3, z4, z5, z6, z7, z8, z9, lg⟩ := fz_7 HFL.out
                refine J_mobs [26, 27] _ _ _ _ (by kernel_rfl) ?_
                simp only [List.map_cons, List.map_nil, List.getElem?_toArray, List.getElem?_cons_succ, List.getElem?_cons_zero, Option.getD_some, List.size_toArray, List.length_cons, List.length_nil, Nat.reduceAdd, Nat.reduceSub]
                repeat (go_big_quiet_step (fail))
                refine wpQuiet_nil ?_
                refine J_done (by kernel_rfl) (fun wk hk => ?_) _
                have HM := Lib.hid ((hk.block _ lm).trans HM.out)
                have HP := Lib.hid ((hk.block _ lp).trans HP.out)
                have HI := Lib.hid ((hk.block _ li).trans HI.out)
                have HFL := Lib.hid (HFL.out.ext (Ext.below hk))
                have BC := Lib.hid (BC.out.trans (hk.mono BC.out.size))
                clear hk
                clear ym0 ym2 yp0 yp1 yp2 yp3 yp4 yp5 yi0 yi1 yi2 yi3 yi4 yi5 yi6 yi7 yi8 yi9 yi10 z0 z1 z2 z3 z4 z5 z6 z7 z8 z9
                obtain ⟨ym0, -, ym2, -, lm⟩ := cl4 HM.out
                obtain ⟨yp0, yp1, yp2, yp3, yp4, yp5, lp⟩ := cl6 HP.out
                obtain ⟨yi0, yi1, yi2, yi3, yi4, yi5, yi6, yi7, yi8, yi9, yi10, li⟩ := cl11 HI.out
                obtain ⟨z0, z1, z2, z3, z4, z5, z6, z7, z8, z9, lg⟩ := fz_7 HFL.out
                by_cases k31 : -32768 ≤ off
                · have gk31 : decide (-32768 ≤ off) = true := decide_eq_true k31
                  have gl31 : decide (off < -32768) = false := decide_eq_false (by omega)
                  by_cases k32 : off ≤ 32768
                  · have gk32 : decide (off ≤ 32768) = true := decide_eq_true k32
                    have gl32 : decide (32768 < off) = false := decide_eq_false (by omega)
                    by_cases k33 : 0 ≤ obj
                    · have gk33 : decide (0 ≤ obj) = true := decide_eq_true k33
                      have gl33 : decide (obj < 0) = false := decide_eq_false (by omega)
                      by_cases k34 : obj < (p.objs.length : Int)
                      · have gk34 : decide (obj < (p.objs.length : Int)) = true := decide_eq_true k34
                        have HV2 : Hid (V = true) := by
                          show _ = _
                          rw [HF.out]
                          simp [*]
                        clear HF
                        go_wp2_with fail
                        go_ret
                        exact ⟨ret_b HV2.out.symm, BC.out⟩
                      · have gk34 : decide (obj < (p.objs.length : Int)) = false := decide_eq_false k34
                        have HV2 : Hid (V = false) := by
                          show _ = _
                          rw [HF.out]
                          simp [*]
                        clear HF
                        go_wp2_with fail
                        go_ret
                        exact ⟨ret_b HV2.out.symm, BC.out⟩
                    · have gk33 : decide (0 ≤ obj) = false := decide_eq_false k33
                      have gl33 : decide (obj < 0) = true := decide_eq_true (by omega)
                      have HV2 : Hid (V = false) := by
                        show _ = _
                        rw [HF.out]
                        simp [*]
                      clear HF
                      go_wp2_with fail
                      go_ret
                      exact ⟨ret_b HV2.out.symm, BC.out⟩
                  · have gk32 : decide (off ≤ 32768) = false := decide_eq_false k32
                    have gl32 : decide (32768 < off) = true := decide_eq_true (by omega)
                    have HV2 : Hid (V = false) := by
                      show _ = _
                      rw [HF.out]
                      simp [*]
                    clear HF
                    go_wp2_with fail
                    go_ret
                    exact ⟨ret_b HV2.out.symm, BC.out⟩
                · have gk31 : decide (-32768 ≤ off) = false := decide_eq_false k31
                  have gl31 : decide (off < -32768) = true := decide_eq_true (by omega)
                  have HV2 : Hid (V = false) := by
                    show _ = _
                    rw [HF.out]
                    simp [*]
                  clear HF
                  go_wp2_with fail
                  go_ret
                  exact ⟨ret_b HV2.out.symm, BC.out⟩
        · have ga1 : decide ((0 : Int) < (args.length : Int)) = true := decide_eq_true (by omega)
          have ga2 : decide (0 < args.length) = true := decide_eq_true (by omega)
          have ga3 : decide (args.length = 0) = false := decide_eq_false ka
          refine wp_region_text (by kernel_rfl) ?_
          simp only [List.append_eq, List.cons_append, List.nil_append]
          repeat (go_big_quiet_step (fail))
          refine wpQuiet_nil ?_
          have HV2 : Hid (V = false) := by
            show _ = _
            rw [HF.out]
            simp [*]
          clear HF
          go_wp2_with fail
          go_ret
          exact ⟨ret_b HV2.out.symm, BC.out⟩
      · have gk27 : (num == 0) = false := beq_eq_false_iff_ne.2 k27
        have gn27 : (num != 0) = true := bne_iff_ne.2 k27
        have kh27 := Lib.hid k27
        clear k27
        refine wp_region_text (by kernel_rfl) ?_
        simp only [List.append_eq, List.cons_append, List.nil_append]
        repeat (go_big_quiet_step (fail))
        refine wpQuiet_nil ?_
        have HV2 : Hid (V = false) := by
          show _ = _
          rw [HF.out]
          simp [*]
        clear HF
        go_wp2_with fail
        go_ret
        exact ⟨ret_b HV2.out.symm, BC.out⟩
    · have gk26 : (size == 0) = false := beq_eq_false_iff_ne.2 k26
      have gn26 : (size != 0) = true := bne_iff_ne.2 k26
      have kh26 := Lib.hid k26
      clear k26
      refine wp_region_text (by kernel_rfl) ?_
      simp only [List.append_eq, List.cons_append, List.nil_append]
      repeat (go_big_quiet_step (fail))
      refine wpQuiet_nil ?_
      have HV2 : Hid (V = false) := by
        show _ = _
        rw [HF.out]
        simp [*]
      clear HF
      go_wp2_with fail
      go_ret
      exact ⟨ret_b HV2.out.symm, BC.out⟩
  · have gk25 : (fn == 0) = false := beq_eq_false_iff_ne.2 k25
    have gn25 : (fn != 0) = true := bne_iff_ne.2 k25
    have kh25 := Lib.hid k25
    clear k25
    refine wp_region_text (by kernel_rfl) ?_
    simp only [List.append_eq, List.cons_append, List.nil_append]
    repeat (go_big_quiet_step (fail))
    refine wpQuiet_nil ?_
    have HV2 : Hid (V = false) := by
      show _ = _
      rw [HF.out]
      simp [*]
    clear HF
    go_wp2_with fail
    go_ret
    exact ⟨ret_b HV2.out.symm, BC.out⟩
theorem fz_8 {w : World} {g : Nat} (h : FldAt w 8 g) : w.cell? ⟨g, 0, none⟩ = some (.bool true) ∧ w.cell? ⟨g, 1, none⟩ = some (.bool false) ∧ w.cell? ⟨g, 2, none⟩ = some (.bool false) ∧ w.cell? ⟨g, 3, none⟩ = some (.bool false) ∧ w.cell? ⟨g, 4, none⟩ = some (.bool true) ∧ w.cell? ⟨g, 5, none⟩ = some (.bool true) ∧ w.cell? ⟨g, 6, none⟩ = some (.bool false) ∧ w.cell? ⟨g, 7, none⟩ = some (.bool false) ∧ w.cell? ⟨g, 8, none⟩ = some (.bool false) ∧ w.cell? ⟨g, 9, none⟩ = some (.bool true) ∧ g < w.heap.size := ⟨h.c0, h.c1, h.c2, h.c3, h.c4, h.c5, h.c6, h.c7, h.c8, h.c9, h.lt⟩
theorem okI_8 (m : Md) (p : Pr) (d ra rb fn obj off size num : Int) (args : List Int) (log : Bool) : okI m p ⟨8, d, ra, rb, fn, obj, off, size, num, args, log⟩ = ((fn == 0) && ((size == 0) && ((num == 0) && (decide (args.length = 0) && (regF p d true && (regF p ra false && (regF p rb false && (decide (-32768 ≤ off) && (decide (off ≤ 32768) && (decide (0 ≤ obj) && (decide (obj < (m.globs.length : Int))))))))))))) := by
  cases log <;> (rw [Bool.eq_iff_iff]; simp [okI, bareF, plainI, regF, moreF, offF, readsA, readsB, defI, -List.length_eq_zero_iff] <;> omega)
theorem rins_8 (m : Md) (p : Pr) (v V0 : Value) (d ra rb fn obj off size num : Int) (args : List Int) (log : Bool) (aa : Option Addr) (ca : Nat) (w : World) (hm : MdV w v m) (hp : PrV w V0 p) (ha2 : ca ≤ 9223372036854775807) (ha1 : args.length ≤ ca) (h0 : 0 ≤ p.regs) (h1 : p.regs ≤ 100000) :
    Calls Tryd.prog 41 #[v, V0, .agg #[.int .i64 8, .int .i64 d, .int .i64 ra, .int .i64 rb, .int .i64 fn, .int .i64 obj, .int .i64 off, .int .i64 size, .int .u32 num, .slice aa args.length ca, .bool log]] w fun e w' => e = .returned (.bool (okI m p ⟨8, d, ra, rb, fn, obj, off, size, num, args, log⟩)) ∧ Below w.heap.size w w' := by
  obtain ⟨V, hV⟩ : ∃ V, okI m p ⟨8, d, ra, rb, fn, obj, off, size, num, args, log⟩ = V := ⟨_, rfl⟩
  rw [hV]
  have HF := Lib.hid (hV.symm.trans (okI_8 m p d ra rb fn obj off size num args log))
  clear hV
  have ER : Hid (∀ r s w', Ext w w' → Calls Tryd.prog 63 #[V0, .int .i64 r, .bool s] w' fun e w'' => e = .returned (.bool (regF p r s)) ∧ Below w'.heap.size w' w'') := fun r s w' he => rregister_c p V0 r s w' (hp.ext he) h0 h1
  obtain ⟨nm, vo, vb, rfl, ⟨ao, co, rfl, -, hco, -⟩, ⟨ab, cb, rfl, -, hcb, -⟩⟩ := hp
  obtain ⟨vg, vd, vp, rfl, ⟨ag, cg, rfl, hcg1, hcg, -⟩, ⟨ad, cd, rfl, -⟩, ⟨ap, cp, rfl, hcp1, hcp, -⟩⟩ := hm
  unfold maxLen at hco hcb hcg hcp
  have EF := Lib.hid (fun w => fields_c 8 w (by decide) (by decide))
  go_enter Tryd.func41, Tryd.ntmps41
  go_wp2_with fail
  refine (EF.out _).mono ?_
  rintro e w1 ⟨g, rfl, hg, hf, hb⟩
  have HM : Hid (w1.heap[w.heap.size]? = some (.cells #[.slice ag m.globs.length cg, .slice ad m.data.length cd, .slice ap m.procs.length cp, .int .i64 m.main] 26 (0, 0))) := (hb.block w.heap.size (by simp <;> omega)).trans (allocs_heap [.cells #[.slice ag m.globs.length cg, .slice ad m.data.length cd, .slice ap m.procs.length cp, .int .i64 m.main] 26, .cells #[.string nm, .bool p.void, .int .i64 p.params, .int .i64 p.regs, .slice ao p.objs.length co, .slice ab p.blks.length cb] 37, .cells #[.int .i64 8, .int .i64 d, .int .i64 ra, .int .i64 rb, .int .i64 fn, .int .i64 obj, .int .i64 off, .int .i64 size, .int .u32 num, .slice aa args.length ca, .bool log] 45] w 0 (by simp))
  have HP : Hid (w1.heap[w.heap.size + 1]? = some (.cells #[.string nm, .bool p.void, .int .i64 p.params, .int .i64 p.regs, .slice ao p.objs.length co, .slice ab p.blks.length cb] 37 (0, 0))) := (hb.block (w.heap.size + 1) (by simp <;> omega)).trans (allocs_heap [.cells #[.slice ag m.globs.length cg, .slice ad m.data.length cd, .slice ap m.procs.length cp, .int .i64 m.main] 26, .cells #[.string nm, .bool p.void, .int .i64 p.params, .int .i64 p.regs, .slice ao p.objs.length co, .slice ab p.blks.length cb] 37, .cells #[.int .i64 8, .int .i64 d, .int .i64 ra, .int .i64 rb, .int .i64 fn, .int .i64 obj, .int .i64 off, .int .i64 size, .int .u32 num, .slice aa args.length ca, .bool log] 45] w 1 (by simp))
  have HI : Hid (w1.heap[w.heap.size + 1 + 1]? = some (.cells #[.int .i64 8, .int .i64 d, .int .i64 ra, .int .i64 rb, .int .i64 fn, .int .i64 obj, .int .i64 off, .int .i64 size, .int .u32 num, .slice aa args.length ca, .bool log] 45 (0, 0))) := (hb.block (w.heap.size + 1 + 1) (by simp <;> omega)).trans (allocs_heap [.cells #[.slice ag m.globs.length cg, .slice ad m.data.length cd, .slice ap m.procs.length cp, .int .i64 m.main] 26, .cells #[.string nm, .bool p.void, .int .i64 p.params, .int .i64 p.regs, .slice ao p.objs.length co, .slice ab p.blks.length cb] 37, .cells #[.int .i64 8, .int .i64 d, .int .i64 ra, .int .i64 rb, .int .i64 fn, .int .i64 obj, .int .i64 off, .int .i64 size, .int .u32 num, .slice aa args.length ca, .bool log] 45] w 2 (by simp))
  have HFL := Lib.hid hf
  have BC : Hid (Below w.heap.size w w1) := below3c hb
  clear hg hf hb
  obtain ⟨ym0, -, ym2, -, lm⟩ := cl4 HM.out
  obtain ⟨yp0, yp1, yp2, yp3, yp4, yp5, lp⟩ := cl6 HP.out
  obtain ⟨yi0, yi1, yi2, yi3, yi4, yi5, yi6, yi7, yi8, yi9, yi10, li⟩ := cl11 HI.out
  obtain ⟨z0, z1, z2, z3, z4, z5, z6, z7, z8, z9, lg⟩ := fz_8 HFL.out
  go_upto_region 4 with (fail)
  by_cases k35 : fn = 0
  · have gk35 : (fn == 0) = true := beq_iff_eq.2 k35
    have gn35 : (fn != 0) = false := bne_eq_false_iff_eq.2 k35
    have kh35 := Lib.hid k35
    clear k35
    by_cases k36 : size = 0
    · have gk36 : (size == 0) = true := beq_iff_eq.2 k36
      have gn36 : (size != 0) = false := bne_eq_false_iff_eq.2 k36
      have kh36 := Lib.hid k36
      clear k36
      by_cases k37 : num = 0
      · have gk37 : (num == 0) = true := beq_iff_eq.2 k37
        have gn37 : (num != 0) = false := bne_eq_false_iff_eq.2 k37
        have kh37 := Lib.hid k37
        clear k37
        by_cases ka : args.length = 0
        · have ga1 : decide ((0 : Int) < (args.length : Int)) = false := decide_eq_false (by omega)
          have ga2 : decide (0 < args.length) = false := decide_eq_false (by omega)
          have ga3 : decide (args.length = 0) = true := decide_eq_true ka
          have ka := Lib.hid ka
          refine wp_region_text (by kernel_rfl) ?_
          simp only [List.append_eq, List.cons_append, List.nil_append]
          repeat (go_big_quiet_step (fail))
          refine wpQuiet_nil ?_
          go_wp2_with fail
          refine wp_region_junk (fun _ => True) (by kernel_rfl) ?_
          refine J_mobs [0, 1, 2, 3, 4, 5] _ _ _ _ (by kernel_rfl) ?_
          simp only [List.map_cons, List.map_nil, List.getElem?_toArray, List.getElem?_cons_succ, List.getElem?_cons_zero, Option.getD_some, List.size_toArray, List.length_cons, List.length_nil, Nat.reduceAdd, Nat.reduceSub]
          repeat (go_big_quiet_step (fail))
          refine wpQuiet_nil ?_
          have kr38e := Lib.hid (ER.out d true)
          have kr38f : Hid (regF p d true = regF p d true) := rfl
          cases kr38 : regF p d true
          · rw [kr38] at kr38e
            refine J_loud1 6 _ rfl (by kernel_rfl) ?_
            simp only [List.getElem_toArray, List.getElem_cons_succ, List.getElem_cons_zero]
            intro wj hj
            go_wp2_with fail
            refine (kr38e.out wj (Ext.below (BC.out.trans (hj.mono BC.out.size)))).mono ?_
            rintro e w2 ⟨rfl, hq2⟩
            go_wp2_with fail
            refine ⟨KeepX.below hq2, ?_⟩
            have hb2 := hj.trans (hq2.mono hj.size)
            clear hq2 hj
            have HM := Lib.hid ((hb2.block _ lm).trans HM.out)
            have HP := Lib.hid ((hb2.block _ lp).trans HP.out)
            have HI := Lib.hid ((hb2.block _ li).trans HI.out)
            have HFL := Lib.hid (HFL.out.ext (Ext.below hb2))
            have BC := Lib.hid (BC.out.trans (hb2.mono BC.out.size))
            clear hb2
            clear ym0 ym2 yp0 yp1 yp2 yp3 yp4 yp5 yi0 yi1 yi2 yi3 yi4 yi5 yi6 yi7 yi8 yi9 yi10 z0 z1 z2 z3 z4 z5 z6 z7 z8 z9
            obtain ⟨ym0, -, ym2, -, lm⟩ := cl4 HM.out
            obtain ⟨yp0, yp1, yp2, yp3, yp4, yp5, lp⟩ := cl6 HP.out
            obtain ⟨yi0, yi1, yi2, yi3, yi4, yi5, yi6, yi7, yi8, yi9, yi10, li⟩ := cl11 HI.out
            obtain ⟨z0, z1, z2, z3, z4, z5, z6, z7, z8, z9, lg⟩ := fz_8 HFL.out
            refine J_mobs [7, 8] _ _ _ _ (by kernel_rfl) ?_
            simp only [List.map_cons, List.map_nil, List.getElem?_toArray, List.getElem?_cons_succ, List.getElem?_cons_zero, Option.getD_some, List.size_toArray, List.length_cons, List.length_nil, Nat.reduceAdd, Nat.reduceSub]
            repeat (go_big_quiet_step (fail))
            refine wpQuiet_nil ?_
            refine J_mobs [9, 10, 11, 12, 13, 14] _ _ _ _ (by kernel_rfl) ?_
            simp only [List.map_cons, List.map_nil, List.getElem?_toArray, List.getElem?_cons_succ, List.getElem?_cons_zero, Option.getD_some, List.size_toArray, List.length_cons, List.length_nil, Nat.reduceAdd, Nat.reduceSub]
            repeat (go_big_quiet_step (fail))
            refine wpQuiet_nil ?_
            refine J_loud1 15 _ rfl (by kernel_rfl) ?_
            simp only [List.getElem_toArray, List.getElem_cons_succ, List.getElem_cons_zero]
            intro wj hj
            go_wp2_with fail
            refine ⟨KeepX.refl _ _, ?_⟩
            have HM := Lib.hid ((hj.block _ lm).trans HM.out)
            have HP := Lib.hid ((hj.block _ lp).trans HP.out)
            have HI := Lib.hid ((hj.block _ li).trans HI.out)
            have HFL := Lib.hid (HFL.out.ext (Ext.below hj))
            have BC := Lib.hid (BC.out.trans (hj.mono BC.out.size))
            clear hj
            clear ym0 ym2 yp0 yp1 yp2 yp3 yp4 yp5 yi0 yi1 yi2 yi3 yi4 yi5 yi6 yi7 yi8 yi9 yi10 z0 z1 z2 z3 z4 z5 z6 z7 z8 z9
            obtain ⟨ym0, -, ym2, -, lm⟩ := cl4 HM.out
            obtain ⟨yp0, yp1, yp2, yp3, yp4, yp5, lp⟩ := cl6 HP.out
            obtain ⟨yi0, yi1, yi2, yi3, yi4, yi5, yi6, yi7, yi8, yi9, yi10, li⟩ := cl11 HI.out
            obtain ⟨z0, z1, z2, z3, z4, z5, z6, z7, z8, z9, lg⟩ := fz_8 HFL.out
            refine J_mobs [16, 17, 18] _ _ _ _ (by kernel_rfl) ?_
            simp only [List.map_cons, List.map_nil, List.getElem?_toArray, List.getElem?_cons_succ, List.getElem?_cons_zero, Option.getD_some, List.size_toArray, List.length_cons, List.length_nil, Nat.reduceAdd, Nat.reduceSub]
            repeat (go_big_quiet_step (fail))
            refine wpQuiet_nil ?_
            refine J_mobs [19, 20, 21, 22, 23, 24] _ _ _ _ (by kernel_rfl) ?_
            simp only [List.map_cons, List.map_nil, List.getElem?_toArray, List.getElem?_cons_succ, List.getElem?_cons_zero, Option.getD_some, List.size_toArray, List.length_cons, List.length_nil, Nat.reduceAdd, Nat.reduceSub]
            repeat (go_big_quiet_step (fail))
            refine wpQuiet_nil ?_
            refine J_loud1 25 _ rfl (by kernel_rfl) ?_
            simp only [List.getElem_toArray, List.getElem_cons_succ, List.getElem_cons_zero]
            intro wj hj
            go_wp2_with fail
            refine ⟨KeepX.refl _ _, ?_⟩
            have HM := Lib.hid ((hj.block _ lm).trans HM.out)
            have HP := Lib.hid ((hj.block _ lp).trans HP.out)
            have HI := Lib.hid ((hj.block _ li).trans HI.out)
            have HFL := Lib.hid (HFL.out.ext (Ext.below hj))
            have BC := Lib.hid (BC.out.trans (hj.mono BC.out.size))
            clear hj
            clear ym0 ym2 yp0 yp1 yp2 yp3 yp4 yp5 yi0 yi1 yi2 yi3 yi4 yi5 yi6 yi7 yi8 yi9 yi10 z0 z1 z2 z3 z4 z5 z6 z7 z8 z9
            obtain ⟨ym0, -, ym2, -, lm⟩ := cl4 HM.out
            obtain ⟨yp0, yp1, yp2, yp3, yp4, yp5, lp⟩ := cl6 HP.out
            obtain ⟨yi0, yi1, yi2, yi3, yi4, yi5, yi6, yi7, yi8, yi9, yi10, li⟩ := cl11 HI.out
            obtain ⟨z0, z1, z2, z3, z4, z5, z6, z7, z8, z9, lg⟩ := fz_8 HFL.out
            refine J_mobs [26, 27] _ _ _ _ (by kernel_rfl) ?_
            simp only [List.map_cons, List.map_nil, List.getElem?_toArray, List.getElem?_cons_succ, List.getElem?_cons_zero, Option.getD_some, List.size_toArray, List.length_cons, List.length_nil, Nat.reduceAdd, Nat.reduceSub]
            repeat (go_big_quiet_step (fail))
            refine wpQuiet_nil ?_
            refine J_done (by kernel_rfl) (fun wk hk => ?_) _
            have HM := Lib.hid ((hk.block _ lm).trans HM.out)
            have HP := Lib.hid ((hk.block _ lp).trans HP.out)
            have HI := Lib.hid ((hk.block _ li).trans HI.out)
            have HFL := Lib.hid (HFL.out.ext (Ext.below hk))
            have BC := Lib.hid (BC.out.trans (hk.mono BC.out.size))
            clear hk
            clear ym0 ym2 yp0 yp1 yp2 yp3 yp4 yp5 yi0 yi1 yi2 yi3 yi4 yi5 yi6 yi7 yi8 yi9 yi10 z0 z1 z2 z3 z4 z5 z6 z7 z8 z9
            obtain ⟨ym0, -, ym2, -, lm⟩ := cl4 HM.out
            obtain ⟨yp0, yp1, yp2, yp3, yp4, yp5, lp⟩ := cl6 HP.out
            obtain ⟨yi0, yi1, yi2, yi3, yi4, yi5, yi6, yi7, yi8, yi9, yi10, li⟩ := cl11 HI.out
            obtain ⟨z0, z1, z2, z3, z4, z5, z6, z7, z8, z9, lg⟩ := fz_8 HFL.out
            have HV2 : Hid (V = false) := by
              show _ = _
              rw [HF.out]
              simp [*]
            clear HF
            go_wp2_with fail
            go_ret
            exact ⟨ret_b HV2.out.symm, BC.out⟩
          · rw [kr38] at kr38e
            refine J_loud1 6 _ rfl (by kernel_rfl) ?_
            simp only [List.getElem_toArray, List.getElem_cons_succ, List.getElem_cons_zero]
            intro wj hj
            go_wp2_with fail
            refine (kr38e.out wj (Ext.below (BC.out.trans (hj.mono BC.out.size)))).mono ?_
            rintro e w2 ⟨rfl, hq2⟩
            go_wp2_with fail
            refine ⟨KeepX.below hq2, ?_⟩
            have hb2 := hj.trans (hq2.mono hj.size)
            clear hq2 hj
            have HM := Lib.hid ((hb2.block _ lm).trans HM.out)
            have HP := Lib.hid ((hb2.block _ lp).trans HP.out)
            have HI := Lib.hid ((hb2.block _ li).trans HI.out)
            have HFL := Lib.hid (HFL.out.ext (Ext.below hb2))
            have BC := Lib.hid (BC.out.trans (hb2.mono BC.out.size))
            clear hb2
            clear ym0 ym2 yp0 yp1 yp2 yp3 yp4 yp5 yi0 yi1 yi2 yi3 yi4 yi5 yi6 yi7 yi8 yi9 yi10 z0 z1 z2 z3 z4 z5 z6 z7 z8 z9
            obtain ⟨ym0, -, ym2, -, lm⟩ := cl4 HM.out
            obtain ⟨yp0, yp1, yp2, yp3, yp4, yp5, lp⟩ := cl6 HP.out
            obtain ⟨yi0, yi1, yi2, yi3, yi4, yi5, yi6, yi7, yi8, yi9, yi10, li⟩ := cl11 HI.out
            obtain ⟨z0, z1, z2, z3, z4, z5, z6, z7, z8, z9, lg⟩ := fz_8 HFL.out
            refine J_mobs [7, 8] _ _ _ _ (by kernel_rfl) ?_
            simp only [List.map_cons, List.map_nil, List.getElem?_toArray, List.getElem?_cons_succ, List.getElem?_cons_zero, Option.getD_some, List.size_toArray, List.length_cons, List.length_nil, Nat.reduceAdd, Nat.reduceSub]
            repeat (go_big_quiet_step (fail))
            refine wpQuiet_nil ?_
            refine J_mobs [9, 10, 11, 12, 13, 14] _ _ _ _ (by kernel_rfl) ?_
            simp only [List.map_cons, List.map_nil, List.getElem?_toArray, List.getElem?_cons_succ, List.getElem?_cons_zero, Option.getD_some, List.size_toArray, List.length_cons, List.length_nil, Nat.reduceAdd, Nat.reduceSub]
            repeat (go_big_quiet_step (fail))
            refine wpQuiet_nil ?_
            have kr39e := Lib.hid (ER.out ra false)
            have kr39f : Hid (regF p ra false = regF p ra false) := rfl
            cases kr39 : regF p ra false
            · rw [kr39] at kr39e
              refine J_loud1 15 _ rfl (by kernel_rfl) ?_
              simp only [List.getElem_toArray, List.getElem_cons_succ, List.getElem_cons_zero]
              intro wj hj
              go_wp2_with fail
              refine (kr39e.out wj (Ext.below (BC.out.trans (hj.mono BC.out.size)))).mono ?_
              rintro e w2 ⟨rfl, hq2⟩
              go_wp2_with fail
              refine ⟨KeepX.below hq2, ?_⟩
              have hb2 := hj.trans (hq2.mono hj.size)
              clear hq2 hj
              have HM := Lib.hid ((hb2.block _ lm).trans HM.out)
              have HP := Lib.hid ((hb2.block _ lp).trans HP.out)
              have HI := Lib.hid ((hb2.block _ li).trans HI.out)
              have HFL := Lib.hid (HFL.out.ext (Ext.below hb2))
              have BC := Lib.hid (BC.out.trans (hb2.mono BC.out.size))
              clear hb2
              clear ym0 ym2 yp0 yp1 yp2 yp3 yp4 yp5 yi0 yi1 yi2 yi3 yi4 yi5 yi6 yi7 yi8 yi9 yi10 z0 z1 z2 z3 z4 z5 z6 z7 z8 z9
              obtain ⟨ym0, -, ym2, -, lm⟩ := cl4 HM.out
              obtain ⟨yp0, yp1, yp2, yp3, yp4, yp5, lp⟩ := cl6 HP.out
              obtain ⟨yi0, yi1, yi2, yi3, yi4, yi5, yi6, yi7, yi8, yi9, yi10, li⟩ := cl11 HI.out
              obtain ⟨z0, z1, z2, z3, z4, z5, z6, z7, z8, z9, lg⟩ := fz_8 HFL.out
              refine J_mobs [16, 17, 18] _ _ _ _ (by kernel_rfl) ?_
              simp only [List.map_cons, List.map_nil, List.getElem?_toArray, List.getElem?_cons_succ, List.getElem?_cons_zero, Option.getD_some, List.size_toArray, List.length_cons, List.length_nil, Nat.reduceAdd, Nat.reduceSub]
              repeat (go_big_quiet_step (fail))
              refine wpQuiet_nil ?_
              refine J_mobs [19, 20, 21, 22, 23, 24] _ _ _ _ (by kernel_rfl) ?_
              simp only [List.map_cons, List.map_nil, List.getElem?_toArray, List.getElem?_cons_succ, List.getElem?_cons_zero, Option.getD_some, List.size_toArray, List.length_cons, List.length_nil, Nat.reduceAdd, Nat.reduceSub]
              repeat (go_big_quiet_step (fail))
              refine wpQuiet_nil ?_
              refine J_loud1 25 _ rfl (by kernel_rfl) ?_
              simp only [List.getElem_toArray, List.getElem_cons_succ, List.getElem_cons_zero]
              intro wj hj
              go_wp2_with fail
              refine ⟨KeepX.refl _ _, ?_⟩
              have HM := Lib.hid ((hj.block _ lm).trans HM.out)
              have HP := Lib.hid ((hj.block _ lp).trans HP.out)
              have HI := Lib.hid ((hj.block _ li).trans HI.out)
              have HFL := Lib.hid (HFL.out.ext (Ext.below hj))
              have BC := Lib.hid (BC.out.trans (hj.mono BC.out.size))
              clear hj
              clear ym0 ym2 yp0 yp1 yp2 yp3 yp4 yp5 yi0 yi1 yi2 yi3 yi4 yi5 yi6 yi7 yi8 yi9 yi10 z0 z1 z2 z3 z4 z5 z6 z7 z8 z9
              obtain ⟨ym0, -, ym2, -, lm⟩ := cl4 HM.out
              obtain ⟨yp0, yp1, yp2, yp3, yp4, yp5, lp⟩ := cl6 HP.out
              obtain ⟨yi0, yi1, yi2, yi3, yi4, yi5, yi6, yi7, yi8, yi9, yi10, li⟩ := cl11 HI.out
              obtain ⟨z0, z1, z2, z3, z4, z5, z6, z7, z8, z9, lg⟩ := fz_8 HFL.out
              refine J_mobs [26, 27] _ _ _ _ (by kernel_rfl) ?_
              simp only [List.map_cons, List.map_nil, List.getElem?_toArray, List.getElem?_cons_succ, List.getElem?_cons_zero, Option.getD_some, List.size_toArray, List.length_cons, List.length_nil, Nat.reduceAdd, Nat.reduceSub]
              repeat (go_big_quiet_step (fail))
              refine wpQuiet_nil ?_
              refine J_done (by kernel_rfl) (fun wk hk => ?_) _
              have HM := Lib.hid ((hk.block _ lm).trans HM.out)
              have HP := Lib.hid ((hk.block _ lp).trans HP.out)
              have HI := Lib.hid ((hk.block _ li).trans HI.out)
              have HFL := Lib.hid (HFL.out.ext (Ext.below hk))
              have BC := Lib.hid (BC.out.trans (hk.mono BC.out.size))
              clear hk
              clear ym0 ym2 yp0 yp1 yp2 yp3 yp4 yp5 yi0 yi1 yi2 yi3 yi4 yi5 yi6 yi7 yi8 yi9 yi10 z0 z1 z2 z3 z4 z5 z6 z7 z8 z9
              obtain ⟨ym0, -, ym2, -, lm⟩ := cl4 HM.out
              obtain ⟨yp0, yp1, yp2, yp3, yp4, yp5, lp⟩ := cl6 HP.out
              obtain ⟨yi0, yi1, yi2, yi3, yi4, yi5, yi6, yi7, yi8, yi9, yi10, li⟩ := cl11 HI.out
              obtain ⟨z0, z1, z2, z3, z4, z5, z6, z7, z8, z9, lg⟩ := fz_8 HFL.out
              have HV2 : Hid (V = false) := by
                show _ = _
                rw [HF.out]
                simp [*]
              clear HF
              go_wp2_with fail
              go_ret
              exact ⟨ret_b HV2.out.symm, BC.out⟩
            · rw [kr39] at kr39e
              refine J_loud1 15 _ rfl (by kernel_rfl) ?_
              simp only [List.getElem_toArray, List.getElem_cons_succ, List.getElem_cons_zero]
              intro wj hj
              go_wp2_with fail
              refine (kr39e.out wj (Ext.below (BC.out.trans (hj.mono BC.out.size)))).mono ?_
              rintro e w2 ⟨rfl, hq2⟩
              go_wp2_with fail
              refine ⟨KeepX.below hq2, ?_⟩
              have hb2 := hj.trans (hq2.mono hj.size)
              clear hq2 hj
              have HM := Lib.hid ((hb2.block _ lm).trans HM.out)
              have HP := Lib.hid ((hb2.block _ lp).trans HP.out)
              have HI := Lib.hid ((hb2.block _ li).trans HI.out)
              have HFL := Lib.hid (HFL.out.ext (Ext.below hb2))
              have BC := Lib.hid (BC.out.trans (hb2.mono BC.out.size))
              clear hb2
              clear ym0 ym2 yp0 yp1 yp2 yp3 yp4 yp5 yi0 yi1 yi2 yi3 yi4 yi5 yi6 yi7 yi8 yi9 yi10 z0 z1 z2 z3 z4 z5 z6 z7 z8 z9
              obtain ⟨ym0, -, ym2, -, lm⟩ := cl4 HM.out
              obtain ⟨yp0, yp1, yp2, yp3, yp4, yp5, lp⟩ := cl6 HP.out
              obtain ⟨yi0, yi1, yi2, yi3, yi4, yi5, yi6, yi7, yi8, yi9, yi10, li⟩ := cl11 HI.out
              obtain ⟨z0, z1, z2, z3, z4, z5, z6, z7, z8, z9, lg⟩ := fz_8 HFL.out
              refine J_mobs [16, 17, 18] _ _ _ _ (by kernel_rfl) ?_
              simp only [List.map_cons, List.map_nil, List.getElem?_toArray, List.getElem?_cons_succ, List.getElem?_cons_zero, Option.getD_some, List.size_toArray, List.length_cons, List.length_nil, Nat.reduceAdd, Nat.reduceSub]
              repeat (go_big_quiet_step (fail))
              refine wpQuiet_nil ?_
              refine J_mobs [19, 20, 21, 22, 23, 24] _ _ _ _ (by kernel_rfl) ?_
              simp only [List.map_cons, List.map_nil, List.getElem?_toArray, List.getElem?_cons_succ, List.getElem?_cons_zero, Option.getD_some, List.size_toArray, List.length_cons, List.length_nil, Nat.reduceAdd, Nat.reduceSub]
              repeat (go_big_quiet_step (fail))
              refine wpQuiet_nil ?_
              have kr40e := Lib.hid (ER.out rb false)
              have kr40f : Hid (regF p rb false = regF p rb false) := rfl
              cases kr40 : regF p rb false
              · rw [kr40] at kr40e
                refine J_loud1 25 _ rfl (by kernel_rfl) ?_
                simp only [List.getElem_toArray, List.getElem_cons_succ, List.getElem_cons_zero]
                intro wj hj
                go_wp2_with fail
                refine (kr40e.out wj (Ext.below (BC.out.trans (hj.mono BC.out.size)))).mono ?_
                rintro e w2 ⟨rfl, hq2⟩
                go_wp2_with fail
                refine ⟨KeepX.below hq2, ?_⟩
                have hb2 := hj.trans (hq2.mono hj.size)
                clear hq2 hj
                have HM := Lib.hid ((hb2.block _ lm).trans HM.out)
                have HP := Lib.hid ((hb2.block _ lp).trans HP.out)
                have HI := Lib.hid ((hb2.block _ li).trans HI.out)
                have HFL := Lib.hid (HFL.out.ext (Ext.below hb2))
                have BC := Lib.hid (BC.out.trans (hb2.mono BC.out.size))
                clear hb2
                clear ym0 ym2 yp0 yp1 yp2 yp3 yp4 yp5 yi0 yi1 yi2 yi3 yi4 yi5 yi6 yi7 yi8 yi9 yi10 z0 z1 z2 z3 z4 z5 z6 z7 z8 z9
                obtain ⟨ym0, -, ym2, -, lm⟩ := cl4 HM.out
                obtain ⟨yp0, yp1, yp2, yp3, yp4, yp5, lp⟩ := cl6 HP.out
                obtain ⟨yi0, yi1, yi2, yi3, yi4, yi5, yi6, yi7, yi8, yi9, yi10, li⟩ := cl11 HI.out
                obtain ⟨z0, z1, z2, z3, z4, z5, z6, z7, z8, z9, lg⟩ := fz_8 HFL.out
                refine J_mobs [26, 27] _ _ _ _ (by kernel_rfl) ?_
                simp only [List.map_cons, List.map_nil, List.getElem?_toArray, List.getElem?_cons_succ, List.getElem?_cons_zero, Option.getD_some, List.size_toArray, List.length_cons, List.length_nil, Nat.reduceAdd, Nat.reduceSub]
                repeat (go_big_quiet_step (fail))
                refine wpQuiet_nil ?_
                refine J_done (by kernel_rfl) (fun wk hk => ?_) _
                have HM := Lib.hid ((hk.block _ lm).trans HM.out)
                have HP := Lib.hid ((hk.block _ lp).trans HP.out)
                have HI := Lib.hid ((hk.block _ li).trans HI.out)
                have HFL := Lib.hid (HFL.out.ext (Ext.below hk))
                have BC := Lib.hid (BC.out.trans (hk.mono BC.out.size))
                clear hk
                clear ym0 ym2 yp0 yp1 yp2 yp3 yp4 yp5 yi0 yi1 yi2 yi3 yi4 yi5 yi6 yi7 yi8 yi9 yi10 z0 z1 z2 z3 z4 z5 z6 z7 z8 z9
                obtain ⟨ym0, -, ym2, -, lm⟩ := cl4 HM.out
                obtain ⟨yp0, yp1, yp2, yp3, yp4, yp5, lp⟩ := cl6 HP.out
                obtain ⟨yi0, yi1, yi2, yi3, yi4, yi5, yi6, yi7, yi8, yi9, yi10, li⟩ := cl11 HI.out
                obtain ⟨z0, z1, z2, z3, z4, z5, z6, z7, z8, z9, lg⟩ := fz_8 HFL.out
                have HV2 : Hid (V = false) := by
                  show _ = _
                  rw [HF.out]
                  simp [*]
                clear HF
                go_wp2_with fail
                go_ret
                exact ⟨ret_b HV2.out.symm, BC.out⟩
              · rw [kr40] at kr40e
                refine J_loud1 25 _ rfl (by kernel_rfl) ?_
                simp only [List.getElem_toArray, List.getElem_cons_succ, List.getElem_cons_zero]
                intro wj hj
                go_wp2_with fail
                refine (kr40e.out wj (Ext.below (BC.out.trans (hj.mono BC.out.size)))).mono ?_
                rintro e w2 ⟨rfl, hq2⟩
                go_wp2_with fail
                refine ⟨KeepX.below hq2, ?_⟩
                have hb2 := hj.trans (hq2.mono hj.size)
                clear hq2 hj
                have HM := Lib.hid ((hb2.block _ lm).trans HM.out)
                have HP := Lib.hid ((hb2.block _ lp).trans HP.out)
                have HI := Lib.hid ((hb2.block _ li).trans HI.out)
                have HFL := Lib.hid (HFL.out.ext (Ext.below hb2))
                have BC := Lib.hid (BC.out.trans (hb2.mono BC.out.size))
                clear hb2
                clear ym0 ym2 yp0 yp1 yp2 yp3 yp4 yp5 yi0 yi1 yi2 yi3 yi4 yi5 yi6 yi7 yi8 yi9 yi10 z0 z1 z2 z3 z4 z5 z6 z7 z8 z9
                obtain ⟨ym0, -, ym2, -, lm⟩ := cl4 HM.out
                obtain ⟨yp0, yp1, yp2, yp3, yp4, yp5, lp⟩ := cl6 HP.out
                obtain ⟨yi0, yi1, yi2, yi3, yi4, yi5, yi6, yi7, yi8, yi9, yi10, li⟩ := cl11 HI.out
                obtain ⟨z0, z1, z2, z3, z4, z5, z6, z7, z8, z9, lg⟩ := fz_8 HFL.out
                refine J_mobs [26, 27] _ _ _ _ (by kernel_rfl) ?_
                simp only [List.map_cons, List.map_nil, List.getElem?_toArray, List.getElem?_cons_succ, List.getElem?_cons_zero, Option.getD_some, List.size_toArray, List.length_cons, List.length_nil, Nat.reduceAdd, Nat.reduceSub]
                repeat (go_big_quiet_step (fail))
                refine wpQuiet_nil ?_
                refine J_done (by kernel_rfl) (fun wk hk => ?_) _
                have HM := Lib.hid ((hk.block _ lm).trans HM.out)
                have HP := Lib.hid ((hk.block _ lp).trans HP.out)
                have HI := Lib.hid ((hk.block _ li).trans HI.out)
                have HFL := Lib.hid (HFL.out.ext (Ext.below hk))
                have BC := Lib.hid (BC.out.trans (hk.mono BC.out.size))
                clear hk
                clear ym0 ym2 yp0 yp1 yp2 yp3 yp4 yp5 yi0 yi1 yi2 yi3 yi4 yi5 yi6 yi7 yi8 yi9 yi10 z0 z1 z2 z3 z4 z5 z6 z7 z8 z9
                obtain ⟨ym0, -, ym2, -, lm⟩ := cl4 HM.out
                obtain ⟨yp0, yp1, yp2, yp3, yp4, yp5, lp⟩ := cl6 HP.out
                obtain ⟨yi0, yi1, yi2, yi3, yi4, yi5, yi6, yi7, yi8, yi9, yi10, li⟩ := cl11 HI.out
                obtain ⟨z0, z1, z2, z3, z4, z5, z6, z7, z8, z9, lg⟩ := fz_8 HFL.out
                by_cases k41 : -32768 ≤ off
                · have gk41 : decide (-32768 ≤ off) = true := decide_eq_true k41
                  have gl41 : decide (off < -32768) = false := decide_eq_false (by omega)
                  by_cases k42 : off ≤ 32768
                  · have gk42 : decide (off ≤ 32768) = true := decide_eq_true k42
                    have gl42 : decide (32768 < off) = false := decide_eq_false (by omega)
                    by_cases k43 : 0 ≤ obj
                    · have gk43 : decide (0 ≤ obj) = true := decide_eq_true k43
                      have gl43 : decide (obj < 0) = false := decide_eq_false (by omega)
                      by_cases k44 : obj < (m.globs.length : Int)
                      · have gk44 : decide (obj < (m.globs.length : Int)) = true := decide_eq_true k44
                        have HV2 : Hid (V = true) := by
                          show _ = _
                          rw [HF.out]
                          simp [*]
                        clear HF
                        go_wp2_with fail
                        go_ret
                        exact ⟨ret_b HV2.out.symm, BC.out⟩
                      · have gk44 : decide (obj < (m.globs.length : Int)) = false := decide_eq_false k44
                        have HV2 : Hid (V = false) := by
                          show _ = _
                          rw [HF.out]
                          simp [*]
                        clear HF
                        go_wp2_with fail
                        go_ret
                        exact ⟨ret_b HV2.out.symm, BC.out⟩
                    · have gk43 : decide (0 ≤ obj) = false := decide_eq_false k43
                      have gl43 : decide (obj < 0) = true := decide_eq_true (by omega)
                      have HV2 : Hid (V = false) := by
                        show _ = _
                        rw [HF.out]
                        simp [*]
                      clear HF
                      go_wp2_with fail
                      go_ret
                      exact ⟨ret_b HV2.out.symm, BC.out⟩
                  · have gk42 : decide (off ≤ 32768) = false := decide_eq_false k42
                    have gl42 : decide (32768 < off) = true := decide_eq_true (by omega)
                    have HV2 : Hid (V = false) := by
                      show _ = _
                      rw [HF.out]
                      simp [*]
                    clear HF
                    go_wp2_with fail
                    go_ret
                    exact ⟨ret_b HV2.out.symm, BC.out⟩
                · have gk41 : decide (-32768 ≤ off) = false := decide_eq_false k41
                  have gl41 : decide (off < -32768) = true := decide_eq_true (by omega)
                  have HV2 : Hid (V = false) := by
                    show _ = _
                    rw [HF.out]
                    simp [*]
                  clear HF
                  go_wp2_with fail
                  go_ret
                  exact ⟨ret_b HV2.out.symm, BC.out⟩
        · have ga1 : decide ((0 : Int) < (args.length : Int)) = true := decide_eq_true (by omega)
          have ga2 : decide (0 < args.length) = true := decide_eq_true (by omega)
          have ga3 : decide (args.length = 0) = false := decide_eq_false ka
          refine wp_region_text (by kernel_rfl) ?_
          simp only [List.append_eq, List.cons_append, List.nil_append]
          repeat (go_big_quiet_step (fail))
          refine wpQuiet_nil ?_
          have HV2 : Hid (V = false) := by
            show _ = _
            rw [HF.out]
            simp [*]
          clear HF
          go_wp2_with fail
          go_ret
          exact ⟨ret_b HV2.out.symm, BC.out⟩
      · have gk37 : (num == 0) = false := beq_eq_false_iff_ne.2 k37
        have gn37 : (num != 0) = true := bne_iff_ne.2 k37
        have kh37 := Lib.hid k37
        clear k37
        refine wp_region_text (by kernel_rfl) ?_
        simp only [List.append_eq, List.cons_append, List.nil_append]
        repeat (go_big_quiet_step (fail))
        refine wpQuiet_nil ?_
        have HV2 : Hid (V = false) := by
          show _ = _
          rw [HF.out]
          simp [*]
        clear HF
        go_wp2_with fail
        go_ret
        exact ⟨ret_b HV2.out.symm, BC.out⟩
    · have gk36 : (size == 0) = false := beq_eq_false_iff_ne.2 k36
      have gn36 : (size != 0) = true := bne_iff_ne.2 k36
      have kh36 := Lib.hid k36
      clear k36
      refine wp_region_text (by kernel_rfl) ?_
      simp only [List.append_eq, List.cons_append, List.nil_append]
      repeat (go_big_quiet_step (fail))
      refine wpQuiet_nil ?_
      have HV2 : Hid (V = false) := by
        show _ = _
        rw [HF.out]
        simp [*]
      clear HF
      go_wp2_with fail
      go_ret
      exact ⟨ret_b HV2.out.symm, BC.out⟩
  · have gk35 : (fn == 0) = false := beq_eq_false_iff_ne.2 k35
    have gn35 : (fn != 0) = true := bne_iff_ne.2 k35
    have kh35 := Lib.hid k35
    clear k35
    refine wp_region_text (by kernel_rfl) ?_
    simp only [List.append_eq, List.cons_append, List.nil_append]
    repeat (go_big_quiet_step (fail))
    refine wpQuiet_nil ?_
    have HV2 : Hid (V = false) := by
      show _ = _
      rw [HF.out]
      simp [*]
    clear HF
    go_wp2_with fail
    go_ret
    exact ⟨ret_b HV2.out.symm, BC.out⟩
end Go.Proofs.YtnnhobbabcfogaaDoor
