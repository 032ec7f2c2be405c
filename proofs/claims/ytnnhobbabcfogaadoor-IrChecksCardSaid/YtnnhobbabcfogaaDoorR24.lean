/-
  The document's judgement of instructions, calls.
-/
import Derived.Test.YtnnhobbabcfogaaDoorR20
import Derived.Test.YtnnhobbabcfogaaDoorF4
import Derived.Test.YtnnhobbabcfogaaDoorE7
import Derived.Test.YtnnhobbabcfogaaDoorC4
import Derived.Test.YtnnhobbabcfogaaDoorC9
import Derived.Test.YtnnhobbabcfogaaDoorN2
set_option linter.all false
namespace Go.Proofs.YtnnhobbabcfogaaDoor
open Go.ChangeShapes Go.WideShapes Go.ChangeAt Go.RowKit
set_option maxHeartbeats 8000000
set_option linter.unusedVariables false
set_option maxRecDepth 100000

theorem okI_9 (m : Md) (p : Pr) (d ra rb fn obj off size num : Int) (args : List Int) (log : Bool) : okI m p ⟨9, d, ra, rb, fn, obj, off, size, num, args, log⟩ = ((fn == 0) && ((off == 0) && ((size == 0) && ((num == 0) && (decide (0 ≤ obj) && (decide (obj < (m.procs.length : Int)) && (decide ((args.length : Int) = (m.procs.getD obj.toNat default).params) && (regF p d (!(m.procs.getD obj.toNat default).void) && ((args.all fun r => regF p r true) && ((ra == -1) && ((rb == -1) && (!log || d != -1)))))))))))) := by
  have e : okI m p ⟨9, d, ra, rb, fn, obj, off, size, num, args, log⟩ = (((fn == 0) && ((off == 0) && ((size == 0) && ((num == 0) && (!log || d != -1))))) && ((decide (0 ≤ obj) && (decide (obj < (m.procs.length : Int)) && (decide ((args.length : Int) = (m.procs.getD obj.toNat default).params) && (regF p d (!(m.procs.getD obj.toNat default).void) && args.all fun r => regF p r true)))) && ((ra == -1) && (rb == -1)))) := by
    have e1 : bareF ⟨9, d, ra, rb, fn, obj, off, size, num, args, log⟩ = ((fn == 0) && ((off == 0) && ((size == 0) && ((num == 0) && (!log || d != -1))))) := by
      by_cases hd : d = -1
      · subst hd; simp [bareF, plainI, defI]
      · have : (d != -1) = true := bne_iff_ne.2 hd
        simp [bareF, plainI, defI, hd, this]
    have e2 : okI m p ⟨9, d, ra, rb, fn, obj, off, size, num, args, log⟩ = (bareF ⟨9, d, ra, rb, fn, obj, off, size, num, args, log⟩ && (callF m p ⟨9, d, ra, rb, fn, obj, off, size, num, args, log⟩ && (regF p ra false && regF p rb false))) := rfl
    rw [e2, e1]
    rfl
  rw [e]
  generalize (fn == 0) = b1
  generalize (off == 0) = b2
  generalize (size == 0) = b3
  generalize (num == 0) = b4
  generalize (!log || d != -1) = b5
  generalize decide (0 ≤ obj) = b6
  generalize decide (obj < (m.procs.length : Int)) = b7
  generalize decide ((args.length : Int) = (m.procs.getD obj.toNat default).params) = b8
  generalize regF p d (!(m.procs.getD obj.toNat default).void) = b9
  generalize (args.all fun r => regF p r true) = b10
  generalize (ra == -1) = b11
  generalize (rb == -1) = b12
  ac_rfl
theorem fz_9 {w : World} {g : Nat} (h : FldAt w 9 g) : w.cell? ⟨g, 0, none⟩ = some (.bool true) ∧ w.cell? ⟨g, 1, none⟩ = some (.bool false) ∧ w.cell? ⟨g, 2, none⟩ = some (.bool false) ∧ w.cell? ⟨g, 3, none⟩ = some (.bool false) ∧ w.cell? ⟨g, 4, none⟩ = some (.bool true) ∧ w.cell? ⟨g, 5, none⟩ = some (.bool false) ∧ w.cell? ⟨g, 6, none⟩ = some (.bool false) ∧ w.cell? ⟨g, 7, none⟩ = some (.bool false) ∧ w.cell? ⟨g, 8, none⟩ = some (.bool true) ∧ w.cell? ⟨g, 9, none⟩ = some (.bool true) ∧ g < w.heap.size := ⟨h.c0, h.c1, h.c2, h.c3, h.c4, h.c5, h.c6, h.c7, h.c8, h.c9, h.lt⟩
theorem rins_9 (m : Md) (p : Pr) (v V0 : Value) (d ra rb fn obj off size num : Int) (args : List Int) (log : Bool) (va : Value) (w : World) (hm : MdV w v m) (hp : PrV w V0 p) (hva : RdI w va args) (h0 : 0 ≤ p.regs) (h1 : p.regs ≤ 100000) :
    Calls Tryd.prog 41 #[v, V0, .agg #[.int .i64 9, .int .i64 d, .int .i64 ra, .int .i64 rb, .int .i64 fn, .int .i64 obj, .int .i64 off, .int .i64 size, .int .u32 num, va, .bool log]] w fun e w' => e = .returned (.bool (okI m p ⟨9, d, ra, rb, fn, obj, off, size, num, args, log⟩)) ∧ Below w.heap.size w w' := by
  obtain ⟨V, hV⟩ : ∃ V, okI m p ⟨9, d, ra, rb, fn, obj, off, size, num, args, log⟩ = V := ⟨_, rfl⟩
  rw [hV]
  have HF := Lib.hid (hV.symm.trans (okI_9 m p d ra rb fn obj off size num args log))
  clear hV
  have ER : Hid (∀ r s w', Ext w w' → Calls Tryd.prog 63 #[V0, .int .i64 r, .bool s] w' fun e w'' => e = .returned (.bool (regF p r s)) ∧ Below w'.heap.size w' w'') := fun r s w' he => rregister_c p V0 r s w' (hp.ext he) h0 h1
  obtain ⟨aa, ca, rfl, ha1, ha2, -⟩ := id hva
  have HAT := Lib.hid (RdI.at' hva).2
  obtain ⟨nm, vo, vb, rfl, ⟨ao, co, rfl, -, hco, -⟩, ⟨ab, cb, rfl, -, hcb, -⟩⟩ := hp
  obtain ⟨vg, vd, vp, rfl, ⟨ag, cg, rfl, hcg1, hcg, -⟩, ⟨ad, cd, rfl, -⟩, hps⟩ := hm
  obtain ⟨ap, cp, rfl, hcp1, hcp, -⟩ := id hps
  have HPS := Lib.hid (RdPrs.at6 hps).2
  clear hps hva
  unfold maxLen at hco hcb hcg hcp ha2
  have EF := Lib.hid (fun w => fields_c 9 w (by decide) (by decide))
  go_enter Tryd.func41, Tryd.ntmps41
  go_wp2_with fail
  refine (EF.out _).mono ?_
  rintro e w1 ⟨g, rfl, hg, hf, hb⟩
  have HM : Hid (w1.heap[w.heap.size]? = some (.cells #[.slice ag m.globs.length cg, .slice ad m.data.length cd, .slice ap m.procs.length cp, .int .i64 m.main] 26 (0, 0))) := (hb.block w.heap.size (by simp <;> omega)).trans (allocs_heap [.cells #[.slice ag m.globs.length cg, .slice ad m.data.length cd, .slice ap m.procs.length cp, .int .i64 m.main] 26, .cells #[.string nm, .bool p.void, .int .i64 p.params, .int .i64 p.regs, .slice ao p.objs.length co, .slice ab p.blks.length cb] 37, .cells #[.int .i64 9, .int .i64 d, .int .i64 ra, .int .i64 rb, .int .i64 fn, .int .i64 obj, .int .i64 off, .int .i64 size, .int .u32 num, .slice aa args.length ca, .bool log] 45] w 0 (by simp))
  have HP : Hid (w1.heap[w.heap.size + 1]? = some (.cells #[.string nm, .bool p.void, .int .i64 p.params, .int .i64 p.regs, .slice ao p.objs.length co, .slice ab p.blks.length cb] 37 (0, 0))) := (hb.block (w.heap.size + 1) (by simp <;> omega)).trans (allocs_heap [.cells #[.slice ag m.globs.length cg, .slice ad m.data.length cd, .slice ap m.procs.length cp, .int .i64 m.main] 26, .cells #[.string nm, .bool p.void, .int .i64 p.params, .int .i64 p.regs, .slice ao p.objs.length co, .slice ab p.blks.length cb] 37, .cells #[.int .i64 9, .int .i64 d, .int .i64 ra, .int .i64 rb, .int .i64 fn, .int .i64 obj, .int .i64 off, .int .i64 size, .int .u32 num, .slice aa args.length ca, .bool log] 45] w 1 (by simp))
  have HI : Hid (w1.heap[w.heap.size + 1 + 1]? = some (.cells #[.int .i64 9, .int .i64 d, .int .i64 ra, .int .i64 rb, .int .i64 fn, .int .i64 obj, .int .i64 off, .int .i64 size, .int .u32 num, .slice aa args.length ca, .bool log] 45 (0, 0))) := (hb.block (w.heap.size + 1 + 1) (by simp <;> omega)).trans (allocs_heap [.cells #[.slice ag m.globs.length cg, .slice ad m.data.length cd, .slice ap m.procs.length cp, .int .i64 m.main] 26, .cells #[.string nm, .bool p.void, .int .i64 p.params, .int .i64 p.regs, .slice ao p.objs.length co, .slice ab p.blks.length cb] 37, .cells #[.int .i64 9, .int .i64 d, .int .i64 ra, .int .i64 rb, .int .i64 fn, .int .i64 obj, .int .i64 off, .int .i64 size, .int .u32 num, .slice aa args.length ca, .bool log] 45] w 2 (by simp))
  have HFL := Lib.hid hf
  have BC : Hid (Below w.heap.size w w1) := below3c hb
  clear hg hf hb
  obtain ⟨ym0, -, ym2, -, lm⟩ := cl4 HM.out
  obtain ⟨yp0, yp1, yp2, yp3, yp4, yp5, lp⟩ := cl6 HP.out
  obtain ⟨yi0, yi1, yi2, yi3, yi4, yi5, yi6, yi7, yi8, yi9, yi10, li⟩ := cl11 HI.out
  obtain ⟨z0, z1, z2, z3, z4, z5, z6, z7, z8, z9, lg⟩ := fz_9 HFL.out
  go_upto_region 4 with (fail)
  by_cases k1 : fn = 0
  · have gk1 : (fn == 0) = true := beq_iff_eq.2 k1
    have gn1 : (fn != 0) = false := bne_eq_false_iff_eq.2 k1
    have kh1 := Lib.hid k1
    clear k1
    by_cases k2 : off = 0
    · have gk2 : (off == 0) = true := beq_iff_eq.2 k2
      have gn2 : (off != 0) = false := bne_eq_false_iff_eq.2 k2
      have kh2 := Lib.hid k2
      clear k2
      by_cases k3 : size = 0
      · have gk3 : (size == 0) = true := beq_iff_eq.2 k3
        have gn3 : (size != 0) = false := bne_eq_false_iff_eq.2 k3
        have kh3 := Lib.hid k3
        clear k3
        by_cases k4 : num = 0
        · have gk4 : (num == 0) = true := beq_iff_eq.2 k4
          have gn4 : (num != 0) = false := bne_eq_false_iff_eq.2 k4
          have kh4 := Lib.hid k4
          clear k4
          by_cases k5 : 0 ≤ obj
          · have gk5 : decide (0 ≤ obj) = true := decide_eq_true k5
            have gl5 : decide (obj < 0) = false := decide_eq_false (by omega)
            by_cases k6 : obj < (m.procs.length : Int)
            · have gk6 : decide (obj < (m.procs.length : Int)) = true := decide_eq_true k6
              have gl6 : decide ((m.procs.length : Int) ≤ obj) = false := decide_eq_false (by omega)
              obtain ⟨no, rfl⟩ := Int.eq_ofNat_of_zero_le (show 0 ≤ obj by assumption)
              have hno : no < m.procs.length := by omega
              have gno1 : decide (m.procs.length ≤ no) = false := decide_eq_false (by omega)
              have gno2 : decide ((m.procs.length : Int) ≤ (no : Int)) = false := decide_eq_false (by omega)
              have gno3 : decide ((no : Int) < 0) = false := decide_eq_false (by omega)
              obtain ⟨bp, op, tnm, tvo, tvb, hap, -, -, -, t1, t2, -, -, -⟩ := HPS.out no hno
              subst hap
              replace t1 := Ext.below BC.out _ _ t1
              replace t2 := Ext.below BC.out _ _ t2
              have lbp : bp < w1.heap.size := World.block_lt_of_cell? w1 _ t1
              rw [Int.toNat_natCast] at HF
              generalize (m.procs.getD no default).params = Tp at *
              generalize (m.procs.getD no default).void = Tv at *
              by_cases k7 : (args.length : Int) = Tp
              · have gk7 : ((args.length : Int) == Tp) = true := beq_iff_eq.2 k7
                have gn7 : ((args.length : Int) != Tp) = false := bne_eq_false_iff_eq.2 k7
                have kh7 := Lib.hid k7
                clear k7
                refine wp_region_text (by kernel_rfl) ?_
                simp only [List.append_eq, List.cons_append, List.nil_append]
                repeat (go_big_quiet_step (fail))
                refine wpQuiet_nil ?_
                go_wp2_with fail
                refine wp_region_junk (fun _ => True) (by kernel_rfl) ?_
                have kr8e := Lib.hid (ER.out d (!Tv))
                cases kr8 : regF p d (!Tv)
                · rw [kr8] at kr8e
                  refine J_mobs [0, 1, 2, 3, 4, 5, 6, 7, 8, 9, 10, 11, 12, 13, 14, 15, 16, 17, 18, 19, 20, 21, 22, 23, 24, 25, 26, 27, 28, 29, 30, 31, 32, 33, 34, 35] _ _ _ _ (by kernel_rfl) ?_
                  simp only [List.map_cons, List.map_nil, List.getElem?_toArray, List.getElem?_cons_succ, List.getElem?_cons_zero, Option.getD_some, List.size_toArray, List.length_cons, List.length_nil, Nat.reduceAdd, Nat.reduceSub]
                  repeat (go_big_quiet_step (fail))
                  refine wpQuiet_nil ?_
                  refine J_loud1 36 _ rfl (by kernel_rfl) ?_
                  simp only [List.getElem_toArray, List.getElem_cons_succ, List.getElem_cons_zero]
                  intro wj hj
                  go_wp2_with fail
                  refine (kr8e.out wj (Ext.below (BC.out.trans (hj.mono BC.out.size)))).mono ?_
                  rintro e w2 ⟨rfl, hq2⟩
                  go_wp2_with fail
                  refine ⟨KeepX.below hq2, ?_⟩
                  have hb2 := hj.trans (hq2.mono hj.size)
                  clear hq2 hj
                  have HM := Lib.hid ((hb2.block _ lm).trans HM.out)
                  have HP := Lib.hid ((hb2.block _ lp).trans HP.out)
                  have HI := Lib.hid ((hb2.block _ li).trans HI.out)
                  have HFL := Lib.hid (HFL.out.ext (Ext.below hb2))
                  have BC := Lib.hid (BC.out.trans (hb2.mono BC.out.size))
                  clear hb2
                  clear ym0 ym2 yp0 yp1 yp2 yp3 yp4 yp5 yi0 yi1 yi2 yi3 yi4 yi5 yi6 yi7 yi8 yi9 yi10 z0 z1 z2 z3 z4 z5 z6 z7 z8 z9
                  obtain ⟨ym0, -, ym2, -, lm⟩ := cl4 HM.out
                  obtain ⟨yp0, yp1, yp2, yp3, yp4, yp5, lp⟩ := cl6 HP.out
                  obtain ⟨yi0, yi1, yi2, yi3, yi4, yi5, yi6, yi7, yi8, yi9, yi10, li⟩ := cl11 HI.out
                  obtain ⟨z0, z1, z2, z3, z4, z5, z6, z7, z8, z9, lg⟩ := fz_9 HFL.out
                  refine J_mobs [37, 38] _ _ _ _ (by kernel_rfl) ?_
                  simp only [List.map_cons, List.map_nil, List.getElem?_toArray, List.getElem?_cons_succ, List.getElem?_cons_zero, Option.getD_some, List.size_toArray, List.length_cons, List.length_nil, Nat.reduceAdd, Nat.reduceSub]
                  repeat (go_big_quiet_step (fail))
                  refine wpQuiet_nil ?_
                  refine J_done (by kernel_rfl) (fun wk hk => ?_) _
                  have HM := Lib.hid ((hk.block _ lm).trans HM.out)
                  have HP := Lib.hid ((hk.block _ lp).trans HP.out)
                  have HI := Lib.hid ((hk.block _ li).trans HI.out)
                  have HFL := Lib.hid (HFL.out.ext (Ext.below hk))
                  have BC := Lib.hid (BC.out.trans (hk.mono BC.out.size))
                  clear hk
                  clear ym0 ym2 yp0 yp1 yp2 yp3 yp4 yp5 yi0 yi1 yi2 yi3 yi4 yi5 yi6 yi7 yi8 yi9 yi10 z0 z1 z2 z3 z4 z5 z6 z7 z8 z9
                  obtain ⟨ym0, -, ym2, -, lm⟩ := cl4 HM.out
                  obtain ⟨yp0, yp1, yp2, yp3, yp4, yp5, lp⟩ := cl6 HP.out
                  obtain ⟨yi0, yi1, yi2, yi3, yi4, yi5, yi6, yi7, yi8, yi9, yi10, li⟩ := cl11 HI.out
                  obtain ⟨z0, z1, z2, z3, z4, z5, z6, z7, z8, z9, lg⟩ := fz_9 HFL.out
                  have HV2 : Hid (V = false) := by
                    show _ = _
                    rw [HF.out]
                    rw [kr8]; simp only [Bool.false_and, Bool.and_false]
                  clear HF
                  go_wp2_with fail
                  go_ret
                  exact ⟨ret_b HV2.out.symm, BC.out⟩
                · rw [kr8] at kr8e
                  refine J_mobs [0, 1, 2, 3, 4, 5, 6, 7, 8, 9, 10, 11, 12, 13, 14, 15, 16, 17, 18, 19, 20, 21, 22, 23, 24, 25, 26, 27, 28, 29, 30, 31, 32, 33, 34, 35] _ _ _ _ (by kernel_rfl) ?_
                  simp only [List.map_cons, List.map_nil, List.getElem?_toArray, List.getElem?_cons_succ, List.getElem?_cons_zero, Option.getD_some, List.size_toArray, List.length_cons, List.length_nil, Nat.reduceAdd, Nat.reduceSub]
                  repeat (go_big_quiet_step (fail))
                  refine wpQuiet_nil ?_
                  refine J_loud1 36 _ rfl (by kernel_rfl) ?_
                  simp only [List.getElem_toArray, List.getElem_cons_succ, List.getElem_cons_zero]
                  intro wj hj
                  go_wp2_with fail
                  refine (kr8e.out wj (Ext.below (BC.out.trans (hj.mono BC.out.size)))).mono ?_
                  rintro e w2 ⟨rfl, hq2⟩
                  go_wp2_with fail
                  refine ⟨KeepX.below hq2, ?_⟩
                  have hb2 := hj.trans (hq2.mono hj.size)
                  clear hq2 hj
                  have HM := Lib.hid ((hb2.block _ lm).trans HM.out)
                  have HP := Lib.hid ((hb2.block _ lp).trans HP.out)
                  have HI := Lib.hid ((hb2.block _ li).trans HI.out)
                  have HFL := Lib.hid (HFL.out.ext (Ext.below hb2))
                  have BC := Lib.hid (BC.out.trans (hb2.mono BC.out.size))
                  clear hb2
                  clear ym0 ym2 yp0 yp1 yp2 yp3 yp4 yp5 yi0 yi1 yi2 yi3 yi4 yi5 yi6 yi7 yi8 yi9 yi10 z0 z1 z2 z3 z4 z5 z6 z7 z8 z9
                  obtain ⟨ym0, -, ym2, -, lm⟩ := cl4 HM.out
                  obtain ⟨yp0, yp1, yp2, yp3, yp4, yp5, lp⟩ := cl6 HP.out
                  obtain ⟨yi0, yi1, yi2, yi3, yi4, yi5, yi6, yi7, yi8, yi9, yi10, li⟩ := cl11 HI.out
                  obtain ⟨z0, z1, z2, z3, z4, z5, z6, z7, z8, z9, lg⟩ := fz_9 HFL.out
                  refine J_mobs [37, 38] _ _ _ _ (by kernel_rfl) ?_
                  simp only [List.map_cons, List.map_nil, List.getElem?_toArray, List.getElem?_cons_succ, List.getElem?_cons_zero, Option.getD_some, List.size_toArray, List.length_cons, List.length_nil, Nat.reduceAdd, Nat.reduceSub]
                  repeat (go_big_quiet_step (fail))
                  refine wpQuiet_nil ?_
                  refine J_done (by kernel_rfl) (fun wk hk => ?_) _
                  have HM := Lib.hid ((hk.block _ lm).trans HM.out)
                  have HP := Lib.hid ((hk.block _ lp).trans HP.out)
                  have HI := Lib.hid ((hk.block _ li).trans HI.out)
                  have HFL := Lib.hid (HFL.out.ext (Ext.below hk))
                  have BC := Lib.hid (BC.out.trans (hk.mono BC.out.size))
                  clear hk
                  clear ym0 ym2 yp0 yp1 yp2 yp3 yp4 yp5 yi0 yi1 yi2 yi3 yi4 yi5 yi6 yi7 yi8 yi9 yi10 z0 z1 z2 z3 z4 z5 z6 z7 z8 z9
                  obtain ⟨ym0, -, ym2, -, lm⟩ := cl4 HM.out
                  obtain ⟨yp0, yp1, yp2, yp3, yp4, yp5, lp⟩ := cl6 HP.out
                  obtain ⟨yi0, yi1, yi2, yi3, yi4, yi5, yi6, yi7, yi8, yi9, yi10, li⟩ := cl11 HI.out
                  obtain ⟨z0, z1, z2, z3, z4, z5, z6, z7, z8, z9, lg⟩ := fz_9 HFL.out
                  clear t1 t2 lbp
                  have HTP : Hid (decide ((args.length : Int) = Tp) = true) := decide_eq_true (‹Hid ((args.length : Int) = Tp)›).out
                  have HF : Hid (V = ((args.all fun r => regF p r true) && ((ra == -1) && ((rb == -1) && (!log || d != -1))))) := by
                    show _ = _
                    rw [HF.out, HTP.out, ‹regF p d (!Tv) = true›, ‹decide (0 ≤ (no : Int)) = true›, ‹decide ((no : Int) < (m.procs.length : Int)) = true›, ‹(fn == 0) = true›, ‹(off == 0) = true›, ‹(size == 0) = true›, ‹(num == 0) = true›]
                    simp only [Bool.true_and]
                  obtain ⟨wb, rfl⟩ : ∃ wb : World, wb = wk := ⟨_, rfl⟩
                  have BB : Hid (Below wb.heap.size wb wb) := Below.refl _ _
                  clear ym0 ym2 yp0 yp1 yp2 yp3 yp4 yp5 yi0 yi1 yi2 yi3 yi4 yi5 yi6 yi7 yi8 yi9 yi10 z0 z1 z2 z3 z4 z5 z6 z7 z8 z9
                  go_wp2_with fail
                  go_loopw [8] (fun i wr => ∃ k : Nat, k ≤ args.length ∧ i = .int .i64 (k : Int) ∧ Hid (Below wb.heap.size wb wr) ∧ Hid ((args.take k).all (fun r => regF p r true) = true)) (fun i _ => args.length - (intOf i).toNat)
                  case atStart => exact ⟨0, Nat.zero_le _, rfl, BB, show _ = _ by simp⟩
                  case round =>
                    obtain ⟨k, hk, rfl, B, HA⟩ := hrel
                    have HM := Lib.hid ((B.out.block _ lm).trans HM.out)
                    have HP := Lib.hid ((B.out.block _ lp).trans HP.out)
                    have HI := Lib.hid ((B.out.block _ li).trans HI.out)
                    have HFL := Lib.hid (HFL.out.ext (Ext.below B.out))
                    have BC := Lib.hid (BC.out.trans (B.out.mono BC.out.size))
                    obtain ⟨ym0, -, ym2, -, lm⟩ := cl4 HM.out
                    obtain ⟨yp0, yp1, yp2, yp3, yp4, yp5, lp⟩ := cl6 HP.out
                    obtain ⟨yi0, yi1, yi2, yi3, yi4, yi5, yi6, yi7, yi8, yi9, yi10, li⟩ := cl11 HI.out
                    obtain ⟨z0, z1, z2, z3, z4, z5, z6, z7, z8, z9, lg⟩ := fz_9 HFL.out
                    by_cases hlt : k < args.length
                    · obtain ⟨bx, ox, rfl, hcx⟩ := HAT.out k hlt
                      replace hcx := Ext.below BC.out _ _ hcx
                      have lbx : bx < wr.heap.size := World.block_lt_of_cell? wr _ hcx
                      have HNO : Hid (regF p (args.getD k 0) true = false → (args.all fun r => regF p r true) = false) := fun hh => by
                        rw [List.all_eq_false]
                        exact ⟨args.getD k 0, by simp [List.getD, hlt], by rw [hh]; decide⟩
                      have HYE : Hid (regF p (args.getD k 0) true = true → ((args.take (k + 1)).all fun r => regF p r true) = true) := fun hh => by
                        rw [take_snoc _ k hlt, List.all_append, HA.out]
                        simp only [List.all_cons, List.all_nil, Bool.and_true, Bool.true_and]
                        exact hh
                      have EX := Lib.hid (ER.out (args.getD k 0) true)
                      generalize args.getD k 0 = X at *
                      go_wp2_with fail
                      refine wp_region_junk (fun _ => True) (by kernel_rfl) ?_
                      cases hq : regF p X true
                      · rw [hq] at EX
                        have HN2 := Lib.hid (HNO.out hq)
                        refine J_mobs [0, 1, 2, 3, 4, 5] _ _ _ _ (by kernel_rfl) ?_
                        simp only [List.map_cons, List.map_nil, List.getElem?_toArray, List.getElem?_cons_succ, List.getElem?_cons_zero, Option.getD_some, List.size_toArray, List.length_cons, List.length_nil, Nat.reduceAdd, Nat.reduceSub]
                        repeat (go_big_quiet_step (fail))
                        refine wpQuiet_nil ?_
                        refine J_loud1 6 _ rfl (by kernel_rfl) ?_
                        simp only [List.getElem_toArray, List.getElem_cons_succ, List.getElem_cons_zero]
                        intro wj hj
                        go_wp2_with fail
                        refine (EX.out wj (Ext.below (BC.out.trans (hj.mono BC.out.size)))).mono ?_
                        rintro e w2 ⟨rfl, hq2⟩
                        go_wp2_with fail
                        refine ⟨KeepX.below hq2, ?_⟩
                        have hb2 := hj.trans (hq2.mono hj.size)
                        clear hq2 hj
                        refine J_mobs [7] _ _ _ _ (by kernel_rfl) ?_
                        simp only [List.map_cons, List.map_nil, List.getElem?_toArray, List.getElem?_cons_succ, List.getElem?_cons_zero, Option.getD_some, List.size_toArray, List.length_cons, List.length_nil, Nat.reduceAdd, Nat.reduceSub]
                        repeat (go_big_quiet_step (fail))
                        refine wpQuiet_nil ?_
                        refine J_done (by kernel_rfl) (fun wk hk2 => ?_) _
                        have HB9 := Lib.hid (BC.out.trans ((hb2.trans (hk2.mono hb2.size)).mono BC.out.size))
                        clear hb2 hk2
                        have HV2 : Hid (V = false) := by show _ = _; rw [HF.out, HN2.out]; rfl
                        clear HF
                        clear ym0 ym2 yp0 yp1 yp2 yp3 yp4 yp5 yi0 yi1 yi2 yi3 yi4 yi5 yi6 yi7 yi8 yi9 yi10 z0 z1 z2 z3 z4 z5 z6 z7 z8 z9
                        go_wp2_with fail
                        go_ret
                        exact ⟨ret_b HV2.out.symm, HB9.out⟩
                      · rw [hq] at EX
                        have HY2 := Lib.hid (HYE.out hq)
                        refine J_mobs [0, 1, 2, 3, 4, 5] _ _ _ _ (by kernel_rfl) ?_
                        simp only [List.map_cons, List.map_nil, List.getElem?_toArray, List.getElem?_cons_succ, List.getElem?_cons_zero, Option.getD_some, List.size_toArray, List.length_cons, List.length_nil, Nat.reduceAdd, Nat.reduceSub]
                        repeat (go_big_quiet_step (fail))
                        refine wpQuiet_nil ?_
                        refine J_loud1 6 _ rfl (by kernel_rfl) ?_
                        simp only [List.getElem_toArray, List.getElem_cons_succ, List.getElem_cons_zero]
                        intro wj hj
                        go_wp2_with fail
                        refine (EX.out wj (Ext.below (BC.out.trans (hj.mono BC.out.size)))).mono ?_
                        rintro e w2 ⟨rfl, hq2⟩
                        go_wp2_with fail
                        refine ⟨KeepX.below hq2, ?_⟩
                        have hb2 := hj.trans (hq2.mono hj.size)
                        clear hq2 hj
                        refine J_mobs [7] _ _ _ _ (by kernel_rfl) ?_
                        simp only [List.map_cons, List.map_nil, List.getElem?_toArray, List.getElem?_cons_succ, List.getElem?_cons_zero, Option.getD_some, List.size_toArray, List.length_cons, List.length_nil, Nat.reduceAdd, Nat.reduceSub]
                        repeat (go_big_quiet_step (fail))
                        refine wpQuiet_nil ?_
                        refine J_done (by kernel_rfl) (fun wk hk2 => ?_) _
                        have HB9 := Lib.hid (B.out.trans ((hb2.trans (hk2.mono hb2.size)).mono B.out.size))
                        clear hb2 hk2
                        clear ym0 ym2 yp0 yp1 yp2 yp3 yp4 yp5 yi0 yi1 yi2 yi3 yi4 yi5 yi6 yi7 yi8 yi9 yi10 z0 z1 z2 z3 z4 z5 z6 z7 z8 z9
                        go_wp2_with fail
                        go_round
                        case rel => exact ⟨k + 1, by omega, by go_num, HB9, HY2⟩
                        case measure => first | (simp [intOf]; done) | (simp [intOf]; omega)
                    · obtain rfl : k = args.length := by omega
                      have HF : Hid (V = ((ra == -1) && ((rb == -1) && (!log || d != -1)))) := by
                        show _ = _
                        have := HA.out
                        rw [List.take_length] at this
                        rw [HF.out, this]; rfl
                      by_cases k9 : ra = -1
                      · have gk9 : (ra == -1) = true := beq_iff_eq.2 k9
                        have gn9 : (ra != -1) = false := bne_eq_false_iff_eq.2 k9
                        have kh9 := Lib.hid k9
                        clear k9
                        by_cases k10 : rb = -1
                        · have gk10 : (rb == -1) = true := beq_iff_eq.2 k10
                          have gn10 : (rb != -1) = false := bne_eq_false_iff_eq.2 k10
                          have kh10 := Lib.hid k10
                          clear k10
                          cases log
                          · have HV2 : Hid (V = true) := by
                              show _ = _
                              rw [HF.out]
                              rw [‹(ra == -1) = true›, ‹(rb == -1) = true›]; rfl
                            clear HF
                            go_wp2_with fail
                            go_ret
                            exact ⟨ret_b HV2.out.symm, BC.out⟩
                          · have HV2 : Hid (V = (d != -1)) := by
                              show _ = _
                              rw [HF.out]
                              rw [‹(ra == -1) = true›, ‹(rb == -1) = true›]; rfl
                            clear HF
                            go_wp2_with fail
                            go_ret
                            exact ⟨ret_b HV2.out.symm, BC.out⟩
                        · have gk10 : (rb == -1) = false := beq_eq_false_iff_ne.2 k10
                          have gn10 : (rb != -1) = true := bne_iff_ne.2 k10
                          have kh10 := Lib.hid k10
                          clear k10
                          have HV2 : Hid (V = false) := by
                            show _ = _
                            rw [HF.out]
                            rw [‹(rb == -1) = false›]; simp
                          clear HF
                          go_wp2_with fail
                          go_ret
                          exact ⟨ret_b HV2.out.symm, BC.out⟩
                      · have gk9 : (ra == -1) = false := beq_eq_false_iff_ne.2 k9
                        have gn9 : (ra != -1) = true := bne_iff_ne.2 k9
                        have kh9 := Lib.hid k9
                        clear k9
                        have HV2 : Hid (V = false) := by
                          show _ = _
                          rw [HF.out]
                          rw [‹(ra == -1) = false›]; rfl
                        clear HF
                        go_wp2_with fail
                        go_ret
                        exact ⟨ret_b HV2.out.symm, BC.out⟩
              · have gk7 : ((args.length : Int) == Tp) = false := beq_eq_false_iff_ne.2 k7
                have gn7 : ((args.length : Int) != Tp) = true := bne_iff_ne.2 k7
                have kh7 := Lib.hid k7
                clear k7
                refine wp_region_text (by kernel_rfl) ?_
                simp only [List.append_eq, List.cons_append, List.nil_append]
                repeat (go_big_quiet_step (fail))
                refine wpQuiet_nil ?_
                go_wp2_with fail
                refine wp_region_junk (fun _ => True) (by kernel_rfl) ?_
                refine J_mobs [0, 1, 2, 3, 4, 5, 6, 7, 8, 9, 10, 11, 12, 13, 14, 15, 16, 17, 18, 19, 20, 21, 22, 23, 24, 25, 26, 27, 28, 29, 30, 31, 32, 33, 34, 35] _ _ _ _ (by kernel_rfl) ?_
                simp only [List.map_cons, List.map_nil, List.getElem?_toArray, List.getElem?_cons_succ, List.getElem?_cons_zero, Option.getD_some, List.size_toArray, List.length_cons, List.length_nil, Nat.reduceAdd, Nat.reduceSub]
                repeat (go_big_quiet_step (fail))
                refine wpQuiet_nil ?_
                refine J_loud1 36 _ rfl (by kernel_rfl) ?_
                simp only [List.getElem_toArray, List.getElem_cons_succ, List.getElem_cons_zero]
                intro wj hj
                go_wp2_with fail
                refine ⟨KeepX.refl _ _, ?_⟩
                have HM := Lib.hid ((hj.block _ lm).trans HM.out)
                have HP := Lib.hid ((hj.block _ lp).trans HP.out)
                have HI := Lib.hid ((hj.block _ li).trans HI.out)
                have HFL := Lib.hid (HFL.out.ext (Ext.below hj))
                have BC := Lib.hid (BC.out.trans (hj.mono BC.out.size))
                clear hj
                clear ym0 ym2 yp0 yp1 yp2 yp3 yp4 yp5 yi0 yi1 yi2 yi3 yi4 yi5 yi6 yi7 yi8 yi9 yi10 z0 z1 z2 z3 z4 z5 z6 z7 z8 z9
                obtain ⟨ym0, -, ym2, -, lm⟩ := cl4 HM.out
                obtain ⟨yp0, yp1, yp2, yp3, yp4, yp5, lp⟩ := cl6 HP.out
                obtain ⟨yi0, yi1, yi2, yi3, yi4, yi5, yi6, yi7, yi8, yi9, yi10, li⟩ := cl11 HI.out
                obtain ⟨z0, z1, z2, z3, z4, z5, z6, z7, z8, z9, lg⟩ := fz_9 HFL.out
                refine J_mobs [37, 38] _ _ _ _ (by kernel_rfl) ?_
                simp only [List.map_cons, List.map_nil, List.getElem?_toArray, List.getElem?_cons_succ, List.getElem?_cons_zero, Option.getD_some, List.size_toArray, List.length_cons, List.length_nil, Nat.reduceAdd, Nat.reduceSub]
                repeat (go_big_quiet_step (fail))
                refine wpQuiet_nil ?_
                refine J_done (by kernel_rfl) (fun wk hk => ?_) _
                have HM := Lib.hid ((hk.block _ lm).trans HM.out)
                have HP := Lib.hid ((hk.block _ lp).trans HP.out)
                have HI := Lib.hid ((hk.block _ li).trans HI.out)
                have HFL := Lib.hid (HFL.out.ext (Ext.below hk))
                have BC := Lib.hid (BC.out.trans (hk.mono BC.out.size))
                clear hk
                clear ym0 ym2 yp0 yp1 yp2 yp3 yp4 yp5 yi0 yi1 yi2 yi3 yi4 yi5 yi6 yi7 yi8 yi9 yi10 z0 z1 z2 z3 z4 z5 z6 z7 z8 z9
                obtain ⟨ym0, -, ym2, -, lm⟩ := cl4 HM.out
                obtain ⟨yp0, yp1, yp2, yp3, yp4, yp5, lp⟩ := cl6 HP.out
                obtain ⟨yi0, yi1, yi2, yi3, yi4, yi5, yi6, yi7, yi8, yi9, yi10, li⟩ := cl11 HI.out
                obtain ⟨z0, z1, z2, z3, z4, z5, z6, z7, z8, z9, lg⟩ := fz_9 HFL.out
                have HV2 : Hid (V = false) := by
                  show _ = _
                  rw [HF.out]
                  simp only [decide_eq_false (‹Hid (¬ (args.length : Int) = Tp)›).out, Bool.false_and, Bool.and_false]
                clear HF
                go_wp2_with fail
                go_ret
                exact ⟨ret_b HV2.out.symm, BC.out⟩
            · have gk6 : decide (obj < (m.procs.length : Int)) = false := decide_eq_false k6
              have gl6 : decide ((m.procs.length : Int) ≤ obj) = true := decide_eq_true (by omega)
              refine wp_region_text (by kernel_rfl) ?_
              simp only [List.append_eq, List.cons_append, List.nil_append]
              repeat (go_big_quiet_step (fail))
              refine wpQuiet_nil ?_
              go_wp2_with fail
              refine wp_region_junk (fun _ => True) (by kernel_rfl) ?_
              refine J_mobs [0, 1, 2, 3, 4, 5, 6, 7, 8, 9, 10, 11, 12, 13, 14, 15, 16, 17, 18, 19, 20, 21, 22, 23, 24, 25, 26, 27, 28, 29, 30, 31, 32, 33, 34, 35] _ _ _ _ (by kernel_rfl) ?_
              simp only [List.map_cons, List.map_nil, List.getElem?_toArray, List.getElem?_cons_succ, List.getElem?_cons_zero, Option.getD_some, List.size_toArray, List.length_cons, List.length_nil, Nat.reduceAdd, Nat.reduceSub]
              repeat (go_big_quiet_step (fail))
              refine wpQuiet_nil ?_
              refine J_loud1 36 _ rfl (by kernel_rfl) ?_
              simp only [List.getElem_toArray, List.getElem_cons_succ, List.getElem_cons_zero]
              intro wj hj
              go_wp2_with fail
              refine ⟨KeepX.refl _ _, ?_⟩
              have HM := Lib.hid ((hj.block _ lm).trans HM.out)
              have HP := Lib.hid ((hj.block _ lp).trans HP.out)
              have HI := Lib.hid ((hj.block _ li).trans HI.out)
              have HFL := Lib.hid (HFL.out.ext (Ext.below hj))
              have BC := Lib.hid (BC.out.trans (hj.mono BC.out.size))
              clear hj
              clear ym0 ym2 yp0 yp1 yp2 yp3 yp4 yp5 yi0 yi1 yi2 yi3 yi4 yi5 yi6 yi7 yi8 yi9 yi10 z0 z1 z2 z3 z4 z5 z6 z7 z8 z9
              obtain ⟨ym0, -, ym2, -, lm⟩ := cl4 HM.out
              obtain ⟨yp0, yp1, yp2, yp3, yp4, yp5, lp⟩ := cl6 HP.out
              obtain ⟨yi0, yi1, yi2, yi3, yi4, yi5, yi6, yi7, yi8, yi9, yi10, li⟩ := cl11 HI.out
              obtain ⟨z0, z1, z2, z3, z4, z5, z6, z7, z8, z9, lg⟩ := fz_9 HFL.out
              refine J_mobs [37, 38] _ _ _ _ (by kernel_rfl) ?_
              simp only [List.map_cons, List.map_nil, List.getElem?_toArray, List.getElem?_cons_succ, List.getElem?_cons_zero, Option.getD_some, List.size_toArray, List.length_cons, List.length_nil, Nat.reduceAdd, Nat.reduceSub]
              repeat (go_big_quiet_step (fail))
              refine wpQuiet_nil ?_
              refine J_done (by kernel_rfl) (fun wk hk => ?_) _
              have HM := Lib.hid ((hk.block _ lm).trans HM.out)
              have HP := Lib.hid ((hk.block _ lp).trans HP.out)
              have HI := Lib.hid ((hk.block _ li).trans HI.out)
              have HFL := Lib.hid (HFL.out.ext (Ext.below hk))
              have BC := Lib.hid (BC.out.trans (hk.mono BC.out.size))
              clear hk
              clear ym0 ym2 yp0 yp1 yp2 yp3 yp4 yp5 yi0 yi1 yi2 yi3 yi4 yi5 yi6 yi7 yi8 yi9 yi10 z0 z1 z2 z3 z4 z5 z6 z7 z8 z9
              obtain ⟨ym0, -, ym2, -, lm⟩ := cl4 HM.out
              obtain ⟨yp0, yp1, yp2, yp3, yp4, yp5, lp⟩ := cl6 HP.out
              obtain ⟨yi0, yi1, yi2, yi3, yi4, yi5, yi6, yi7, yi8, yi9, yi10, li⟩ := cl11 HI.out
              obtain ⟨z0, z1, z2, z3, z4, z5, z6, z7, z8, z9, lg⟩ := fz_9 HFL.out
              have HV2 : Hid (V = false) := by
                show _ = _
                rw [HF.out]
                simp [*]
              clear HF
              go_wp2_with fail
              go_ret
              exact ⟨ret_b HV2.out.symm, BC.out⟩
          · have gk5 : decide (0 ≤ obj) = false := decide_eq_false k5
            have gl5 : decide (obj < 0) = true := decide_eq_true (by omega)
            refine wp_region_text (by kernel_rfl) ?_
            simp only [List.append_eq, List.cons_append, List.nil_append]
            repeat (go_big_quiet_step (fail))
            refine wpQuiet_nil ?_
            go_wp2_with fail
            refine wp_region_junk (fun _ => True) (by kernel_rfl) ?_
            refine J_mobs [0, 1, 2, 3, 4, 5, 6, 7, 8, 9, 10, 11, 12, 13, 14, 15, 16, 17, 18, 19, 20, 21, 22, 23, 24, 25, 26, 27, 28, 29, 30, 31, 32, 33, 34, 35] _ _ _ _ (by kernel_rfl) ?_
            simp only [List.map_cons, List.map_nil, List.getElem?_toArray, List.getElem?_cons_succ, List.getElem?_cons_zero, Option.getD_some, List.size_toArray, List.length_cons, List.length_nil, Nat.reduceAdd, Nat.reduceSub]
            repeat (go_big_quiet_step (fail))
            refine wpQuiet_nil ?_
            refine J_loud1 36 _ rfl (by kernel_rfl) ?_
            simp only [List.getElem_toArray, List.getElem_cons_succ, List.getElem_cons_zero]
            intro wj hj
            go_wp2_with fail
            refine ⟨KeepX.refl _ _, ?_⟩
            have HM := Lib.hid ((hj.block _ lm).trans HM.out)
            have HP := Lib.hid ((hj.block _ lp).trans HP.out)
            have HI := Lib.hid ((hj.block _ li).trans HI.out)
            have HFL := Lib.hid (HFL.out.ext (Ext.below hj))
            have BC := Lib.hid (BC.out.trans (hj.mono BC.out.size))
            clear hj
            clear ym0 ym2 yp0 yp1 yp2 yp3 yp4 yp5 yi0 yi1 yi2 yi3 yi4 yi5 yi6 yi7 yi8 yi9 yi10 z0 z1 z2 z3 z4 z5 z6 z7 z8 z9
            obtain ⟨ym0, -, ym2, -, lm⟩ := cl4 HM.out
            obtain ⟨yp0, yp1, yp2, yp3, yp4, yp5, lp⟩ := cl6 HP.out
            obtain ⟨yi0, yi1, yi2, yi3, yi4, yi5, yi6, yi7, yi8, yi9, yi10, li⟩ := cl11 HI.out
            obtain ⟨z0, z1, z2, z3, z4, z5, z6, z7, z8, z9, lg⟩ := fz_9 HFL.out
            refine J_mobs [37, 38] _ _ _ _ (by kernel_rfl) ?_
            simp only [List.map_cons, List.map_nil, List.getElem?_toArray, List.getElem?_cons_succ, List.getElem?_cons_zero, Option.getD_some, List.size_toArray, List.length_cons, List.length_nil, Nat.reduceAdd, Nat.reduceSub]
            repeat (go_big_quiet_step (fail))
            refine wpQuiet_nil ?_
            refine J_done (by kernel_rfl) (fun wk hk => ?_) _
            have HM := Lib.hid ((hk.block _ lm).trans HM.out)
            have HP := Lib.hid ((hk.block _ lp).trans HP.out)
            have HI := Lib.hid ((hk.block _ li).trans HI.out)
            have HFL := Lib.hid (HFL.out.ext (Ext.below hk))
            have BC := Lib.hid (BC.out.trans (hk.mono BC.out.size))
            clear hk
            clear ym0 ym2 yp0 yp1 yp2 yp3 yp4 yp5 yi0 yi1 yi2 yi3 yi4 yi5 yi6 yi7 yi8 yi9 yi10 z0 z1 z2 z3 z4 z5 z6 z7 z8 z9
            obtain ⟨ym0, -, ym2, -, lm⟩ := cl4 HM.out
            obtain ⟨yp0, yp1, yp2, yp3, yp4, yp5, lp⟩ := cl6 HP.out
            obtain ⟨yi0, yi1, yi2, yi3, yi4, yi5, yi6, yi7, yi8, yi9, yi10, li⟩ := cl11 HI.out
            obtain ⟨z0, z1, z2, z3, z4, z5, z6, z7, z8, z9, lg⟩ := fz_9 HFL.out
            have HV2 : Hid (V = false) := by
              show _ = _
              rw [HF.out]
              simp [*]
            clear HF
            go_wp2_with fail
            go_ret
            exact ⟨ret_b HV2.out.symm, BC.out⟩
        · have gk4 : (num == 0) = false := beq_eq_false_iff_ne.2 k4
          have gn4 : (num != 0) = true := bne_iff_ne.2 k4
          have kh4 := Lib.hid k4
          clear k4
          refine wp_region_text (by kernel_rfl) ?_
          simp only [List.append_eq, List.cons_append, List.nil_append]
          repeat (go_big_quiet_step (fail))
          refine wpQuiet_nil ?_
          have HV2 : Hid (V = false) := by
            show _ = _
            rw [HF.out]
            simp [*]
          clear HF
          go_wp2_with fail
          go_ret
          exact ⟨ret_b HV2.out.symm, BC.out⟩
      · have gk3 : (size == 0) = false := beq_eq_false_iff_ne.2 k3
        have gn3 : (size != 0) = true := bne_iff_ne.2 k3
        have kh3 := Lib.hid k3
        clear k3
        refine wp_region_text (by kernel_rfl) ?_
        simp only [List.append_eq, List.cons_append, List.nil_append]
        repeat (go_big_quiet_step (fail))
        refine wpQuiet_nil ?_
        have HV2 : Hid (V = false) := by
          show _ = _
          rw [HF.out]
          simp [*]
        clear HF
        go_wp2_with fail
        go_ret
        exact ⟨ret_b HV2.out.symm, BC.out⟩
    · have gk2 : (off == 0) = false := beq_eq_false_iff_ne.2 k2
      have gn2 : (off != 0) = true := bne_iff_ne.2 k2
      have kh2 := Lib.hid k2
      clear k2
      refine wp_region_text (by kernel_rfl) ?_
      simp only [List.append_eq, List.cons_append, List.nil_append]
      repeat (go_big_quiet_step (fail))
      refine wpQuiet_nil ?_
      have HV2 : Hid (V = false) := by
        show _ = _
        rw [HF.out]
        simp [*]
      clear HF
      go_wp2_with fail
      go_ret
      exact ⟨ret_b HV2.out.symm, BC.out⟩
  · have gk1 : (fn == 0) = false := beq_eq_false_iff_ne.2 k1
    have gn1 : (fn != 0) = true := bne_iff_ne.2 k1
    have kh1 := Lib.hid k1
    clear k1
    refine wp_region_text (by kernel_rfl) ?_
    simp only [List.append_eq, List.cons_append, List.nil_append]
    repeat (go_big_quiet_step (fail))
    refine wpQuiet_nil ?_
    have HV2 : Hid (V = false) := by
      show _ = _
      rw [HF.out]
      simp [*]
    clear HF
    go_wp2_with fail
    go_ret
    exact ⟨ret_b HV2.out.symm, BC.out⟩
end Go.Proofs.YtnnhobbabcfogaaDoor
