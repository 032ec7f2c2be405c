/-
 Outcomes compared; the worked example of layer 14.; Runs with more fuel: what was put out begins with what was; what ended otherwise is the same.; Contracts of the statements' Begins and Same; sizes of what statements go through.; The statements' Does: a module with another procedure in the place of one is right, and its runs that end have the same outcome.
-/
import Derived.Test.YtobfpfjdkpaeiaaZInlineDoes24
import Derived.Test.YtobfpfjdkpaeiaaZInlineDoes11
import Derived.Test.YtobfpfjdkpaeiaaZInlineDoes05
import Derived.Test.YtobfpfjdkpaeiaaZInlineDoes48
import Derived.Test.YtobfpfjdkpaeiaaZInlineDoes01
import Derived.Test.YtobfpfjdkpaeiaaZInlineDoes23
import Derived.Test.YtobfpfjdkpaeiaaZInlineDoes08

set_option linter.all false
namespace Go.Proofs.Ytobfpfjdkpaeiaa
open Go.ChangeShapes Go.WideShapes Go.ChangeAt Go.RowKit
set_option maxHeartbeats 8000000
set_option linter.unusedVariables false
set_option maxRecDepth 100000

end Go.Proofs.Ytobfpfjdkpaeiaa

set_option linter.all false
namespace Go.Proofs.Ytobfpfjdkpaeiaa
set_option linter.unusedVariables false

/-- a later outcome: what was put out stays at the beginning -/
structure Later (a b : Oc) : Prop where
 out : a.out <+: b.out
 ins : a.ins ≤ b.ins
theorem Later.refl (a : Oc) : Later a a := ⟨List.prefix_refl _, Int.le_refl _⟩
theorem Later.trans {a b c : Oc} (h : Later a b) (k : Later b c) : Later a c := ⟨h.out.trans k.out, Int.le_trans h.ins k.ins⟩
end Go.Proofs.Ytobfpfjdkpaeiaa

set_option linter.all false
namespace Go.Proofs.Ytobfpfjdkpaeiaa
open Go.ChangeShapes Go.WideShapes Go.ChangeAt Go.RowKit
set_option maxHeartbeats 8000000
set_option linter.unusedVariables false
set_option maxRecDepth 100000

theorem below_drewNr {B : Nat} {w w1 : World} (h : Below B w w1) (n : Nat) : Below B w (w1.drewN n) := ⟨h.os, h.tape, h.output, h.size, h.block⟩
theorem prefix_at {a b : List Int} (h : a <+: b) (i : Nat) (hi : i < a.length) : a.getD i 0 = b.getD i 0 := by
 obtain ⟨t, rfl⟩ := h
 rw [List.getD, List.getD, List.getElem?_append_left hi]
theorem begins_yes (a b : List Int) (va vb : Value) (w : World) (ha : RdW w va a) (hb : RdW w vb b) (hp : a <+: b) :
  Calls Try.prog 53 #[va, vb] w fun e w' => e = .returned (.bool true) ∧ Below w.heap.size w w' := by
 obtain ⟨aa, ca, rfl, h1, h2, h3⟩ := ha
 obtain ⟨ab, cb, rfl, h1', h2', h3'⟩ := hb
 unfold maxLen at h2 h2'
 have H := Lib.hid h3
 have H' := Lib.hid h3'
 have hl := hp.length_le
 have HP := Lib.hid hp
 have g0 : decide ((b.length : Int) < (a.length : Int)) = false := decide_eq_false (by omega)
 have g1 : decide (b.length < a.length) = false := decide_eq_false (by omega)
 clear h3 h3' hp
 go_enter Try.func53, Try.ntmps53
 go_wp2_with fail
 go_loopw [5] (fun i wr => ∃ k : Nat, k ≤ a.length ∧ i = .int .i64 (k : Int) ∧ Hid (Below w.heap.size w wr)) (fun i _ => a.length - (intOf i).toNat)
 case atStart => exact ⟨0, Nat.zero_le _, rfl, Below.refl _ _⟩
 case round =>
  obtain ⟨k, hk, rfl, hB⟩ := hrel
  by_cases hlt : k < a.length
  ·obtain ⟨ba, oa, rfl, hc⟩ := H.out k hlt
   obtain ⟨bb, ob, rfl, hc'⟩ := H'.out k (by omega)
   simp only [Nat.mul_one, Nat.add_zero] at hc hc'
   replace hc := Ext.below hB.out _ _ hc
   replace hc' := Ext.below hB.out _ _ hc'
   rw [← prefix_at HP.out k hlt] at hc'
   have hlb : k < b.length := by omega
   generalize a.getD k 0 = x at *
   go_wp2_with fail
   go_quiet (fail)
   go_wp2_with fail
   go_roundw
   case rel => exact ⟨k + 1, by omega, by go_num, below_drewNr hB.out _⟩
   case measure => simp [intOf]; omega
  ·go_wp2_with fail
   go_ret
   exact ⟨rfl, hB.out⟩
theorem OutV.rd {B : Nat} {w w' : World} {v : Value} {o : Oc} (h : OutV B w v o) (he : Below w.heap.size w w') : ∃ a c, v = .agg #[.slice a o.out.length c, .int .i64 o.ins, .int .u32 o.exit, .int .i64 o.e] ∧ RdW w' (.slice a o.out.length c) o.out := by
 obtain ⟨vo, rfl, ho⟩ := h
 obtain ⟨a, c, rfl⟩ := row_shape ho
 exact ⟨a, c, rfl, own_rows 0 (own_below ho he)⟩
/-- the same outcome is the same -/
theorem same_yes (o : Oc) (a b : Option Addr) (c d : Nat) (w : World) (ha : RdW w (.slice a o.out.length c) o.out) (hb : RdW w (.slice b o.out.length d) o.out) :
  Calls Try.prog 29 #[.agg #[.slice a o.out.length c, .int .i64 o.ins, .int .u32 o.exit, .int .i64 o.e], .agg #[.slice b o.out.length d, .int .i64 o.ins, .int .u32 o.exit, .int .i64 o.e]] w fun e w' => e = .returned (.bool true) ∧ Below w.heap.size w w' := by
 have HB := Lib.hid (fun w' (he : Ext w w') => begins_yes o.out o.out _ _ w' (ha.ext he) (hb.ext he) (List.prefix_refl _))
 clear ha hb
 generalize o.out.length = n at *
 generalize o.ins = x at *
 generalize o.exit = y at *
 generalize o.e = z at *
 go_enter Try.func29, Try.ntmps29
 go_wp2_with fail
 have hb2 : Below w.heap.size w ((w.alloc (.cells #[.slice a n c, .int .i64 x, .int .u32 y, .int .i64 z] 62)).alloc (.cells #[.slice b n d, .int .i64 x, .int .u32 y, .int .i64 z] 62)) := (below_alloc w _).trans ((below_alloc _ _).mono (by simp))
 refine (HB.out _ (Ext.below hb2)).mono ?_
 rintro e w3 ⟨rfl, hb3⟩
 have h0 : w3.heap[w.heap.size]? = some (.cells #[.slice a n c, .int .i64 x, .int .u32 y, .int .i64 z] 62 (0, 0)) :=
  (hb3.block w.heap.size (by simp; omega)).trans ((allocs_heap [.cells #[.slice a n c, .int .i64 x, .int .u32 y, .int .i64 z] 62, .cells #[.slice b n d, .int .i64 x, .int .u32 y, .int .i64 z] 62] w 0 (by simp)))
 have h1 : w3.heap[w.heap.size + 1]? = some (.cells #[.slice b n d, .int .i64 x, .int .u32 y, .int .i64 z] 62 (0, 0)) :=
  (hb3.block (w.heap.size + 1) (by simp)).trans ((allocs_heap [.cells #[.slice a n c, .int .i64 x, .int .u32 y, .int .i64 z] 62, .cells #[.slice b n d, .int .i64 x, .int .u32 y, .int .i64 z] 62] w 1 (by simp)))
 have a1 := cell_of_heap h0 1
 have a2 := cell_of_heap h0 2
 have a3 := cell_of_heap h0 3
 have b1 := cell_of_heap h1 1
 have b2 := cell_of_heap h1 2
 have b3 := cell_of_heap h1 3
 simp only [List.getElem?_toArray, List.getElem?_cons_zero, List.getElem?_cons_succ] at a1 a2 a3 b1 b2 b3
 have l0 : w.heap.size < w3.heap.size := (Array.getElem?_eq_some_iff.1 h0).1
 have l1 : w.heap.size + 1 < w3.heap.size := (Array.getElem?_eq_some_iff.1 h1).1
 have hbe := Lib.hid (hb2.trans (hb3.mono hb2.size))
 clear h0 h1 hb3 hb2
 go_wp2_with fail
 go_ret
 exact ⟨rfl, hbe.out⟩
theorem few_sz {m : Md} (h : fewM m = true) : SzM m := by
 unfold fewM at h
 simp only [Bool.and_eq_true, List.all_eq_true] at h
 refine ⟨fun p hp => ?_⟩
 have h2 := h.2.2.2 p hp
 unfold prF at h2
 simp only [Bool.and_eq_true, decide_eq_true_eq, List.all_eq_true] at h2
 refine ⟨by omega, fun b hb => ?_⟩
 have h3 := h2.2.2 b hb
 unfold blkF at h3
 simp only [Bool.and_eq_true, decide_eq_true_eq] at h3
 omega
end Go.Proofs.Ytobfpfjdkpaeiaa

set_option linter.all false
namespace Go.Proofs.Ytobfpfjdkpaeiaa
open Go.ChangeShapes Go.WideShapes Go.ChangeAt Go.RowKit
set_option maxHeartbeats 4000000
set_option maxRecDepth 100000
set_option linter.unusedVariables false

theorem OutV.same {B : Nat} {w : World} {v : Value} {o o' : Oc} (h : OutV B w v o') (hs : SameO o o') : OutV B w v o := by
 obtain ⟨vo, rfl, ho⟩ := h
 exact ⟨vo, by rw [hs.ins, hs.exit, hs.e], by rw [hs.out]; exact ho⟩
theorem okE_ok {m : Md} (h : okM m = true) : okE m = 0 := by unfold okE; rw [h]; rfl
theorem clamp60 : (clampF 60000).toNat = 60000 := by decide
theorem clamp3 : (clampF 3000).toNat = 3000 := by decide
theorem does_c (m : Md) (q : Pr) (n : Nat) (vm vq vi : Value) (inp : List Int) (w : World) (hm : MdV w vm m) (hq : PrV w vq q) (hi : RdW w vi inp) (hn : n < m.procs.length) (hpl : m.procs.length ≤ 1000) (hil : inp.length ≤ 1000) (hiw : ∀ x ∈ inp, 0 ≤ x ∧ x < 4294967296)
  (hs : SzM m) (hs' : SzM (withM m n q)) (hd : MdOk m) (hd' : MdOk (withM m n q)) (hok : okM (withM m n q) = true) (hsame : (playM m inp 3000).e = 0 → SameO (playM m inp 3000) (playM (withM m n q) inp 60000)) :
  Calls Try.prog 12 #[vm, .int .i64 (n : Int), vq, vi] w fun e w' => e = .returned (.bool true) ∧ Below w.heap.size w w' := by
 have EW : Hid (∀ w', Ext w w' → Calls Try.prog 18 #[vm, .int .i64 (n : Int), vq] w' fun e w'' => (∃ v', e = .returned v' ∧ MdV w'' v' (withM m n q)) ∧ Below w'.heap.size w' w'') := fun w' he => withm_c m q n vm vq w' (hm.ext he) (hq.ext he) hn hpl
 have EC : Hid (∀ v' w', MdV w' v' (withM m n q) → Calls Try.prog 23 #[v'] w' fun e w'' => e = .returned (.int .i64 0) ∧ Below w'.heap.size w' w'') := fun v' w' hv => by
  have := check_c (withM m n q) v' w' hv hs'
  rw [okE_ok hok] at this
  exact this
 have ER : Hid (∀ w', Ext w w' → Calls Try.prog 24 #[vm, vi, .int .i64 3000] w' (RunPost m inp 3000 w')) := fun w' he => run_c m vm vi inp 3000 w' (hm.ext he) (hi.ext he) hs hd (by omega) hiw
 have ER' : Hid (∀ v' w', Ext w w' → MdV w' v' (withM m n q) → Calls Try.prog 24 #[v', vi, .int .i64 60000] w' (RunPost (withM m n q) inp 60000 w')) := fun v' w' he hv => run_c (withM m n q) v' vi inp 60000 w' hv (hi.ext he) hs' hd' (by omega) hiw
 clear hs hs' hd hd' hiw hok
 have HSA := Lib.hid hsame
 clear hsame
 obtain ⟨vg, vd, vp, rfl, hvg, hvd, hvp⟩ := hm
 obtain ⟨qn, qo, qb, rfl, hqo, hqb⟩ := hq
 clear hvg hvd hvp
 obtain ⟨qao, qco, rfl, -⟩ := hqo
 obtain ⟨qab, qcb, rfl, -⟩ := hqb
 obtain ⟨ai, ci, rfl, -⟩ := hi
 obtain ⟨W0, hW0⟩ : ∃ W0, W0 = allocs w [.cells #[vg, vd, vp, .int .i64 m.main] 26, .cells #[.string qn, .bool q.void, .int .i64 q.params, .int .i64 q.regs, .slice qao q.objs.length qco, .slice qab q.blks.length qcb] 32] := ⟨_, rfl⟩
 have B0 : Hid (Below w.heap.size w W0) := by rw [hW0]; exact allocs_below _ _
 have H0 : Hid (W0.heap[w.heap.size]? = some (.cells #[vg, vd, vp, .int .i64 m.main] 26 (0, 0))) := by rw [hW0]; exact allocs_heap _ w 0 (by simp)
 have H1 : Hid (W0.heap[w.heap.size + 1]? = some (.cells #[.string qn, .bool q.void, .int .i64 q.params, .int .i64 q.regs, .slice qao q.objs.length qco, .slice qab q.blks.length qcb] 32 (0, 0))) := by rw [hW0]; exact allocs_heap _ w 1 (by simp)
 have l0 : w.heap.size < W0.heap.size := (Array.getElem?_eq_some_iff.1 H0.out).1
 unfold allocs at hW0
 simp only [List.foldl_cons, List.foldl_nil] at hW0
 have HW0 := Lib.hid hW0.symm
 obtain ⟨y0, y1, y2, y3, -⟩ := cl4 H0.out
 obtain ⟨z0, z1, z2, z3, z4, z5, -⟩ := cl6 H1.out
 clear hW0
 go_enter Try.func12, Try.ntmps12
 go_upto_region 1 with (fail)
 rw [HW0.out]
 go_wp2_with fail
 refine (EW.out W0 (Ext.below B0.out)).mono ?_
 rintro e w1 ⟨⟨vx, rfl, hvx⟩, hb1⟩
 obtain ⟨xg, xd, xp, rfl, hxg, hxd, hxp⟩ := hvx
 have HX := Lib.hid (show MdV w1 (.agg #[xg, xd, xp, .int .i64 (withM m n q).main]) (withM m n q) from ⟨xg, xd, xp, rfl, hxg, hxd, hxp⟩)
 obtain ⟨xag, xcg, rfl, -⟩ := id hxg
 obtain ⟨xad, xcd, rfl, -⟩ := id hxd
 obtain ⟨xap, xcp, rfl, -⟩ := id hxp
 clear hxg hxd hxp z0 z1 z2 z3 z4 z5 H1
 have H0 := Lib.hid ((hb1.block _ l0).trans H0.out)
 have B1 := Lib.hid (B0.out.trans (hb1.mono B0.out.size))
 clear hb1 y0 y1 y2 y3 HW0 B0 EW
 have l1 : w.heap.size < w1.heap.size := (Array.getElem?_eq_some_iff.1 H0.out).1
 generalize withM m n q = M at *
 go_wp2_with fail
 obtain ⟨W2, hW2⟩ : ∃ W2, W2 = w1.alloc (.cells #[.slice xag M.globs.length xcg, .slice xad M.data.length xcd, .slice xap M.procs.length xcp, .int .i64 M.main] 26) := ⟨_, rfl⟩
 have H2 := Lib.hid (heap_of_alloc w1 _ _ hW2)
 have B2 : Hid (Below w1.heap.size w1 W2) := by rw [hW2]; exact below_alloc w1 _
 rw [← hW2]
 clear hW2
 have l2 : w1.heap.size < W2.heap.size := (Array.getElem?_eq_some_iff.1 H2.out).1
 have H0 := Lib.hid ((B2.out.block _ l1).trans H0.out)
 obtain ⟨x0, x1, x2, x3, -⟩ := cl4 H2.out
 go_wp2_with fail
 refine (EC.out _ W2 (HX.out.ext (Ext.below B2.out))).mono ?_
 rintro e w3 ⟨rfl, hb3⟩
 clear x0 x1 x2 x3 EC
 have H0 := Lib.hid ((hb3.block _ (by omega)).trans H0.out)
 have H2 := Lib.hid ((hb3.block _ l2).trans H2.out)
 have B3 := Lib.hid (B2.out.trans (hb3.mono B2.out.size))
 clear hb3 B2 l2
 have l0 : w.heap.size < w3.heap.size := (Array.getElem?_eq_some_iff.1 H0.out).1
 have l2 : w1.heap.size < w3.heap.size := (Array.getElem?_eq_some_iff.1 H2.out).1
 obtain ⟨y0, y1, y2, y3, -⟩ := cl4 H0.out
 have BW := Lib.hid (B1.out.trans (B3.out.mono B1.out.size))
 go_wp2_with fail
 refine (ER.out w3 (Ext.below BW.out)).mono ?_
 rintro e w4 ⟨va, rfl, hoa, hb4⟩
 rw [clamp3] at hoa
 obtain ⟨aA, cA, rfl, hrA⟩ := hoa.rd (Below.refl _ _)
 have HA := Lib.hid hoa
 have RA := Lib.hid hrA
 clear y0 y1 y2 y3 ER hoa hrA
 have H0 := Lib.hid ((hb4.block _ l0).trans H0.out)
 have H2 := Lib.hid ((hb4.block _ l2).trans H2.out)
 have BW := Lib.hid (BW.out.trans (hb4.mono BW.out.size))
 have B3 := Lib.hid (B3.out.trans (hb4.mono B3.out.size))
 clear hb4
 generalize playM m inp 3000 = OA at *
 by_cases hz : OA.e = 0
 ·have g1 : (OA.e != 0) = false := by rw [hz]; rfl
  have HS2 := Lib.hid (HSA.out hz)
  clear hz HSA
  go_wp2_with fail
  obtain ⟨W5, hW5⟩ : ∃ W5, W5 = w4.alloc (.cells #[.slice aA OA.out.length cA, .int .i64 OA.ins, .int .u32 OA.exit, .int .i64 OA.e] 62) := ⟨_, rfl⟩
  have H5 := Lib.hid (heap_of_alloc w4 _ _ hW5)
  have B5 : Hid (Below w4.heap.size w4 W5) := by rw [hW5]; exact below_alloc w4 _
  rw [← hW5]
  clear hW5
  have l5 : w4.heap.size < W5.heap.size := (Array.getElem?_eq_some_iff.1 H5.out).1
  have l1 : w1.heap.size < W5.heap.size := by have := (Array.getElem?_eq_some_iff.1 H2.out).1; omega
  have H2 := Lib.hid ((B5.out.block _ ((Array.getElem?_eq_some_iff.1 H2.out).1)).trans H2.out)
  have BW := Lib.hid (BW.out.trans (B5.out.mono BW.out.size))
  have B3 := Lib.hid (B3.out.trans (B5.out.mono B3.out.size))
  have RA := Lib.hid (RA.out.ext (Ext.below B5.out))
  clear B5 H0
  obtain ⟨x0, x1, x2, x3, -⟩ := cl4 H2.out
  obtain ⟨y0, y1, y2, y3, -⟩ := cl4 H5.out
  go_wp2_with fail
  refine wp_region_junk (fun _ => True) (by kernel_rfl) ?_
  refine J_mobs [0, 1, 2] _ _ _ _ (by kernel_rfl) ?_
  simp only [List.map_cons, List.map_nil, List.getElem?_toArray, List.getElem?_cons_succ, List.getElem?_cons_zero, Option.getD_some, List.size_toArray, List.length_cons, List.length_nil, Nat.reduceAdd, Nat.reduceSub]
  repeat (go_big_quiet_step (fail))
  refine wpQuiet_nil ?_
  clear x0 x1 x2 x3 y0 y1 y2 y3
  refine J_loud1 3 _ rfl (by kernel_rfl) ?_
  simp only [List.getElem_toArray, List.getElem_cons_succ, List.getElem_cons_zero]
  intro wj hj
  go_wp2_with fail
  refine (ER'.out _ wj (Ext.below (BW.out.trans (hj.mono BW.out.size))) (HX.out.ext (Ext.below (B3.out.trans (hj.mono B3.out.size))))).mono ?_
  rintro e w6 ⟨vb, rfl, hob, hb6⟩
  rw [clamp60] at hob
  obtain ⟨aB, cB, rfl, hrB⟩ := (hob.same HS2.out).rd (Below.refl _ _)
  have RA := Lib.hid ((RA.out.ext (Ext.below hj)).ext (Ext.below hb6))
  have RB := Lib.hid hrB
  have BW := Lib.hid (BW.out.trans ((hj.trans (hb6.mono hj.size)).mono BW.out.size))
  go_wp2_with fail
  refine ⟨KeepX.below hb6, ?_⟩
  clear hj hb6 hrB hob
  refine J_loud1 4 _ rfl (by kernel_rfl) ?_
  simp only [List.getElem_toArray, List.getElem_cons_succ, List.getElem_cons_zero]
  intro wj hj
  go_wp2_with fail
  refine (same_yes OA _ _ _ _ wj (RA.out.ext (Ext.below hj)) (RB.out.ext (Ext.below hj))).mono ?_
  rintro e w7 ⟨rfl, hb7⟩
  have BW := Lib.hid (BW.out.trans ((hj.trans (hb7.mono hj.size)).mono BW.out.size))
  go_wp2_with fail
  refine ⟨KeepX.below hb7, ?_⟩
  clear hj hb7
  refine J_mobs [5] _ _ _ _ (by kernel_rfl) ?_
  simp only [List.map_cons, List.map_nil, List.getElem?_toArray, List.getElem?_cons_succ, List.getElem?_cons_zero, Option.getD_some, List.size_toArray, List.length_cons, List.length_nil, Nat.reduceAdd, Nat.reduceSub]
  repeat (go_big_quiet_step (fail))
  refine wpQuiet_nil ?_
  refine J_done (by kernel_rfl) (fun wm hm => ?_) _
  have BW := Lib.hid (BW.out.trans (hm.mono BW.out.size))
  go_wp2_with fail
  go_ret
  exact ⟨rfl, BW.out⟩
 ·have g1 : (OA.e != 0) = true := by simpa using hz
  clear hz
  go_wp2_with fail
  go_ret
  exact ⟨rfl, BW.out.trans ((below_alloc _ _).mono BW.out.size)⟩
end Go.Proofs.Ytobfpfjdkpaeiaa
