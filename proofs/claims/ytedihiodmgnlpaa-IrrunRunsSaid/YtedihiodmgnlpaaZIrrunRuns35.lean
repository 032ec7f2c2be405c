/-
 The document's run: a call ends.
-/
import Derived.Test.YtedihiodmgnlpaaZIrrunRuns34
import Derived.Test.YtedihiodmgnlpaaZIrrunRuns22
import Derived.Test.YtedihiodmgnlpaaZIrrunRuns12
set_option linter.all false
namespace Go.Proofs.Ytedihiodmgnlpaa
open Go.ChangeShapes Go.WideShapes Go.ChangeAt Go.RowKit
set_option maxHeartbeats 4000000
set_option linter.unusedVariables false
set_option maxRecDepth 20000

theorem st1_heap {w : World} {g : Nat} {c : Array Value} {t : TypeId} (h : w.heap[g]? = some (.cells c t (0, 0))) (j : Nat) (x : Value) : (w.setCell ⟨g, j, none⟩ x).heap[g]? = some (.cells (c.setIfInBounds j x) t (0, 0)) :=
 heap_setCell_same w g j c t x h
theorem st5_heap {w : World} {g : Nat} {t : TypeId} {z0 z1 z2 z3 z4 : Value} (h : w.heap[g]? = some (.cells #[z0, z1, z2, z3, z4] t (0, 0))) (a b c d e : Value) :
  (((((w.setCell ⟨g, 0, none⟩ a).setCell ⟨g, 1, none⟩ b).setCell ⟨g, 2, none⟩ c).setCell ⟨g, 3, none⟩ d).setCell ⟨g, 4, none⟩ e).heap[g]? = some (.cells #[a, b, c, d, e] t (0, 0)) :=
 st1_heap (st1_heap (st1_heap (st1_heap (st1_heap h 0 a) 1 b) 2 c) 3 d) 4 e
theorem below_st5 {B : Nat} {w0 w : World} {g : Nat} (h : Below B w0 w) (hg : B ≤ g) (a b c d e : Value) : Below B w0 (((((w.setCell ⟨g, 0, none⟩ a).setCell ⟨g, 1, none⟩ b).setCell ⟨g, 2, none⟩ c).setCell ⟨g, 3, none⟩ d).setCell ⟨g, 4, none⟩ e) :=
 ((((h.setCell (p := ⟨g, 0, none⟩) hg _).setCell (p := ⟨g, 1, none⟩) hg _).setCell (p := ⟨g, 2, none⟩) hg _).setCell (p := ⟨g, 3, none⟩) hg _).setCell (p := ⟨g, 4, none⟩) hg _
/-- what holds of a call that stands -/
structure GoodK (m : Md) (f : Kf) : Prop where
 n : f.n < m.procs.length
 b : f.b < (pk m f.n).blks.length
 i : f.i ≤ ((pk m f.n).blks.getD f.b default).ins.length
 r : (f.regs.length : Int) = (pk m f.n).regs
section
variable {k : PK} {w0 w : World} {vt vo : Value} {s : Oc} {dn : Bool} {fs : List Kf} {f g : Kf}
theorem back_nil {bt c : Nat} (h : Pm k w (.slice (some ⟨bt, 0, none⟩) (0 + 1) c) vo s false ([] ++ [f])) (v : Int) (hv0 : 0 ≤ v) (hv1 : v < 4294967296) :
  Calls Try.prog 131 #[.pointer (some ⟨k.br, 0, none⟩), .int .u32 v] w fun e w' => e = .returned (.tuple #[]) ∧ ∃ vt', Pm k w' vt' vo { s with exit := v % 256 } true [] := by
 have hL : ([] : List Kf).length = 0 := rfl
 have c5 := h.c5
 have fz5 := h.fz 5
 have lbr := h.brLt.2
 obtain ⟨-, lbt, hc1, hc2, -⟩ := h.top hL
 have HP := Lib.hid (h.pop hL)
 go_enter Try.func131, Try.ntmps131
 go_upto_region 0 with (fail)
 refine wp_region_junk (fun _ => True) (by kernel_rfl) ?_
 refine J_mobs [0, 1, 2, 3, 4, 5, 6, 7, 8, 9, 10, 11, 12, 13] _ _ _ _ (by kernel_rfl) ?_
 simp only [List.map_cons, List.map_nil, List.getElem?_toArray, List.getElem?_cons_succ, List.getElem?_cons_zero, Option.getD_some, List.size_toArray, List.length_cons, List.length_nil, Nat.reduceAdd, Nat.reduceSub]
 repeat (go_big_quiet_step (fail))
 refine wpQuiet_nil ?_
 refine J_last 14 _ rfl (by kernel_rfl) ?_
 simp only [List.getElem_toArray, List.getElem_cons_succ, List.getElem_cons_zero]
 intro wj hj
 have c5j := (h.grow hj).c5
 have fz5j := (h.grow hj).fz 5
 have lbj := (h.grow hj).brLt.2
 have HPj := Lib.hid ((h.grow hj).pop hL)
 go_wp2_with fail
 refine J_done (by kernel_rfl) (fun wk hk => ?_) _
 have HPk := Lib.hid (HPj.out.grow hk)
 have d5 := HPk.out.c5
 have d10 := HPk.out.c10
 have d12 := HPk.out.c12
 have z10 := HPk.out.fz 10
 have z12 := HPk.out.fz 12
 have lk := HPk.out.brLt.2
 have P1 := HPk.out.setF 10 (.int .u32 (v % 256)) { s with exit := v % 256 } false rfl rfl rfl
 have P2 := Lib.hid (P1.setF 12 (.bool true) { s with exit := v % 256 } true rfl rfl rfl)
 clear hj hk P1 c5 fz5 c5j fz5j
 go_wp2_with fail
 refine bodyPost_ret (results_none rfl _ _ _) rfl ?_
 exact ⟨rfl, _, P2.out⟩
def backTop (m : Md) (g : Kf) (v : Int) : Kf :=
 let d := (((pk m g.n).blks.getD g.b default).ins.getD (g.i - 1) default).d
 if d ≠ -1 then { g with regs := g.regs.set d.toNat v } else g
theorem back_cons {bt c L : Nat} (h : Pm k w (.slice (some ⟨bt, 0, none⟩) (L + 1 + 1) c) vo s false (fs ++ [g] ++ [f])) (hL : fs.length = L) (v : Int) (hv0 : 0 ≤ v) (hv1 : v < 4294967296)
  (hg : GoodK k.m g) (hi : 1 ≤ g.i) (hd : (((pk k.m g.n).blks.getD g.b default).ins.getD (g.i - 1) default).d = -1 ∨ 0 ≤ (((pk k.m g.n).blks.getD g.b default).ins.getD (g.i - 1) default).d ∧ (((pk k.m g.n).blks.getD g.b default).ins.getD (g.i - 1) default).d < (g.regs.length : Int)) :
  Calls Try.prog 131 #[.pointer (some ⟨k.br, 0, none⟩), .int .u32 v] w fun e w' => e = .returned (.tuple #[]) ∧ Pm k w' (.slice (some ⟨bt, 0, none⟩) (L + 1) c) vo s false (fs ++ [backTop k.m g v]) := by
 have hL2 : (fs ++ [g]).length = L + 1 := by simp [hL]
 obtain ⟨vg, vd, vp, hme, hvg, hvd, hvp⟩ := h.md
 simp only [Value.agg.injEq, Array.mk.injEq, List.cons.injEq] at hme
 obtain ⟨-, -, hme, -, -⟩ := hme
 have eVP := hme
 clear hvg hvd
 obtain ⟨ap, cp, rfl, hp1, hp2, -⟩ := id hvp
 obtain ⟨bp, op, tnm, tvo, tvb, hap, -, htb, t0, t1, t2, t3, t4, t5⟩ := (RdPrs.at6 hvp).2 g.n hg.n
 subst hap
 have hpk : k.m.procs.getD g.n default = pk k.m g.n := rfl
 have hgb := hg.b
 have hgi := hg.i
 have hgn := hg.n
 rw [hpk] at htb
 obtain ⟨T, hT0⟩ : ∃ T, pk k.m g.n = T := ⟨_, rfl⟩
 rw [hT0] at htb hgb hgi hd
 obtain ⟨tab, tcb, rfl, htb1, htb2, -⟩ := id htb
 obtain ⟨bb, ob, vi, hab, hvi, u0, -, -, -, -⟩ := (RdBks.at htb).2 g.b hgb
 subst hab
 obtain ⟨K0, hK0⟩ : ∃ K0, T.blks.getD g.b default = K0 := ⟨_, rfl⟩
 rw [hK0] at hvi hgi hd
 obtain ⟨ai, ci, rfl, hi1, hi2, -⟩ := id hvi
 obtain ⟨q, hq⟩ : ∃ q, g.i = q + 1 := ⟨g.i - 1, by omega⟩
 rw [hq, Nat.add_sub_cancel] at hd
 obtain ⟨b3, o3, va, ha3, -, -, z0, z1, -⟩ := (RdIns.at hvi).2 q (by omega)
 subst ha3
 have t5w := t5
 have u0w := u0
 have z1w := z1
 have HBT : Hid (backTop k.m g v = if (K0.ins.getD q default).d ≠ -1 then { g with regs := g.regs.set (K0.ins.getD q default).d.toNat v } else g) := by
  show _ = _
  unfold backTop
  rw [hT0, hK0, hq, Nat.add_sub_cancel]
 clear z0 t0 t1 t2 t3 t4 hT0 hK0
 generalize (K0.ins.getD q default).d = D at *
 unfold maxLen at hp2 htb2 hi2
 have HQ := Lib.hid hq
 have HME := Lib.hid eVP
 have hiq : q < K0.ins.length := by omega
 have hr0 := (h.rr g (by simp)).lt
 have hW0 := h.below
 clear hq hme eVP hgi
 have c5 := h.c5
 have fz5 := h.fz 5
 have lbr := h.brLt.2
 obtain ⟨-, lbt, hc1, hc2, -⟩ := h.top hL2
 have HP := Lib.hid (h.pop hL2)
 replace t5 := Ext.below hW0 _ _ t5
 replace u0 := Ext.below hW0 _ _ u0
 replace z1 := Ext.below hW0 _ _ z1
 clear HP
 go_enter Try.func131, Try.ntmps131
 go_upto_region 0 with (fail)
 refine wp_region_junk (fun _ => True) (by kernel_rfl) ?_
 refine J_mobs [0, 1, 2, 3, 4, 5, 6, 7, 8, 9, 10, 11, 12, 13] _ _ _ _ (by kernel_rfl) ?_
 simp only [List.map_cons, List.map_nil, List.getElem?_toArray, List.getElem?_cons_succ, List.getElem?_cons_zero, Option.getD_some, List.size_toArray, List.length_cons, List.length_nil, Nat.reduceAdd, Nat.reduceSub]
 repeat (go_big_quiet_step (fail))
 refine wpQuiet_nil ?_
 refine J_last 14 _ rfl (by kernel_rfl) ?_
 simp only [List.getElem_toArray, List.getElem_cons_succ, List.getElem_cons_zero]
 intro wj hj
 have c5j := (h.grow hj).c5
 have fz5j := (h.grow hj).fz 5
 have lbj := (h.grow hj).brLt.2
 have HPj := Lib.hid ((h.grow hj).pop hL2)
 go_wp2_with fail
 refine J_done (by kernel_rfl) (fun wk hk => ?_) _
 have HPk := Lib.hid (HPj.out.grow hk)
 have hlk : w.heap.size ≤ wk.heap.size := Nat.le_trans hj.size (by have := hk.size; simpa using this)
 have ex : ∀ b o x, k.wp.cell? ⟨b, o, none⟩ = some x → wk.cell? ⟨b, o, none⟩ = some x := fun b o x hx => Ext.below HPk.out.below _ _ hx
 replace t5 := ex _ _ _ t5w
 replace u0 := ex _ _ _ u0w
 replace z1 := ex _ _ _ z1w
 have c2 := HPk.out.c2
 rw [HME.out] at c2
 have d5 := HPk.out.c5
 obtain ⟨⟨g0, g1, g2, g3, g4⟩, lbtk, hck1, hck2, fzt⟩ := HPk.out.top hL
 have lk := HPk.out.brLt.2
 clear hj hk c5 fz5 c5j fz5j ex
 go_wp2_with fail
 refine wp_region_junk (fun _ => True) (by kernel_rfl) ?_
 refine J_mobs [0, 1, 2, 3, 4, 5, 6, 7, 8, 9, 10, 11] _ _ _ _ (by kernel_rfl) ?_
 simp only [List.map_cons, List.map_nil, List.getElem?_toArray, List.getElem?_cons_succ, List.getElem?_cons_zero, Option.getD_some, List.size_toArray, List.length_cons, List.length_nil, Nat.reduceAdd, Nat.reduceSub]
 repeat (go_big_quiet_step (fail))
 refine wpQuiet_nil ?_
 refine J_loud1 12 _ rfl (by kernel_rfl) ?_
 simp only [List.getElem_toArray, List.getElem_cons_succ, List.getElem_cons_zero]
 intro wj hj
 go_wp2_with fail
 refine ⟨KeepX.below (below_alloc _ _), ?_⟩
 obtain ⟨W5, hW5⟩ : ∃ W5, W5 = wj.alloc (.cells #[.int .i64 0, .slice none 0 0, .int .i64 0, .int .i64 0, .int .i64 0] 160) := ⟨_, rfl⟩
 rw [← hW5]
 have HZ := Lib.hid (heap_of_alloc wj _ _ hW5)
 have HB5 : Hid (Below wk.heap.size wk W5) := by rw [hW5]; exact hj.trans ((below_alloc wj _).mono hj.size)
 obtain ⟨bc, hbc⟩ : ∃ b, b = wj.heap.size := ⟨_, rfl⟩
 rw [← hbc] at HZ ⊢
 have hbk : wk.heap.size ≤ bc := by rw [hbc]; exact hj.size
 clear hW5 hj hbc
 refine J_last 13 _ rfl (by kernel_rfl) ?_
 simp only [List.getElem_toArray, List.getElem_cons_succ, List.getElem_cons_zero]
 intro wj hj
 have HZ := Lib.hid ((hj.block bc (Array.getElem?_eq_some_iff.1 HZ.out).1).trans HZ.out)
 have HBj : Hid (Below wk.heap.size wk wj) := HB5.out.trans (hj.mono HB5.out.size)
 have e := fun j => cell_of_heap HZ.out j
 have e0 := e 0
 have e1 := e 1
 have e2 := e 2
 have e3 := e 3
 have e4 := e 4
 simp only [List.getElem?_toArray, List.getElem?_cons_zero, List.getElem?_cons_succ] at e0 e1 e2 e3 e4
 have fe := frozen_of_heap HZ.out
 have lbc : bc < wj.heap.size := (Array.getElem?_eq_some_iff.1 HZ.out).1
 clear e hj
 go_wp2_with fail
 have HZ2 := Lib.hid (st5_heap HZ.out (.int .i64 g.n) (.slice (some ⟨g.bg, 0, none⟩) g.regs.length g.regs.length) (.int .i64 g.low) (.int .i64 g.b) (.int .i64 g.i))
 have HB6 := Lib.hid (below_st5 HBj.out hbk (.int .i64 g.n) (.slice (some ⟨g.bg, 0, none⟩) g.regs.length g.regs.length) (.int .i64 g.low) (.int .i64 g.b) (.int .i64 g.i))
 refine J_done (by kernel_rfl) (fun wz hk => ?_) _
 have HZ3 := Lib.hid ((hk.block bc (Array.getElem?_eq_some_iff.1 HZ2.out).1).trans HZ2.out)
 have HB7 := Lib.hid (HB6.out.trans (hk.mono HB6.out.size))
 clear e0 e1 e2 e3 e4 fe HZ2 HB6 hk
 have HPz := Lib.hid (HPk.out.grow HB7.out)
 have e := fun j => cell_of_heap HZ3.out j
 have e0 := e 0
 have e1 := e 1
 have e3 := e 3
 have e4 := e 4
 simp only [List.getElem?_toArray, List.getElem?_cons_zero, List.getElem?_cons_succ] at e0 e1 e3 e4
 have lbz : bc < wz.heap.size := (Array.getElem?_eq_some_iff.1 HZ3.out).1
 replace c2 := HPz.out.c2
 rw [HME.out] at c2
 replace t5 := Ext.below HB7.out _ _ t5
 replace u0 := Ext.below HB7.out _ _ u0
 replace z1 := Ext.below HB7.out _ _ z1
 have lz := HPz.out.brLt.2
 have lz1 : bp < wz.heap.size := World.block_lt_of_cell? wz _ t5
 have lz2 : bb < wz.heap.size := World.block_lt_of_cell? wz _ u0
 have lz3 : b3 < wz.heap.size := World.block_lt_of_cell? wz _ z1
 clear e d5 g0 g1 g2 g3 g4 fzt
 rw [HQ.out] at e4
 have eq1 : ((q + 1 : Nat) : Int) - 1 = (q : Int) := by omega
 go_wp2_with fail
 refine wp_region_junk (fun _ => True) (by kernel_rfl) ?_
 refine J_mobs [0, 1, 2, 3, 4, 5, 6, 7, 8, 9, 10, 11, 12, 13, 14, 15, 16, 17, 18, 19, 20, 21] _ _ _ _ (by kernel_rfl) ?_
 simp only [List.map_cons, List.map_nil, List.getElem?_toArray, List.getElem?_cons_succ, List.getElem?_cons_zero, Option.getD_some, List.size_toArray, List.length_cons, List.length_nil, Nat.reduceAdd, Nat.reduceSub]
 repeat (go_big_quiet_step (fail))
 refine wpQuiet_nil ?_
 refine J_done (by kernel_rfl) (fun wy hk => ?_) _
 have HPy := Lib.hid (HPz.out.grow hk)
 have HZ4 := Lib.hid ((hk.block bc lbz).trans HZ3.out)
 clear e0 e1 e3 e4 t5 u0 z1 c2
 have e := fun j => cell_of_heap HZ4.out j
 have e1 := e 1
 simp only [List.getElem?_toArray, List.getElem?_cons_zero, List.getElem?_cons_succ] at e1
 have lby : bc < wy.heap.size := (Array.getElem?_eq_some_iff.1 HZ4.out).1
 clear e hk
 by_cases hD : D = -1
 ·have gD : (D != -1) = false := bne_eq_false_iff_eq.2 hD
  have HD := Lib.hid hD
  clear hD
  go_wp2_with fail
  go_end0
  refine ⟨rfl, ?_⟩
  rw [HBT.out, if_neg (fun h => h HD.out)]
  exact HPy.out
 ·have gD : (D != -1) = true := bne_iff_ne.2 hD
  have HD := Lib.hid hD
  rcases hd with hd | ⟨hd0, hd1⟩
  ·exact absurd hd hD
  obtain ⟨dn, rfl⟩ := Int.eq_ofNat_of_zero_le hd0
  clear hD
  have hf2 := HPy.out.fr
  have fz := hf2.fz dn
  have ck := hf2.cX dn (by omega)
  have cap := hf2.cap
  have lg := hf2.lt.2
  have HPF := Lib.hid (HPy.out.setR dn v hv0 hv1)
  go_wp2_with fail
  go_end0
  refine ⟨rfl, ?_⟩
  rw [HBT.out, if_pos HD.out, Int.toNat_natCast]
  exact HPF.out
end
end Go.Proofs.Ytedihiodmgnlpaa
