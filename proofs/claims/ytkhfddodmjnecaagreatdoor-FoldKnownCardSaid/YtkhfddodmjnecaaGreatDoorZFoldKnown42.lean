/-
 What registers have whenever a block begins, by the document (rushlightref17.Consts): the row of which nothing is known.
-/
import Derived.Test.YtkhfddodmjnecaaGreatDoorZFoldKnown41
import Derived.Test.YtkhfddodmjnecaaGreatDoorZFoldKnown15
set_option linter.all false
namespace Go.Proofs.YtkhfddodmjnecaaGreatDoor
open Go.ChangeShapes Go.WideShapes Go.ChangeAt Go.RowKit
set_option maxHeartbeats 16000000
set_option maxRecDepth 100000
set_option linter.unusedVariables false

theorem info_rowd : (Tryz.prog.info? 40).map (fun i => (i.zero, i.size, i.bytes)) = some (some (.agg #[.bool false, .slice none 0 0, .slice none 0 0]), 3, 56) := by kernel_rfl
theorem run_tabD (N : Nat) (hN : N ≤ 1000000) (w : World) : (Instr.makeSlice 36 (.int .i64 (N : Int)) (.int .i64 (N : Int))).run Tryz.prog w = .ok (.slice (some ⟨w.heap.size, 0, none⟩) N N) (w.alloc (.cells (madeCells #[.bool false, .slice none 0 0, .slice none 0 0] (N * 3)) 40)) := by
 have hi := info_rowd
 cases hx : Tryz.prog.info? 40 with
 | none => rw [hx] at hi; cases hi
 | some i =>
  rw [hx] at hi
  simp only [Option.map_some, Option.some.injEq, Prod.mk.injEq] at hi
  obtain ⟨h1, h2, h3⟩ := hi
  have := run_make (P := Tryz.prog) w 36 40 i _ Tryz.underlying36 hx h1 .i64 .i64 (N : Int) (N : Int) (by omega) (by omega) (by rw [h3]; omega) (by omega)
  simp only [Int.toNat_natCast, h2] at this
  exact this
theorem run_boolsD (N : Nat) (hN : N ≤ 1000000) (w : World) : (Instr.makeSlice 38 (.int .i64 (N : Int)) (.int .i64 (N : Int))).run Tryz.prog w = .ok (.slice (some ⟨w.heap.size, 0, none⟩) N N) (w.alloc (.cells (madeCells #[.bool false] N) 4)) :=
 run_make_row' (P := Tryz.prog) 38 4 (.bool false) 1 Tryz.underlying38 info_bool rfl .i64 .i64 N (by omega) (by omega) w
theorem run_wordsD (N : Nat) (hN : N ≤ 1000000) (w : World) : (Instr.makeSlice 27 (.int .i64 (N : Int)) (.int .i64 (N : Int))).run Tryz.prog w = .ok (.slice (some ⟨w.heap.size, 0, none⟩) N N) (w.alloc (.cells (madeCells #[.int .u32 0] N) 45)) :=
 run_make_row' (P := Tryz.prog) 27 45 (.int .u32 0) 4 Tryz.underlying27 info_u32 rfl .i64 .i64 N (by omega) (by omega) w
/-- the row of which nothing is known, in a box -/
def NoneQ (W0 : World) (R : Nat) (t5 : Value) (wx : World) : Prop := ∃ b5 bh bn, t5 = .pointer (some ⟨b5, 0, none⟩) ∧ Hid (wx.heap[b5]? = some (.cells #[.bool true, .slice (some ⟨bh, 0, none⟩) R R, .slice (some ⟨bn, 0, none⟩) R R] 40)) ∧
 Hid (OwRw wx W0.heap.size (.agg #[.bool true, .slice (some ⟨bh, 0, none⟩) R R, .slice (some ⟨bn, 0, none⟩) R R]) true (roNo R)) ∧ Hid (Below W0.heap.size W0 wx) ∧ W0.heap.size ≤ b5
theorem box3_set {w : World} {b : Nat} {ty : TypeId} {u0 u1 u2 : Value} (h : w.heap[b]? = some (.cells #[u0, u1, u2] ty)) (v0 v1 v2 : Value) : (((w.setCell ⟨b, 0, none⟩ v0).setCell ⟨b, 1, none⟩ v1).setCell ⟨b, 2, none⟩ v2).heap[b]? = some (.cells #[v0, v1, v2] ty) := by
 rw [heap_setCell_same _ _ _ _ _ _ (heap_setCell_same _ _ _ _ _ _ (heap_setCell_same _ _ _ _ _ _ h))]; rfl
theorem none_set {w : World} {B b R bh bn : Nat} {cs : Array Value} (h : w.heap[b]? = some (.cells cs 40)) (oh : w.ownsRow B 4 1 (.slice (some ⟨bh, 0, none⟩) R R) R (List.replicate R (.bool false))) (on : w.ownsRow B 45 1 (.slice (some ⟨bn, 0, none⟩) R R) R (List.replicate R (.int .u32 0))) (v0 v1 v2 : Value) :
  OwRw (((w.setCell ⟨b, 0, none⟩ v0).setCell ⟨b, 1, none⟩ v1).setCell ⟨b, 2, none⟩ v2) B (.agg #[.bool true, .slice (some ⟨bh, 0, none⟩) R R, .slice (some ⟨bn, 0, none⟩) R R]) true (roNo R) := by
 have k1 := row_not oh h (by decide)
 have k2 := row_not on h (by decide)
 refine ⟨_, _, rfl, ?_, ?_⟩
 ·rw [roNo_len, hasV_no]
  exact own_other (own_other (own_other oh k1 v0) k1 v1) k1 v2
 ·rw [roNo_len, numV_no]
  exact own_other (own_other (own_other on k2 v0) k2 v1) k2 v2
/-- where the rounds begin -/
structure StartD (p : Pr) (R : Nat) (w W0 wr : World) (vo : Value) (ab : Option Addr) (cb : Nat) (nm : ByteArray) (gR gT b5 bh bn : Nat) : Prop where
 bp : wr.heap[w.heap.size]? = some (.cells #[.string nm, .bool p.void, .int .i64 p.params, .int .i64 R, vo, .slice ab p.blks.length cb] 32)
 re : RowB wr gR p.blks.length p.blks.length (reachP p)
 bz : wr.heap[b5]? = some (.cells #[.bool true, .slice (some ⟨bh, 0, none⟩) R R, .slice (some ⟨bn, 0, none⟩) R R] 40)
 no : OwRw wr W0.heap.size (.agg #[.bool true, .slice (some ⟨bh, 0, none⟩) R R, .slice (some ⟨bn, 0, none⟩) R R]) true (roNo R)
 bl : Below w.heap.size w wr
 l5 : W0.heap.size ≤ b5
 lT : gT < W0.heap.size
 l0 : w.heap.size < W0.heap.size
 lR : gR < W0.heap.size
def RconQ (p : Pr) (R : Nat) (w : World) (e : Ending) (w' : World) : Prop := ∃ v ds, e = .returned v ∧ TbD w' 0 v ds ((List.range p.blks.length).map fun i => some (endC p R (rdN p R (2 + p.blks.length * (2 + R))) i)) ∧ Below w.heap.size w w'
theorem StartD.below {p : Pr} {R : Nat} {w W0 wr w' : World} {vo : Value} {ab : Option Addr} {cb : Nat} {nm : ByteArray} {gR gT b5 bh bn : Nat} (h : StartD p R w W0 wr vo ab cb nm gR gT b5 bh bn) (hb : Below wr.heap.size wr w') : StartD p R w W0 w' vo ab cb nm gR gT b5 bh bn :=
 ⟨(hb.block _ (Array.getElem?_eq_some_iff.1 h.bp).1).trans h.bp, h.re.below hb, (hb.block _ (Array.getElem?_eq_some_iff.1 h.bz).1).trans h.bz, h.no.below hb, h.bl.trans (hb.mono h.bl.size), h.l5, h.lT, h.l0, h.lR⟩
theorem hearC_some (x : Option Ro) (t : Ro) (l : List In) : hearC x (some t) l = some (meetO x (thrC t l)) := by cases x <;> rfl
def finX (p : Pr) (R : Nat) (X : Tb) (q : Nat) : Tb := (List.range p.blks.length).map fun i => if i < q then some (endC p R X i) else X.getD i none
theorem finX_len (p : Pr) (R : Nat) (X : Tb) (q : Nat) : (finX p R X q).length = p.blks.length := by simp [finX]
theorem finX_get {p : Pr} {R : Nat} {X : Tb} {q i : Nat} (h : i < p.blks.length) : (finX p R X q).getD i none = if i < q then some (endC p R X i) else X.getD i none := by simp [finX, List.getD, h]
theorem finX_at {p : Pr} {R : Nat} {X : Tb} {q : Nat} (h : q < p.blks.length) : (finX p R X q).getD q none = X.getD q none := by rw [finX_get h, if_neg (Nat.lt_irrefl _)]
theorem tb_ext {a b : Tb} (hl : a.length = b.length) (h : ∀ i, i < a.length → a.getD i none = b.getD i none) : a = b := by
 refine List.ext_getElem hl fun i h1 h2 => ?_
 have := h i h1
 simpa [List.getD, h1, h2] using this
theorem finX_zero {p : Pr} {R : Nat} {X : Tb} (h : X.length = p.blks.length) : finX p R X 0 = X := tb_ext (by rw [finX_len, h]) fun i hi => by
 rw [finX_len] at hi
 rw [finX_get hi, if_neg (Nat.not_lt_zero _)]
theorem finX_on {p : Pr} {R : Nat} {X : Tb} {q : Nat} (h : q < p.blks.length) : finX p R X (q + 1) = (finX p R X q).set q (some (endC p R X q)) := tb_ext (by rw [List.length_set, finX_len, finX_len]) fun i hi => by
 rw [finX_len] at hi
 rw [finX_get hi]
 by_cases e : i = q
 ·subst e
  rw [if_pos (by omega)]
  simp [List.getD, finX_len, hi]
 ·rw [show ((finX p R X q).set q (some (endC p R X q))).getD i none = (finX p R X q).getD i none by simp [List.getD, List.getElem?_set, Ne.symm e], finX_get hi]
  by_cases e2 : i < q
  ·rw [if_pos e2, if_pos (by omega)]
  ·rw [if_neg e2, if_neg (by omega)]
theorem finX_set {p : Pr} {R : Nat} {X : Tb} {q : Nat} : (finX p R X q).set q (X.getD q none) = finX p R X q := tb_ext (by simp) fun i hi => by
 rw [List.length_set, finX_len] at hi
 by_cases e : i = q
 ·subst e
  rw [finX_at hi]
  simp [List.getD, finX_len, hi]
 ·simp [List.getD, List.getElem?_set, Ne.symm e]
theorem finX_all (p : Pr) (R : Nat) (X : Tb) : finX p R X p.blks.length = (List.range p.blks.length).map fun i => some (endC p R X i) := by
 unfold finX
 refine List.map_congr_left fun i hi => ?_
 rw [if_pos (List.mem_range.1 hi)]
/-- what stands while a table is written in place -/
theorem StartD.put {p : Pr} {R : Nat} {w W0 wr : World} {vo : Value} {ab : Option Addr} {cb : Nat} {nm : ByteArray} {gR gT b5 bh bn g i : Nat} (h : StartD p R w W0 wr vo ab cb nm gR gT b5 bh bn) (hg : b5 + 1 ≤ g) {cs : Array Value} (hc : wr.heap[g]? = some (.cells cs 40)) (u : Value) : StartD p R w W0 (wr.setCell ⟨g, i, none⟩ u) vo ab cb nm gR gT b5 bh bn := by
 obtain ⟨h1, h2, h3, ⟨vh, vn, h4, h5, h6⟩, h7, l1, l2, l3, l4⟩ := h
 refine ⟨(Below.heap_setCell _ ⟨g, i, none⟩ _ _ (by dsimp only; omega)).trans h1, h2.set_other u (by omega), (Below.heap_setCell _ ⟨g, i, none⟩ _ _ (by dsimp only; omega)).trans h3, ⟨vh, vn, h4, own_other h5 (row_not h5 hc (by decide)) u, own_other h6 (row_not h6 hc (by decide)) u⟩, h7.setCell (p := ⟨g, i, none⟩) (by dsimp only; omega) u, l1, l2, l3, l4⟩
theorem rcons_c (p : Pr) (V : Value) (w : World) (R : Nat) (hP : PrV w V p) (hR : p.regs = (R : Int)) (hRb : R ≤ 1000) (h0 : 0 < p.blks.length) (hn : p.blks.length ≤ 1000)
  (hi : ∀ n, n < p.blks.length → InsC R (p.blks.getD n default).ins ∧ (∀ i ∈ (p.blks.getD n default).ins, UseC R i) ∧ (p.blks.getD n default).ins.length ≤ 100000) :
  Calls Tryz.prog 12 #[V] w (RconQ p R w) := by
 have HRE : Hid (∀ W, Ext w W → Calls Tryz.prog 34 #[V] W fun e w' => ∃ g, e = .returned (.slice (some ⟨g, 0, none⟩) p.blks.length p.blks.length) ∧ W.heap.size ≤ g ∧ RowB w' g p.blks.length p.blks.length (reachP p) ∧ Below W.heap.size W w') := fun W hW => rreach_c p V W (hP.ext hW) (by omega)
 have HPR : Hid (∀ (r : Int) W, Ext w W → Calls Tryz.prog 35 #[V, .int .i64 r] W (RetI W (predsP p r))) := fun r W hW => rpreds_c p V r W (hP.ext hW) (by omega)
 obtain ⟨nm, vo, vb, rfl, hvo, hvb⟩ := hP
 obtain ⟨ao, co, rfl, -⟩ := hvo
 have hvb' := hvb
 obtain ⟨ab, cb, rfl, -, b2, -⟩ := hvb'
 have HBK := Lib.hid (RdBks.at hvb).2
 unfold maxLen at b2
 rw [hR] at HRE HPR ⊢
 clear hvb hR
 have HI := Lib.hid hi
 clear hi
 obtain ⟨W1, hW1⟩ : ∃ W1, W1 = w.alloc (.cells #[.string nm, .bool p.void, .int .i64 p.params, .int .i64 R, .slice ao p.objs.length co, .slice ab p.blks.length cb] 32) := ⟨_, rfl⟩
 have H0 := Lib.hid (heap_of_alloc w _ _ hW1)
 have B1 : Hid (Below w.heap.size w W1) := by
  show Below _ _ _
  rw [hW1]; exact below_alloc w _
 have s1 : w.heap.size < W1.heap.size := by rw [hW1]; simp
 have HW1 := Lib.hid hW1.symm
 clear hW1
 obtain ⟨p0, p1, p2, p3, p4, p5, lp⟩ := cl6 H0.out
 go_enter Tryz.func12, Tryz.ntmps12
 go_wp2_with fail
 rw [HW1.out]
 clear HW1
 refine (HRE.out W1 (Ext.below B1.out)).mono ?_
 clear HRE
 rintro e w2 ⟨gR, rfl, hgR, hre, hb2⟩
 have H0 := Lib.hid ((hb2.block _ lp).trans H0.out)
 have B2 := Lib.hid (B1.out.trans (hb2.mono B1.out.size))
 have s2 : w.heap.size < w2.heap.size := by have := hb2.size; omega
 have HRE := Lib.hid hre
 clear hre hb2 p0 p1 p2 p3 p4 p5 lp B1
 obtain ⟨p0, p1, p2, p3, p4, p5, lp⟩ := cl6 H0.out
 have hmkT := run_tabD p.blks.length (by omega)
 go_upto_region 3 with (fail)
 have HT0 := Lib.hid (TbD.made w2 w2.heap.size p.blks.length (by omega) (Nat.le_refl _))
 have hA := below_alloc w2 (.cells (madeCells #[.bool false, .slice none 0 0, .slice none 0 0] (p.blks.length * 3)) 40)
 have hsz : w2.heap.size < (w2.alloc (.cells (madeCells #[.bool false, .slice none 0 0, .slice none 0 0] (p.blks.length * 3)) 40)).heap.size := by simp
 generalize w2.alloc (.cells (madeCells #[.bool false, .slice none 0 0, .slice none 0 0] (p.blks.length * 3)) 40) = W3 at *
 have H0 := Lib.hid ((hA.block _ lp).trans H0.out)
 have B3 := Lib.hid (B2.out.trans (hA.mono B2.out.size))
 have lgR : gR < w2.heap.size := by
  obtain ⟨cs, hcs⟩ := HRE.out.heap
  exact (Array.getElem?_eq_some_iff.1 hcs).1
 have HRE := Lib.hid (HRE.out.below hA)
 clear hmkT hA B2 p0 p1 p2 p3 p4 p5 lp
 obtain ⟨p0, p1, p2, p3, p4, p5, lp⟩ := cl6 H0.out
 have hmkH := run_boolsD R (by omega)
 have hmkN := run_wordsD R (by omega)
 go_cut [5] from 19 to 25 (fun t5 wx => NoneQ W3 R t5 wx)
 case first =>
  refine wp_region_yard (fun z => z < W3.heap.size) (by kernel_rfl) ?_
  refine Y_mobs [0, 1, 3, 4] _ _ _ _ (by kernel_rfl) ?_
  simp only [List.map_cons, List.map_nil, List.getElem?_toArray, List.getElem?_cons_succ, List.getElem?_cons_zero, Option.getD_some, List.size_toArray, List.length_cons, List.length_nil, Nat.reduceAdd, Nat.reduceSub]
  repeat (go_big_quiet_step (fail))
  refine wpQuiet_nil ?_
  have BC : Hid (Below W3.heap.size W3 W3) := Below.refl _ _
  refine Y_loud3 2 5 7 _ _ _ rfl rfl rfl (by kernel_rfl) ?_ ?_ ?_
  ·simp only [List.getElem_toArray, List.getElem_cons_succ, List.getElem_cons_zero]
   intro wj hj
   have BC := Lib.hid (BC.out.trans (hj.mono BC.out.size))
   clear hj
   go_wp2_with fail
   refine ⟨KeepY.below (below_alloc _ _), ?_⟩
   have hA := below_alloc wj (.cells (madeCells #[.bool false] R) 4)
   have OH := Lib.hid (own_made wj W3.heap.size 4 (.bool false) R (by omega) BC.out.size)
   have lbh : W3.heap.size ≤ wj.heap.size := BC.out.size
   have BC := Lib.hid (BC.out.trans (hA.mono BC.out.size))
   clear hA
   generalize hbh : wj.heap.size = bh at *
   generalize wj.alloc (.cells (madeCells #[.bool false] R) 4) = w2 at *
   clear hbh
   refine Y_loud2 5 7 _ _ rfl rfl (by kernel_rfl) ?_ ?_
   ·simp only [List.getElem_toArray, List.getElem_cons_succ, List.getElem_cons_zero]
    intro wj hj
    have BC := Lib.hid (BC.out.trans (hj.mono BC.out.size))
    have OH := Lib.hid (own_below OH.out hj)
    clear hj
    go_wp2_with fail
    refine ⟨KeepY.below (below_alloc _ _), ?_⟩
    have hA := below_alloc wj (.cells (madeCells #[.int .u32 0] R) 45)
    have ON := Lib.hid (own_made wj W3.heap.size 45 (.int .u32 0) R (by omega) BC.out.size)
    have lbn : W3.heap.size ≤ wj.heap.size := BC.out.size
    have BC := Lib.hid (BC.out.trans (hA.mono BC.out.size))
    have OH := Lib.hid (own_below OH.out hA)
    clear hA
    generalize hbn : wj.heap.size = bn at *
    generalize wj.alloc (.cells (madeCells #[.int .u32 0] R) 45) = w5 at *
    clear hbn
    refine Y_mobs [6] _ _ _ _ (by kernel_rfl) ?_
    simp only [List.map_cons, List.map_nil, List.getElem?_toArray, List.getElem?_cons_succ, List.getElem?_cons_zero, Option.getD_some, List.size_toArray, List.length_cons, List.length_nil, Nat.reduceAdd, Nat.reduceSub]
    repeat (go_big_quiet_step (fail))
    refine wpQuiet_nil ?_
    refine Y_loud1 7 _ rfl (by kernel_rfl) ?_
    simp only [List.getElem_toArray, List.getElem_cons_succ, List.getElem_cons_zero]
    intro wj hj
    have BC := Lib.hid (BC.out.trans (hj.mono BC.out.size))
    have OH := Lib.hid (own_below OH.out hj)
    have ON := Lib.hid (own_below ON.out hj)
    clear hj
    go_wp2_with fail
    refine ⟨KeepY.below (below_alloc _ _), ?_⟩
    have hA := below_alloc wj (.cells #[.bool false, .slice none 0 0, .slice none 0 0] 40)
    have Z5 : Hid ((wj.alloc (.cells #[.bool false, .slice none 0 0, .slice none 0 0] 40)).heap[wj.heap.size]? = some (.cells #[.bool false, .slice none 0 0, .slice none 0 0] 40)) := heap_alloc_new wj _
    have lb5 : W3.heap.size ≤ wj.heap.size := BC.out.size
    have BC := Lib.hid (BC.out.trans (hA.mono BC.out.size))
    have OH := Lib.hid (own_below OH.out hA)
    have ON := Lib.hid (own_below ON.out hA)
    clear hA
    generalize hb5 : wj.heap.size = b5 at *
    generalize wj.alloc (.cells #[.bool false, .slice none 0 0, .slice none 0 0] 40) = w7 at *
    clear hb5
    refine Y_last 8 _ rfl (by kernel_rfl) ?_
    simp only [List.getElem_toArray, List.getElem_cons_succ, List.getElem_cons_zero]
    intro wj hj
    have BC := Lib.hid (BC.out.trans (hj.mono BC.out.size))
    have OH := Lib.hid (own_below OH.out hj)
    have ON := Lib.hid (own_below ON.out hj)
    have Z5 := Lib.hid ((hj.block _ (Array.getElem?_eq_some_iff.1 Z5.out).1).trans Z5.out)
    clear hj
    obtain ⟨z0, z1, z2, lz⟩ := cl3 Z5.out
    have fz0 := frozen_of_heap Z5.out 0
    have fz1 := frozen_of_heap Z5.out 1
    have fz2 := frozen_of_heap Z5.out 2
    go_wp2_with fail
    have ZZ := Lib.hid (box3_set Z5.out (.bool true) (.slice (some ⟨bh, 0, none⟩) R R) (.slice (some ⟨bn, 0, none⟩) R R))
    have OW := Lib.hid (none_set Z5.out OH.out ON.out (.bool true) (.slice (some ⟨bh, 0, none⟩) R R) (.slice (some ⟨bn, 0, none⟩) R R))
    have BZ := Lib.hid (((BC.out.setCell (p := ⟨b5, 0, none⟩) lb5 (.bool true)).setCell (p := ⟨b5, 1, none⟩) lb5 (.slice (some ⟨bh, 0, none⟩) R R)).setCell (p := ⟨b5, 2, none⟩) lb5 (.slice (some ⟨bn, 0, none⟩) R R))
    generalize ((wj.setCell ⟨b5, 0, none⟩ (.bool true)).setCell ⟨b5, 1, none⟩ (.slice (some ⟨bh, 0, none⟩) R R)).setCell ⟨b5, 2, none⟩ (.slice (some ⟨bn, 0, none⟩) R R) = w8 at *
    clear z0 z1 z2 lz fz0 fz1 fz2 Z5 OH ON BC
    refine Y_done (by kernel_rfl) (fun wk hk => ?_) _
    have ZZ := Lib.hid ((hk.block _ (Array.getElem?_eq_some_iff.1 ZZ.out).1).trans ZZ.out)
    have OW := Lib.hid (OW.out.below hk)
    have BZ := Lib.hid (BZ.out.trans (hk.mono BZ.out.size))
    clear hk
    go_wp2_with fail
    go_meet
    case rel => exact ⟨b5, bh, bn, rfl, ZZ, OW, BZ, lb5⟩
   ·simp only [List.getElem_toArray, List.getElem_cons_succ, List.getElem_cons_zero]
    intro wj hj
    have BC := Lib.hid (BC.out.trans (hj.mono BC.out.size))
    have OH := Lib.hid (own_below OH.out hj)
    clear hj
    go_wp2_with fail
    refine ⟨KeepY.below (below_alloc _ _), ?_⟩
    have hA := below_alloc wj (.cells #[.bool false, .slice none 0 0, .slice none 0 0] 40)
    have Z5 : Hid ((wj.alloc (.cells #[.bool false, .slice none 0 0, .slice none 0 0] 40)).heap[wj.heap.size]? = some (.cells #[.bool false, .slice none 0 0, .slice none 0 0] 40)) := heap_alloc_new wj _
    have lb5 : W3.heap.size ≤ wj.heap.size := BC.out.size
    have BC := Lib.hid (BC.out.trans (hA.mono BC.out.size))
    have OH := Lib.hid (own_below OH.out hA)
    clear hA
    generalize hb5 : wj.heap.size = b5 at *
    generalize wj.alloc (.cells #[.bool false, .slice none 0 0, .slice none 0 0] 40) = w7 at *
    clear hb5
    refine Y_loud1 5 _ rfl (by kernel_rfl) ?_
    simp only [List.getElem_toArray, List.getElem_cons_succ, List.getElem_cons_zero]
    intro wj hj
    have BC := Lib.hid (BC.out.trans (hj.mono BC.out.size))
    have OH := Lib.hid (own_below OH.out hj)
    have Z5 := Lib.hid ((hj.block _ (Array.getElem?_eq_some_iff.1 Z5.out).1).trans Z5.out)
    clear hj
    go_wp2_with fail
    refine ⟨KeepY.below (below_alloc _ _), ?_⟩
    have hA := below_alloc wj (.cells (madeCells #[.int .u32 0] R) 45)
    have ON := Lib.hid (own_made wj W3.heap.size 45 (.int .u32 0) R (by omega) BC.out.size)
    have lbn : W3.heap.size ≤ wj.heap.size := BC.out.size
    have BC := Lib.hid (BC.out.trans (hA.mono BC.out.size))
    have OH := Lib.hid (own_below OH.out hA)
    have Z5 := Lib.hid ((hA.block _ (Array.getElem?_eq_some_iff.1 Z5.out).1).trans Z5.out)
    clear hA
    generalize hbn : wj.heap.size = bn at *
    generalize wj.alloc (.cells (madeCells #[.int .u32 0] R) 45) = w5 at *
    clear hbn
    refine Y_mobs [6] _ _ _ _ (by kernel_rfl) ?_
    simp only [List.map_cons, List.map_nil, List.getElem?_toArray, List.getElem?_cons_succ, List.getElem?_cons_zero, Option.getD_some, List.size_toArray, List.length_cons, List.length_nil, Nat.reduceAdd, Nat.reduceSub]
    repeat (go_big_quiet_step (fail))
    refine wpQuiet_nil ?_
    refine Y_last 8 _ rfl (by kernel_rfl) ?_
    simp only [List.getElem_toArray, List.getElem_cons_succ, List.getElem_cons_zero]
    intro wj hj
    have BC := Lib.hid (BC.out.trans (hj.mono BC.out.size))
    have OH := Lib.hid (own_below OH.out hj)
    have ON := Lib.hid (own_below ON.out hj)
    have Z5 := Lib.hid ((hj.block _ (Array.getElem?_eq_some_iff.1 Z5.out).1).trans Z5.out)
    clear hj
    obtain ⟨z0, z1, z2, lz⟩ := cl3 Z5.out
    have fz0 := frozen_of_heap Z5.out 0
    have fz1 := frozen_of_heap Z5.out 1
    have fz2 := frozen_of_heap Z5.out 2
    go_wp2_with fail
    have ZZ := Lib.hid (box3_set Z5.out (.bool true) (.slice (some ⟨bh, 0, none⟩) R R) (.slice (some ⟨bn, 0, none⟩) R R))
    have OW := Lib.hid (none_set Z5.out OH.out ON.out (.bool true) (.slice (some ⟨bh, 0, none⟩) R R) (.slice (some ⟨bn, 0, none⟩) R R))
    have BZ := Lib.hid (((BC.out.setCell (p := ⟨b5, 0, none⟩) lb5 (.bool true)).setCell (p := ⟨b5, 1, none⟩) lb5 (.slice (some ⟨bh, 0, none⟩) R R)).setCell (p := ⟨b5, 2, none⟩) lb5 (.slice (some ⟨bn, 0, none⟩) R R))
    generalize ((wj.setCell ⟨b5, 0, none⟩ (.bool true)).setCell ⟨b5, 1, none⟩ (.slice (some ⟨bh, 0, none⟩) R R)).setCell ⟨b5, 2, none⟩ (.slice (some ⟨bn, 0, none⟩) R R) = w8 at *
    clear z0 z1 z2 lz fz0 fz1 fz2 Z5 OH ON BC
    refine Y_done (by kernel_rfl) (fun wk hk => ?_) _
    have ZZ := Lib.hid ((hk.block _ (Array.getElem?_eq_some_iff.1 ZZ.out).1).trans ZZ.out)
    have OW := Lib.hid (OW.out.below hk)
    have BZ := Lib.hid (BZ.out.trans (hk.mono BZ.out.size))
    clear hk
    go_wp2_with fail
    go_meet
    case rel => exact ⟨b5, bh, bn, rfl, ZZ, OW, BZ, lb5⟩
  ·simp only [List.getElem_toArray, List.getElem_cons_succ, List.getElem_cons_zero]
   intro wj hj
   have BC := Lib.hid (BC.out.trans (hj.mono BC.out.size))
   clear hj
   go_wp2_with fail
   refine ⟨KeepY.below (below_alloc _ _), ?_⟩
   have hA := below_alloc wj (.cells (madeCells #[.int .u32 0] R) 45)
   have ON := Lib.hid (own_made wj W3.heap.size 45 (.int .u32 0) R (by omega) BC.out.size)
   have lbn : W3.heap.size ≤ wj.heap.size := BC.out.size
   have BC := Lib.hid (BC.out.trans (hA.mono BC.out.size))
   clear hA
   generalize hbn : wj.heap.size = bn at *
   generalize wj.alloc (.cells (madeCells #[.int .u32 0] R) 45) = w5 at *
   clear hbn
   refine Y_loud2 2 7 _ _ rfl rfl (by kernel_rfl) ?_ ?_
   ·simp only [List.getElem_toArray, List.getElem_cons_succ, List.getElem_cons_zero]
    intro wj hj
    have BC := Lib.hid (BC.out.trans (hj.mono BC.out.size))
    have ON := Lib.hid (own_below ON.out hj)
    clear hj
    go_wp2_with fail
    refine ⟨KeepY.below (below_alloc _ _), ?_⟩
    have hA := below_alloc wj (.cells (madeCells #[.bool false] R) 4)
    have OH := Lib.hid (own_made wj W3.heap.size 4 (.bool false) R (by omega) BC.out.size)
    have lbh : W3.heap.size ≤ wj.heap.size := BC.out.size
    have BC := Lib.hid (BC.out.trans (hA.mono BC.out.size))
    have ON := Lib.hid (own_below ON.out hA)
    clear hA
    generalize hbh : wj.heap.size = bh at *
    generalize wj.alloc (.cells (madeCells #[.bool false] R) 4) = w2 at *
    clear hbh
    refine Y_mobs [6] _ _ _ _ (by kernel_rfl) ?_
    simp only [List.map_cons, List.map_nil, List.getElem?_toArray, List.getElem?_cons_succ, List.getElem?_cons_zero, Option.getD_some, List.size_toArray, List.length_cons, List.length_nil, Nat.reduceAdd, Nat.reduceSub]
    repeat (go_big_quiet_step (fail))
    refine wpQuiet_nil ?_
    refine Y_loud1 7 _ rfl (by kernel_rfl) ?_
    simp only [List.getElem_toArray, List.getElem_cons_succ, List.getElem_cons_zero]
    intro wj hj
    have BC := Lib.hid (BC.out.trans (hj.mono BC.out.size))
    have OH := Lib.hid (own_below OH.out hj)
    have ON := Lib.hid (own_below ON.out hj)
    clear hj
    go_wp2_with fail
    refine ⟨KeepY.below (below_alloc _ _), ?_⟩
    have hA := below_alloc wj (.cells #[.bool false, .slice none 0 0, .slice none 0 0] 40)
    have Z5 : Hid ((wj.alloc (.cells #[.bool false, .slice none 0 0, .slice none 0 0] 40)).heap[wj.heap.size]? = some (.cells #[.bool false, .slice none 0 0, .slice none 0 0] 40)) := heap_alloc_new wj _
    have lb5 : W3.heap.size ≤ wj.heap.size := BC.out.size
    have BC := Lib.hid (BC.out.trans (hA.mono BC.out.size))
    have OH := Lib.hid (own_below OH.out hA)
    have ON := Lib.hid (own_below ON.out hA)
    clear hA
    generalize hb5 : wj.heap.size = b5 at *
    generalize wj.alloc (.cells #[.bool false, .slice none 0 0, .slice none 0 0] 40) = w7 at *
    clear hb5
    refine Y_last 8 _ rfl (by kernel_rfl) ?_
    simp only [List.getElem_toArray, List.getElem_cons_succ, List.getElem_cons_zero]
    intro wj hj
    have BC := Lib.hid (BC.out.trans (hj.mono BC.out.size))
    have OH := Lib.hid (own_below OH.out hj)
    have ON := Lib.hid (own_below ON.out hj)
    have Z5 := Lib.hid ((hj.block _ (Array.getElem?_eq_some_iff.1 Z5.out).1).trans Z5.out)
    clear hj
    obtain ⟨z0, z1, z2, lz⟩ := cl3 Z5.out
    have fz0 := frozen_of_heap Z5.out 0
    have fz1 := frozen_of_heap Z5.out 1
    have fz2 := frozen_of_heap Z5.out 2
    go_wp2_with fail
    have ZZ := Lib.hid (box3_set Z5.out (.bool true) (.slice (some ⟨bh, 0, none⟩) R R) (.slice (some ⟨bn, 0, none⟩) R R))
    have OW := Lib.hid (none_set Z5.out OH.out ON.out (.bool true) (.slice (some ⟨bh, 0, none⟩) R R) (.slice (some ⟨bn, 0, none⟩) R R))
    have BZ := Lib.hid (((BC.out.setCell (p := ⟨b5, 0, none⟩) lb5 (.bool true)).setCell (p := ⟨b5, 1, none⟩) lb5 (.slice (some ⟨bh, 0, none⟩) R R)).setCell (p := ⟨b5, 2, none⟩) lb5 (.slice (some ⟨bn, 0, none⟩) R R))
    generalize ((wj.setCell ⟨b5, 0, none⟩ (.bool true)).setCell ⟨b5, 1, none⟩ (.slice (some ⟨bh, 0, none⟩) R R)).setCell ⟨b5, 2, none⟩ (.slice (some ⟨bn, 0, none⟩) R R) = w8 at *
    clear z0 z1 z2 lz fz0 fz1 fz2 Z5 OH ON BC
    refine Y_done (by kernel_rfl) (fun wk hk => ?_) _
    have ZZ := Lib.hid ((hk.block _ (Array.getElem?_eq_some_iff.1 ZZ.out).1).trans ZZ.out)
    have OW := Lib.hid (OW.out.below hk)
    have BZ := Lib.hid (BZ.out.trans (hk.mono BZ.out.size))
    clear hk
    go_wp2_with fail
    go_meet
    case rel => exact ⟨b5, bh, bn, rfl, ZZ, OW, BZ, lb5⟩
   ·simp only [List.getElem_toArray, List.getElem_cons_succ, List.getElem_cons_zero]
    intro wj hj
    have BC := Lib.hid (BC.out.trans (hj.mono BC.out.size))
    have ON := Lib.hid (own_below ON.out hj)
    clear hj
    go_wp2_with fail
    refine ⟨KeepY.below (below_alloc _ _), ?_⟩
    have hA := below_alloc wj (.cells #[.bool false, .slice none 0 0, .slice none 0 0] 40)
    have Z5 : Hid ((wj.alloc (.cells #[.bool false, .slice none 0 0, .slice none 0 0] 40)).heap[wj.heap.size]? = some (.cells #[.bool false, .slice none 0 0, .slice none 0 0] 40)) := heap_alloc_new wj _
    have lb5 : W3.heap.size ≤ wj.heap.size := BC.out.size
    have BC := Lib.hid (BC.out.trans (hA.mono BC.out.size))
    have ON := Lib.hid (own_below ON.out hA)
    clear hA
    generalize hb5 : wj.heap.size = b5 at *
    generalize wj.alloc (.cells #[.bool false, .slice none 0 0, .slice none 0 0] 40) = w7 at *
    clear hb5
    refine Y_loud1 2 _ rfl (by kernel_rfl) ?_
    simp only [List.getElem_toArray, List.getElem_cons_succ, List.getElem_cons_zero]
    intro wj hj
    have BC := Lib.hid (BC.out.trans (hj.mono BC.out.size))
    have ON := Lib.hid (own_below ON.out hj)
    have Z5 := Lib.hid ((hj.block _ (Array.getElem?_eq_some_iff.1 Z5.out).1).trans Z5.out)
    clear hj
    go_wp2_with fail
    refine ⟨KeepY.below (below_alloc _ _), ?_⟩
    have hA := below_alloc wj (.cells (madeCells #[.bool false] R) 4)
    have OH := Lib.hid (own_made wj W3.heap.size 4 (.bool false) R (by omega) BC.out.size)
    have lbh : W3.heap.size ≤ wj.heap.size := BC.out.size
    have BC := Lib.hid (BC.out.trans (hA.mono BC.out.size))
    have ON := Lib.hid (own_below ON.out hA)
    have Z5 := Lib.hid ((hA.block _ (Array.getElem?_eq_some_iff.1 Z5.out).1).trans Z5.out)
    clear hA
    generalize hbh : wj.heap.size = bh at *
    generalize wj.alloc (.cells (madeCells #[.bool false] R) 4) = w2 at *
    clear hbh
    refine Y_mobs [6] _ _ _ _ (by kernel_rfl) ?_
    simp only [List.map_cons, List.map_nil, List.getElem?_toArray, List.getElem?_cons_succ, List.getElem?_cons_zero, Option.getD_some, List.size_toArray, List.length_cons, List.length_nil, Nat.reduceAdd, Nat.reduceSub]
    repeat (go_big_quiet_step (fail))
    refine wpQuiet_nil ?_
    refine Y_last 8 _ rfl (by kernel_rfl) ?_
    simp only [List.getElem_toArray, List.getElem_cons_succ, List.getElem_cons_zero]
    intro wj hj
    have BC := Lib.hid (BC.out.trans (hj.mono BC.out.size))
    have OH := Lib.hid (own_below OH.out hj)
    have ON := Lib.hid (own_below ON.out hj)
    have Z5 := Lib.hid ((hj.block _ (Array.getElem?_eq_some_iff.1 Z5.out).1).trans Z5.out)
    clear hj
    obtain ⟨z0, z1, z2, lz⟩ := cl3 Z5.out
    have fz0 := frozen_of_heap Z5.out 0
    have fz1 := frozen_of_heap Z5.out 1
    have fz2 := frozen_of_heap Z5.out 2
    go_wp2_with fail
    have ZZ := Lib.hid (box3_set Z5.out (.bool true) (.slice (some ⟨bh, 0, none⟩) R R) (.slice (some ⟨bn, 0, none⟩) R R))
    have OW := Lib.hid (none_set Z5.out OH.out ON.out (.bool true) (.slice (some ⟨bh, 0, none⟩) R R) (.slice (some ⟨bn, 0, none⟩) R R))
    have BZ := Lib.hid (((BC.out.setCell (p := ⟨b5, 0, none⟩) lb5 (.bool true)).setCell (p := ⟨b5, 1, none⟩) lb5 (.slice (some ⟨bh, 0, none⟩) R R)).setCell (p := ⟨b5, 2, none⟩) lb5 (.slice (some ⟨bn, 0, none⟩) R R))
    generalize ((wj.setCell ⟨b5, 0, none⟩ (.bool true)).setCell ⟨b5, 1, none⟩ (.slice (some ⟨bh, 0, none⟩) R R)).setCell ⟨b5, 2, none⟩ (.slice (some ⟨bn, 0, none⟩) R R) = w8 at *
    clear z0 z1 z2 lz fz0 fz1 fz2 Z5 OH ON BC
    refine Y_done (by kernel_rfl) (fun wk hk => ?_) _
    have ZZ := Lib.hid ((hk.block _ (Array.getElem?_eq_some_iff.1 ZZ.out).1).trans ZZ.out)
    have OW := Lib.hid (OW.out.below hk)
    have BZ := Lib.hid (BZ.out.trans (hk.mono BZ.out.size))
    clear hk
    go_wp2_with fail
    go_meet
    case rel => exact ⟨b5, bh, bn, rfl, ZZ, OW, BZ, lb5⟩
  ·simp only [List.getElem_toArray, List.getElem_cons_succ, List.getElem_cons_zero]
   intro wj hj
   have BC := Lib.hid (BC.out.trans (hj.mono BC.out.size))
   clear hj
   go_wp2_with fail
   refine ⟨KeepY.below (below_alloc _ _), ?_⟩
   have hA := below_alloc wj (.cells #[.bool false, .slice none 0 0, .slice none 0 0] 40)
   have Z5 : Hid ((wj.alloc (.cells #[.bool false, .slice none 0 0, .slice none 0 0] 40)).heap[wj.heap.size]? = some (.cells #[.bool false, .slice none 0 0, .slice none 0 0] 40)) := heap_alloc_new wj _
   have lb5 : W3.heap.size ≤ wj.heap.size := BC.out.size
   have BC := Lib.hid (BC.out.trans (hA.mono BC.out.size))
   clear hA
   generalize hb5 : wj.heap.size = b5 at *
   generalize wj.alloc (.cells #[.bool false, .slice none 0 0, .slice none 0 0] 40) = w7 at *
   clear hb5
   refine Y_loud2 2 5 _ _ rfl rfl (by kernel_rfl) ?_ ?_
   ·simp only [List.getElem_toArray, List.getElem_cons_succ, List.getElem_cons_zero]
    intro wj hj
    have BC := Lib.hid (BC.out.trans (hj.mono BC.out.size))
    have Z5 := Lib.hid ((hj.block _ (Array.getElem?_eq_some_iff.1 Z5.out).1).trans Z5.out)
    clear hj
    go_wp2_with fail
    refine ⟨KeepY.below (below_alloc _ _), ?_⟩
    have hA := below_alloc wj (.cells (madeCells #[.bool false] R) 4)
    have OH := Lib.hid (own_made wj W3.heap.size 4 (.bool false) R (by omega) BC.out.size)
    have lbh : W3.heap.size ≤ wj.heap.size := BC.out.size
    have BC := Lib.hid (BC.out.trans (hA.mono BC.out.size))
    have Z5 := Lib.hid ((hA.block _ (Array.getElem?_eq_some_iff.1 Z5.out).1).trans Z5.out)
    clear hA
    generalize hbh : wj.heap.size = bh at *
    generalize wj.alloc (.cells (madeCells #[.bool false] R) 4) = w2 at *
    clear hbh
    refine Y_loud1 5 _ rfl (by kernel_rfl) ?_
    simp only [List.getElem_toArray, List.getElem_cons_succ, List.getElem_cons_zero]
    intro wj hj
    have BC := Lib.hid (BC.out.trans (hj.mono BC.out.size))
    have OH := Lib.hid (own_below OH.out hj)
    have Z5 := Lib.hid ((hj.block _ (Array.getElem?_eq_some_iff.1 Z5.out).1).trans Z5.out)
    clear hj
    go_wp2_with fail
    refine ⟨KeepY.below (below_alloc _ _), ?_⟩
    have hA := below_alloc wj (.cells (madeCells #[.int .u32 0] R) 45)
    have ON := Lib.hid (own_made wj W3.heap.size 45 (.int .u32 0) R (by omega) BC.out.size)
    have lbn : W3.heap.size ≤ wj.heap.size := BC.out.size
    have BC := Lib.hid (BC.out.trans (hA.mono BC.out.size))
    have OH := Lib.hid (own_below OH.out hA)
    have Z5 := Lib.hid ((hA.block _ (Array.getElem?_eq_some_iff.1 Z5.out).1).trans Z5.out)
    clear hA
    generalize hbn : wj.heap.size = bn at *
    generalize wj.alloc (.cells (madeCells #[.int .u32 0] R) 45) = w5 at *
    clear hbn
    refine Y_mobs [6] _ _ _ _ (by kernel_rfl) ?_
    simp only [List.map_cons, List.map_nil, List.getElem?_toArray, List.getElem?_cons_succ, List.getElem?_cons_zero, Option.getD_some, List.size_toArray, List.length_cons, List.length_nil, Nat.reduceAdd, Nat.reduceSub]
    repeat (go_big_quiet_step (fail))
    refine wpQuiet_nil ?_
    refine Y_last 8 _ rfl (by kernel_rfl) ?_
    simp only [List.getElem_toArray, List.getElem_cons_succ, List.getElem_cons_zero]
    intro wj hj
    have BC := Lib.hid (BC.out.trans (hj.mono BC.out.size))
    have OH := Lib.hid (own_below OH.out hj)
    have ON := Lib.hid (own_below ON.out hj)
    have Z5 := Lib.hid ((hj.block _ (Array.getElem?_eq_some_iff.1 Z5.out).1).trans Z5.out)
    clear hj
    obtain ⟨z0, z1, z2, lz⟩ := cl3 Z5.out
    have fz0 := frozen_of_heap Z5.out 0
    have fz1 := frozen_of_heap Z5.out 1
    have fz2 := frozen_of_heap Z5.out 2
    go_wp2_with fail
    have ZZ := Lib.hid (box3_set Z5.out (.bool true) (.slice (some ⟨bh, 0, none⟩) R R) (.slice (some ⟨bn, 0, none⟩) R R))
    have OW := Lib.hid (none_set Z5.out OH.out ON.out (.bool true) (.slice (some ⟨bh, 0, none⟩) R R) (.slice (some ⟨bn, 0, none⟩) R R))
    have BZ := Lib.hid (((BC.out.setCell (p := ⟨b5, 0, none⟩) lb5 (.bool true)).setCell (p := ⟨b5, 1, none⟩) lb5 (.slice (some ⟨bh, 0, none⟩) R R)).setCell (p := ⟨b5, 2, none⟩) lb5 (.slice (some ⟨bn, 0, none⟩) R R))
    generalize ((wj.setCell ⟨b5, 0, none⟩ (.bool true)).setCell ⟨b5, 1, none⟩ (.slice (some ⟨bh, 0, none⟩) R R)).setCell ⟨b5, 2, none⟩ (.slice (some ⟨bn, 0, none⟩) R R) = w8 at *
    clear z0 z1 z2 lz fz0 fz1 fz2 Z5 OH ON BC
    refine Y_done (by kernel_rfl) (fun wk hk => ?_) _
    have ZZ := Lib.hid ((hk.block _ (Array.getElem?_eq_some_iff.1 ZZ.out).1).trans ZZ.out)
    have OW := Lib.hid (OW.out.below hk)
    have BZ := Lib.hid (BZ.out.trans (hk.mono BZ.out.size))
    clear hk
    go_wp2_with fail
    go_meet
    case rel => exact ⟨b5, bh, bn, rfl, ZZ, OW, BZ, lb5⟩
   ·simp only [List.getElem_toArray, List.getElem_cons_succ, List.getElem_cons_zero]
    intro wj hj
    have BC := Lib.hid (BC.out.trans (hj.mono BC.out.size))
    have Z5 := Lib.hid ((hj.block _ (Array.getElem?_eq_some_iff.1 Z5.out).1).trans Z5.out)
    clear hj
    go_wp2_with fail
    refine ⟨KeepY.below (below_alloc _ _), ?_⟩
    have hA := below_alloc wj (.cells (madeCells #[.int .u32 0] R) 45)
    have ON := Lib.hid (own_made wj W3.heap.size 45 (.int .u32 0) R (by omega) BC.out.size)
    have lbn : W3.heap.size ≤ wj.heap.size := BC.out.size
    have BC := Lib.hid (BC.out.trans (hA.mono BC.out.size))
    have Z5 := Lib.hid ((hA.block _ (Array.getElem?_eq_some_iff.1 Z5.out).1).trans Z5.out)
    clear hA
    generalize hbn : wj.heap.size = bn at *
    generalize wj.alloc (.cells (madeCells #[.int .u32 0] R) 45) = w5 at *
    clear hbn
    refine Y_loud1 2 _ rfl (by kernel_rfl) ?_
    simp only [List.getElem_toArray, List.getElem_cons_succ, List.getElem_cons_zero]
    intro wj hj
    have BC := Lib.hid (BC.out.trans (hj.mono BC.out.size))
    have ON := Lib.hid (own_below ON.out hj)
    have Z5 := Lib.hid ((hj.block _ (Array.getElem?_eq_some_iff.1 Z5.out).1).trans Z5.out)
    clear hj
    go_wp2_with fail
    refine ⟨KeepY.below (below_alloc _ _), ?_⟩
    have hA := below_alloc wj (.cells (madeCells #[.bool false] R) 4)
    have OH := Lib.hid (own_made wj W3.heap.size 4 (.bool false) R (by omega) BC.out.size)
    have lbh : W3.heap.size ≤ wj.heap.size := BC.out.size
    have BC := Lib.hid (BC.out.trans (hA.mono BC.out.size))
    have ON := Lib.hid (own_below ON.out hA)
    have Z5 := Lib.hid ((hA.block _ (Array.getElem?_eq_some_iff.1 Z5.out).1).trans Z5.out)
    clear hA
    generalize hbh : wj.heap.size = bh at *
    generalize wj.alloc (.cells (madeCells #[.bool false] R) 4) = w2 at *
    clear hbh
    refine Y_mobs [6] _ _ _ _ (by kernel_rfl) ?_
    simp only [List.map_cons, List.map_nil, List.getElem?_toArray, List.getElem?_cons_succ, List.getElem?_cons_zero, Option.getD_some, List.size_toArray, List.length_cons, List.length_nil, Nat.reduceAdd, Nat.reduceSub]
    repeat (go_big_quiet_step (fail))
    refine wpQuiet_nil ?_
    refine Y_last 8 _ rfl (by kernel_rfl) ?_
    simp only [List.getElem_toArray, List.getElem_cons_succ, List.getElem_cons_zero]
    intro wj hj
    have BC := Lib.hid (BC.out.trans (hj.mono BC.out.size))
    have OH := Lib.hid (own_below OH.out hj)
    have ON := Lib.hid (own_below ON.out hj)
    have Z5 := Lib.hid ((hj.block _ (Array.getElem?_eq_some_iff.1 Z5.out).1).trans Z5.out)
    clear hj
    obtain ⟨z0, z1, z2, lz⟩ := cl3 Z5.out
    have fz0 := frozen_of_heap Z5.out 0
    have fz1 := frozen_of_heap Z5.out 1
    have fz2 := frozen_of_heap Z5.out 2
    go_wp2_with fail
    have ZZ := Lib.hid (box3_set Z5.out (.bool true) (.slice (some ⟨bh, 0, none⟩) R R) (.slice (some ⟨bn, 0, none⟩) R R))
    have OW := Lib.hid (none_set Z5.out OH.out ON.out (.bool true) (.slice (some ⟨bh, 0, none⟩) R R) (.slice (some ⟨bn, 0, none⟩) R R))
    have BZ := Lib.hid (((BC.out.setCell (p := ⟨b5, 0, none⟩) lb5 (.bool true)).setCell (p := ⟨b5, 1, none⟩) lb5 (.slice (some ⟨bh, 0, none⟩) R R)).setCell (p := ⟨b5, 2, none⟩) lb5 (.slice (some ⟨bn, 0, none⟩) R R))
    generalize ((wj.setCell ⟨b5, 0, none⟩ (.bool true)).setCell ⟨b5, 1, none⟩ (.slice (some ⟨bh, 0, none⟩) R R)).setCell ⟨b5, 2, none⟩ (.slice (some ⟨bn, 0, none⟩) R R) = w8 at *
    clear z0 z1 z2 lz fz0 fz1 fz2 Z5 OH ON BC
    refine Y_done (by kernel_rfl) (fun wk hk => ?_) _
    have ZZ := Lib.hid ((hk.block _ (Array.getElem?_eq_some_iff.1 ZZ.out).1).trans ZZ.out)
    have OW := Lib.hid (OW.out.below hk)
    have BZ := Lib.hid (BZ.out.trans (hk.mono BZ.out.size))
    clear hk
    go_wp2_with fail
    go_meet
    case rel => exact ⟨b5, bh, bn, rfl, ZZ, OW, BZ, lb5⟩
 case rest =>
  clear hmkH hmkN p0 p1 p2 p3 p4 p5 lp
  obtain ⟨b5, bh, bn, rfl, Z5, OW, BC, lb5⟩ := hcut
  have HS : Hid (StartD p R w W3 wc (.slice ao p.objs.length co) ab cb nm gR w2.heap.size b5 bh bn) := ⟨(BC.out.block _ (by omega)).trans H0.out, HRE.out.below BC.out, Z5.out, OW.out, B3.out.trans (BC.out.mono B3.out.size), lb5, hsz, by omega, by omega⟩
  have HT : Hid (TbD wc (if (0 : Nat) = 0 then w2.heap.size else b5 + 1) (.slice (some ⟨w2.heap.size, 0, none⟩) p.blks.length p.blks.length) (List.replicate p.blks.length default) (rdN p R 0)) := HT0.out.below BC.out
  have HNO : Hid (∀ k, OkC (rdN p R k)) := fun k => rdN_ok (fun n hn i hin => (HI.out n hn).1.num i hin) k
  have HLN : Hid (∀ k, LenC R (rdN p R k)) := fun k => (rdN_down p R k).2
  have HEW : Hid (∀ wr, StartD p R w W3 wr (.slice ao p.objs.length co) ab cb nm gR w2.heap.size b5 bh bn → Ext w wr) := fun wr h => Ext.below h.bl
  clear hsz lgR hgR B3 s1 s2 H0 HRE HT0 Z5 OW BC
  generalize w2.heap.size = gT at *
  have hm0 : 0 ≤ (p.blks.length : Int) * (2 + (R : Int)) := Int.mul_nonneg (by omega) (by omega)
  have hm1 : (p.blks.length : Int) * (2 + (R : Int)) ≤ 1002000 := by
   have h1 : p.blks.length * (2 + R) ≤ 1000 * 1002 := Nat.mul_le_mul hn (by omega)
   have h2 : (p.blks.length : Int) * (2 + (R : Int)) = ((p.blks.length * (2 + R) : Nat) : Int) := by push_cast; rfl
   rw [h2]; omega
  have hKK : ((2 + p.blks.length * (2 + R) : Nat) : Int) = 2 + (p.blks.length : Int) * (2 + (R : Int)) := by push_cast; rfl
  obtain ⟨KK, hKN⟩ : ∃ KK : Nat, KK = 2 + p.blks.length * (2 + R) := ⟨_, rfl⟩
  have HQ : Hid (RconQ p R w = RconQ p R w) := rfl
  clear HQ
  have HKN := Lib.hid hKN
  have hKb : KK ≤ 1002002 := by
   have h1 : p.blks.length * (2 + R) ≤ 1000 * 1002 := Nat.mul_le_mul hn (by omega)
   omega
  rw [← hKN] at hKK
  have HKK := Lib.hid hKK
  clear hKN hKK
  obtain ⟨q0, q1, q2, q3, q4, q5, lq⟩ := cl6 HS.out.bp
  go_wp2_with fail
  go_loopw [4, 6] (fun v4 i wr => ∃ (k g4 c4 : Nat) (ds : List Dr), k ≤ KK ∧ i = .int .i64 (k : Int) ∧ v4 = .slice (some ⟨g4, 0, none⟩) p.blks.length c4 ∧ Hid (TbD wr (if k = 0 then gT else b5 + 1) (.slice (some ⟨g4, 0, none⟩) p.blks.length c4) ds (rdN p R k)) ∧ Hid (StartD p R w W3 wr (.slice ao p.objs.length co) ab cb nm gR gT b5 bh bn)) (fun _ i _ => KK - (intOf i).toNat)
  case atStart => exact ⟨0, _, _, _, Nat.zero_le _, rfl, rfl, HT, HS⟩
  case round =>
   clear HT HS q0 q1 q2 q3 q4 q5 lq
   obtain ⟨wA, rfl⟩ : ∃ wA, wA = wr := ⟨wr, rfl⟩
   obtain ⟨k, g4, c4, ds, hk, rfl, rfl, T, S⟩ := hrel
   obtain ⟨q0, q1, q2, q3, q4, q5, lq⟩ := cl6 S.out.bp
   by_cases hlt : k < KK
   ·have g1 : decide ((k : Int) < 2 + (p.blks.length : Int) * (2 + (R : Int))) = true := decide_eq_true (by rw [← HKK.out]; omega)
    have T20 : Hid (TbD wA wA.heap.size (.slice none 0 0) [] ((rdC p R (rdN p R k)).take 0)) := TbD.nil wA wA.heap.size
    have B20 : Hid (Below wA.heap.size wA wA) := Below.refl _ _
    go_wp2_with fail
    go_loopw [7, 8] (fun v7 i w7 => ∃ (j : Nat) (a7 : Option Addr) (c7 : Nat) (ds7 : List Dr), j ≤ p.blks.length ∧ i = .int .i64 (j : Int) ∧ v7 = .slice a7 j c7 ∧ Hid (TbD w7 wA.heap.size (.slice a7 j c7) ds7 ((rdC p R (rdN p R k)).take j)) ∧ Hid (Below wA.heap.size wA w7)) (fun _ i _ => p.blks.length - (intOf i).toNat)
    case atStart => exact ⟨0, _, _, _, Nat.zero_le _, rfl, rfl, T20, B20⟩
    case round =>
     clear T20 B20 q0 q1 q2 q3 q4 q5 lq
     obtain ⟨w7, rfl⟩ : ∃ w7, w7 = wr := ⟨wr, rfl⟩
     obtain ⟨j, a7, c7, ds7, hj, rfl, rfl, T7, B7⟩ := hrel
     have S7 := Lib.hid (S.out.below B7.out)
     have T4 := Lib.hid (T.out.below B7.out)
     obtain ⟨q0, q1, q2, q3, q4, q5, lq⟩ := cl6 S7.out.bp
     by_cases hjl : j < p.blks.length
     ·have g2 : decide (j < p.blks.length) = true := decide_eq_true hjl
      have g3 : decide ((j : Int) < (p.blks.length : Int)) = true := decide_eq_true (by omega)
      go_wp2_with fail
      have hA8 := below_alloc w7 (.cells #[.bool false, .slice none 0 0, .slice none 0 0] 40)
      have Z8 : Hid ((w7.alloc (.cells #[.bool false, .slice none 0 0, .slice none 0 0] 40)).heap[w7.heap.size]? = some (.cells #[.bool false, .slice none 0 0, .slice none 0 0] 40)) := heap_alloc_new w7 _
      have l9 : w7.heap.size < (w7.alloc (.cells #[.bool false, .slice none 0 0, .slice none 0 0] 40)).heap.size := by simp
      generalize w7.alloc (.cells #[.bool false, .slice none 0 0, .slice none 0 0] 40) = w8 at *
      refine (HPR.out (j : Int) w8 ((HEW.out _ S7.out).trans (Ext.below hA8))).mono ?_
      rintro e w9 ⟨vl, rfl, ol, hb9⟩
      obtain ⟨al, cl, rfl⟩ := ow_form ol
      have HPL := Lib.hid (preds_lt (p := p) (j : Int))
      have hpl : (predsP p (j : Int)).length ≤ 1000 := by
       have h := predsU_le p (j : Int) p.blks.length
       exact Nat.le_trans h (by omega)
      have HJ : Hid (rdB p R (rdN p R k) j = if j = 0 then some (roNo R) else hrC p (rdN p R k) (predsP p (j : Int))) := rdB_hr _ _
      generalize predsP p (j : Int) = L at *
      generalize hb : w7.heap.size = b9 at *
      have D0 : Hid (DrO w9 (b9 + 1) ⟨false, .slice none 0 0, .slice none 0 0⟩ (hrC p (rdN p R k) (L.take 0))) := ⟨rfl, own_nil _ _ _ _, own_nil _ _ _ _⟩
      have Z9 : Hid (w9.heap[b9]? = some (.cells #[.bool (Dr.mk false (.slice none 0 0) (.slice none 0 0)).s, (Dr.mk false (.slice none 0 0) (.slice none 0 0)).h, (Dr.mk false (.slice none 0 0) (.slice none 0 0)).n] 40)) := (hb9.block _ l9).trans Z8.out
      have O9 : Hid (OwnI w9 (b9 + 1) (.slice al L.length cl) L) := by
       show World.ownsRow _ _ _ _ _ _ _
       exact ow_base ol (by omega)
      have B9 : Hid (Below b9 w7 w9) := hA8.trans (hb9.mono (by have := hA8.size; omega))
      have HS9 : Hid (∀ W, Below b9 w7 W → StartD p R w W3 W (.slice ao p.objs.length co) ab cb nm gR gT b5 bh bn) := fun W hW => S7.out.below (by rw [hb]; exact hW)
      have HT9 : Hid (∀ W, Below b9 w7 W → TbD W (if k = 0 then gT else b5 + 1) (.slice (some ⟨g4, 0, none⟩) p.blks.length c4) ds (rdN p R k)) := fun W hW => T4.out.below (by rw [hb]; exact hW)
      have HT7 : Hid (∀ W, Below b9 w7 W → TbD W wA.heap.size (.slice a7 j c7) ds7 ((rdC p R (rdN p R k)).take j)) := fun W hW => T7.out.below (by rw [hb]; exact hW)
      have HB7 : Hid (∀ W, Below b9 w7 W → Below wA.heap.size wA W) := fun W hW => B7.out.trans (hW.mono (by rw [← hb]; exact B7.out.size))
      have lw9 : b9 < w9.heap.size := by have := hb9.size; omega
      have HB9 : Hid (wA.heap.size ≤ b9 + 1) := show _ ≤ _ by have := B7.out.size; omega
      clear hA8 Z8 hb9 ol S7 T4 T7 B7 q0 q1 q2 q3 q4 q5 lq T S l9 hb
      go_wp2_with fail
      go_loopw [11] (fun i w10 => ∃ (m : Nat) (d : Dr), m ≤ L.length ∧ i = .int .i64 (m : Int) ∧ Hid (w10.heap[b9]? = some (.cells #[.bool d.s, d.h, d.n] 40)) ∧ Hid (DrO w10 (b9 + 1) d (hrC p (rdN p R k) (L.take m))) ∧ Hid (OwnI w10 (b9 + 1) (.slice al L.length cl) L) ∧ Hid (Below b9 w7 w10)) (fun i _ => L.length - (intOf i).toNat)
      case atStart => exact ⟨0, _, Nat.zero_le _, rfl, Z9, D0, O9, B9⟩
      case round =>
       clear Z9 D0 O9 B9 lw9
       obtain ⟨w10, rfl⟩ : ∃ w10, w10 = wr := ⟨wr, rfl⟩
       obtain ⟨m, d, hm, rfl, Z, D, O, B⟩ := hrel
       by_cases hml : m < L.length
       ·have g4' : decide (m < L.length) = true := decide_eq_true hml
        have g5 : decide ((m : Int) < (L.length : Int)) = true := decide_eq_true (by omega)
        have S10 := Lib.hid (HS9.out w10 B.out)
        have T10 := Lib.hid (HT9.out w10 B.out)
        have hEW := HEW.out _ S10.out
        obtain ⟨q0, q1, q2, q3, q4, q5, lq⟩ := cl6 S10.out.bp
        obtain ⟨gl, c', e⟩ := own_slice (show World.ownsRow _ _ _ _ _ _ _ from O.out) (by omega)
        simp only [Value.slice.injEq] at e
        obtain ⟨rfl, -, rfl⟩ := e
        obtain ⟨-, -, -, hgl, hlc, -⟩ := O.out.cellAt
        have lc := hlc m hml
        have llc := World.block_lt_of_cell? _ _ lc
        obtain ⟨hp0, hp1⟩ := HPL.out (L.getD m 0) (by simp [List.getD, hml])
        have hon := hrC_on (p := p) (rdN p R k) L m hml
        obtain ⟨qn, hqn⟩ := Int.eq_ofNat_of_zero_le hp0
        rw [hqn] at lc hp1 hon
        rw [Int.toNat_natCast] at hp1 hon
        have HON := Lib.hid hon
        clear hon hp0 hqn hlc hgl
        obtain ⟨hrl, -, -, -, hrc, -, -⟩ := S10.out.re.cellAt
        have rc := hrc qn (by omega)
        have hXl : qn < (rdN p R k).length := by rw [rdN_len]; exact hp1
        obtain ⟨t0, t1, t2⟩ := T10.out.at (i := qn) hXl
        have lt0 := World.block_lt_of_cell? _ _ t0
        have hrow := T10.out.row qn hXl
        generalize ds.getD qn default = dq at *
        have hsd := hrow.s
        obtain ⟨z0, z1, z2, lz⟩ := cl3 Z.out
        have g6 : decide (qn < p.blks.length) = true := decide_eq_true hp1
        have g7 : decide ((qn : Int) < (p.blks.length : Int)) = true := decide_eq_true (by omega)
        clear hrl hrc hXl
        cases hr : (reachP p).getD qn false
        ·have HT' : Hid (hrC p (rdN p R k) (L.take (m + 1)) = hrC p (rdN p R k) (L.take m)) := by
          show _ = _
          rw [HON.out, hr, if_neg (by decide)]
         rw [hr] at rc
         clear hr HON hsd hrow T10 S10 hEW
         go_wp2_with fail
         go_roundw
         case rel => exact ⟨m + 1, d, hml, by go_num, Z, by rw [HT'.out]; exact D, O, B⟩
         case measure => simp [intOf]; omega
        ·cases ho : (rdN p R k).getD qn none with
         | none =>
          have HT' : Hid (hrC p (rdN p R k) (L.take (m + 1)) = hrC p (rdN p R k) (L.take m)) := by
           show _ = _
           rw [HON.out, hr, if_pos rfl, ho]; rfl
          rw [hr] at rc
          rw [ho] at hsd
          simp only [Option.isSome_none] at hsd
          rw [hsd] at t0
          clear hr ho HON hsd hrow T10 S10 hEW
          go_wp2_with fail
          go_roundw
          case rel => exact ⟨m + 1, d, hml, by go_num, Z, by rw [HT'.out]; exact D, O, B⟩
          case measure => simp [intOf]; omega
         | some t =>
          rw [hr] at rc
          rw [ho] at hsd hrow
          simp only [Option.isSome_some] at hsd
          rw [hsd] at t0
          have hdv : dq.v = .agg #[.bool true, dq.h, dq.n] := by unfold Dr.v; rw [hsd]
          have hrd := hrow.rd
          rw [hdv] at hrd
          have htl : t.length = R := HLN.out k qn t ho
          have htk : RoOk t := HNO.out k qn t ho
          obtain ⟨hin, hus, hinl⟩ := HI.out qn hp1
          obtain ⟨bb, ob, vi, rfl, hvi, k0, k1, k2, k3, k4⟩ := HBK.out qn hp1
          have k0 := hEW _ _ k0
          have k1 := hEW _ _ k1
          have k2 := hEW _ _ k2
          have k3 := hEW _ _ k3
          have k4 := hEW _ _ k4
          have lbb := World.block_lt_of_cell? _ _ k0
          have HHL := hrC_len (p := p) (R := R) (HLN.out k) (L.take m)
          have HT' : Hid (hrC p (rdN p R k) (L.take (m + 1)) = some (meetO (hrC p (rdN p R k) (L.take m)) (thrC t (p.blks.getD qn default).ins))) := by
           show _ = _
           rw [HON.out, hr, if_pos rfl, ho, hearC_some]
          generalize p.blks.getD qn default = BK at *
          have HEND : Hid (∀ W, Below w10.heap.size w10 W → Calls Tryz.prog 37 #[.agg #[.bool true, dq.h, dq.n], .agg #[vi, .int .i64 BK.fin, .int .i64 BK.a, .int .i64 BK.to, .int .i64 BK.els]] W fun e w' => ∃ v', e = .returned v' ∧ RwV w' v' (some (thrC t BK.ins)) ∧ Below W.heap.size W w') := fun W hW => by
           have h1 := hrd.ext (Ext.below hW)
           refine (rend_c _ _ t BK W h1 ⟨vi, rfl, (hvi.ext hEW).ext (Ext.below hW)⟩ (by omega) htk (by rw [htl]; exact hin) (by rw [htl]; exact hus) hinl).mono ?_
           rintro e w' ⟨v', h2, h3, h4⟩
           exact ⟨v', h2, h3.rd (h1.ext (Ext.below h4)), h4⟩
          have HMT : Hid (∀ W vb, Below w10.heap.size w10 W → RwV W vb (some (thrC t BK.ins)) → Calls Tryz.prog 36 #[.agg #[.bool d.s, d.h, d.n], vb] W fun e w' => ∃ v', e = .returned v' ∧ OwRw w' W.heap.size v' true (meetO (hrC p (rdN p R k) (L.take m)) (thrC t BK.ins)) ∧ Below W.heap.size W w') := fun W vb hW hb =>
           rmeet_c _ vb _ _ W (D.out.rd.ext (Ext.below hW)) hb (by rw [thrC_len]; omega) (fun a ha => by rw [HHL a ha, thrC_len, htl])
          generalize hrC p (rdN p R k) (L.take m) = XO at *
          generalize thrC t BK.ins = TT at *
          obtain ⟨ai, ci, rfl, -⟩ := hvi
          clear hr ho HON hsd hrow T10 S10 hEW hrd hdv htl htk hin hus hinl HHL
          go_wp2_with fail
          refine wp_region_game (fun z => z = b9 ∨ z = w.heap.size ∨ z = gl ∨ z = g4 ∨ z = bb) (by kernel_rfl) ?_
          show wpE _ _ _ _ _ _ _ w10.drew
          refine E_mob2s [0, 1, 2, 3, 4, 5, 6, 7, 8, 9, 10, 11, 12, 13, 14, 15] _ _ _ _ (by kernel_rfl) ?_
          simp only [List.map_cons, List.map_nil, List.getElem?_toArray, List.getElem?_cons_succ, List.getElem?_cons_zero, Option.getD_some, List.size_toArray, List.length_cons, List.length_nil, Nat.reduceAdd, Nat.reduceSub]
          repeat (go_big_quiet_step (fail))
          refine wpQuiet_nil ?_
          refine E_loud1 16 _ rfl (by kernel_rfl) ?_
          simp only [List.getElem_toArray, List.getElem_cons_succ, List.getElem_cons_zero]
          go_wp2_with fail
          refine (HEND.out _ (Below.refl _ _).drew).mono ?_
          rintro e w11 ⟨v11, rfl, hv11, hb11⟩
          have b11 : Below w10.heap.size w10 w11 := (Below.refl w10.heap.size w10).drew.trans hb11
          have HMT2 := Lib.hid (HMT.out w11 v11 b11 hv11)
          have HK11 : Hid (Keep (fun z => z = b9 ∨ z = w.heap.size ∨ z = gl ∨ z = g4 ∨ z = bb) w10.drew w11) := keep_below hb11 (fun z hz => by rcases hz with rfl | rfl | rfl | rfl | rfl <;> assumption)
          have l11 : b9 < w11.heap.size := Nat.lt_of_lt_of_le lz b11.size
          have B11 := Lib.hid b11
          have hz11 := (b11.block _ lz).trans Z.out
          clear HEND HMT hv11 hb11 b11 q0 q1 q2 q3 q4 q5 z0 z1 z2 lc rc t0 t1 t2 k0 k1 k2 k3 k4
          obtain ⟨z0, z1, z2, -⟩ := cl3 hz11
          have S11 : ∀ z, (z = b9 ∨ z = w.heap.size ∨ z = gl ∨ z = g4 ∨ z = bb) → z < w11.heap.size := fun z hz => Nat.lt_of_lt_of_le (by rcases hz with rfl | rfl | rfl | rfl | rfl <;> assumption) B11.out.size
          have HS11 := Lib.hid S11
          clear S11
          go_wp2_with fail
          refine ⟨HK11.out, ?_⟩
          refine E_loud1 17 _ rfl (by kernel_rfl) ?_
          simp only [List.getElem_toArray, List.getElem_cons_succ, List.getElem_cons_zero]
          go_wp2_with fail
          refine HMT2.out.mono ?_
          clear HMT2 HK11
          rintro e w12 ⟨v12, rfl, ⟨vh, vn, rfl, oo1, oo2⟩, hb12⟩
          obtain ⟨ah3, ch3, rfl⟩ := ow_form oo1
          obtain ⟨an3, cn3, rfl⟩ := ow_form oo2
          have HO12 : Hid (OwRw w12 w11.heap.size (.agg #[.bool true, .slice ah3 (meetO XO TT).length ch3, .slice an3 (meetO XO TT).length cn3]) true (meetO XO TT)) := ⟨_, _, rfl, oo1, oo2⟩
          have hz12 := (hb12.block _ l11).trans hz11
          have HK12 : Hid (Keep (fun z => z = b9 ∨ z = w.heap.size ∨ z = gl ∨ z = g4 ∨ z = bb) w11 w12) := keep_below hb12 HS11.out
          have B12 := Lib.hid (B11.out.trans (hb12.mono B11.out.size))
          clear hz11 hb12 oo1 oo2 z0 z1 z2
          generalize (meetO XO TT).length = ml at *
          obtain ⟨z0, z1, z2, lz12⟩ := cl3 hz12
          have fz0 := frozen_of_heap hz12 0
          have fz1 := frozen_of_heap hz12 1
          have fz2 := frozen_of_heap hz12 2
          have Z13 := Lib.hid (box3_set hz12 (.bool true) (.slice ah3 ml ch3) (.slice an3 ml cn3))
          have O13 : Hid (OwnI (((w12.setCell ⟨b9, 0, none⟩ (.bool true)).setCell ⟨b9, 1, none⟩ (.slice ah3 ml ch3)).setCell ⟨b9, 2, none⟩ (.slice an3 ml cn3)) (b9 + 1) (.slice (some ⟨gl, 0, none⟩) L.length cl) L) := ow_set (ow_set (ow_set (own_below O.out B12.out) (by omega)) (by omega)) (by omega)
          have D13 : Hid (DrO (((w12.setCell ⟨b9, 0, none⟩ (.bool true)).setCell ⟨b9, 1, none⟩ (.slice ah3 ml ch3)).setCell ⟨b9, 2, none⟩ (.slice an3 ml cn3)) (b9 + 1) ⟨true, .slice ah3 ml ch3, .slice an3 ml cn3⟩ (hrC p (rdN p R k) (L.take (m + 1)))) := by
           rw [HT'.out]
           obtain ⟨vh, vn, e, o1, o2⟩ := (HO12.out.base (B' := b9 + 1) (by omega)).set3 (b := b9) (u0 := .bool true) (u1 := .slice ah3 ml ch3) (u2 := .slice an3 ml cn3) (by omega)
           simp only [Value.agg.injEq, Array.mk.injEq, List.cons.injEq, and_true, true_and] at e
           obtain ⟨rfl, rfl⟩ := e
           exact ⟨rfl, o1, o2⟩
          have B13 := Lib.hid ((((B.out.trans (B12.out.mono (by omega))).setCell (p := ⟨b9, 0, none⟩) (Nat.le_refl _) (.bool true)).setCell (p := ⟨b9, 1, none⟩) (Nat.le_refl _) (.slice ah3 ml ch3)).setCell (p := ⟨b9, 2, none⟩) (Nat.le_refl _) (.slice an3 ml cn3))
          clear HO12 HT' HS11 B12 B11 hz12 Z D O B l11
          go_wp2_with fail
          refine ⟨HK12.out, ?_⟩
          refine E_last 18 _ rfl (by kernel_rfl) ?_
          simp only [List.getElem_toArray, List.getElem_cons_succ, List.getElem_cons_zero]
          go_wp2_with fail
          refine E_done (by kernel_rfl) ?_ _
          clear z0 z1 z2 lz12 fz0 fz1 fz2 HK12
          go_wp2_with fail
          go_roundw
          case rel => exact ⟨m + 1, ⟨true, .slice ah3 ml ch3, .slice an3 ml cn3⟩, hml, by go_num, Z13, D13, O13, B13⟩
          case measure => simp [intOf]; omega
       ·obtain rfl : m = L.length := by omega
        rw [List.take_length] at D
        have S10 := Lib.hid (HS9.out w10 B.out)
        obtain ⟨q0, q1, q2, q3, q4, q5, lq⟩ := cl6 S10.out.bp
        obtain ⟨sd, dh, dn⟩ := d
        obtain ⟨a1, c1, e1⟩ := ow_form D.out.h
        dsimp only at e1
        subst e1
        obtain ⟨a2, c2, e2⟩ := ow_form D.out.n
        dsimp only at e2
        subst e2
        dsimp only at Z
        obtain ⟨z0, z1, z2, lz⟩ := cl3 Z.out
        have HLJ : Hid (((rdC p R (rdN p R k)).take j).length = j) := by
         show _ = _
         rw [List.length_take]
         have : (rdC p R (rdN p R k)).length = p.blks.length := by simp [rdC]
         omega
        have HTK := Lib.hid (rdC_take (p := p) (R := R) (rdN p R k) j hjl)
        by_cases hj0 : j = 0
        ·have g8 : ((j : Int) == 0) = true := by simp [hj0]
         have HJ' : Hid (rdB p R (rdN p R k) j = some (roNo R)) := by
          show _ = _
          rw [HJ.out, if_pos hj0]
         have HCP : Hid (Calls Tryz.prog 38 #[.agg #[.bool true, .slice (some ⟨bh, 0, none⟩) R R, .slice (some ⟨bn, 0, none⟩) R R]] w10 fun e w' => ∃ v', e = .returned v' ∧ OwRw w' w10.heap.size v' true (roNo R) ∧ Below w10.heap.size w10 w') := copied_c _ (some (roNo R)) w10 S10.out.no.rdS (by rw [Option.getD_some, roNo_len]; exact hRb)
         obtain ⟨y0, y1, y2, ly⟩ := cl3 S10.out.bz
         clear hj0 HJ D S10
         go_wp2_with fail
         refine HCP.out.mono ?_
         clear HCP
         rintro e w12 ⟨v12, rfl, ⟨vh, vn, rfl, oo1, oo2⟩, hb12⟩
         obtain ⟨ah3, ch3, rfl⟩ := ow_form oo1
         obtain ⟨an3, cn3, rfl⟩ := ow_form oo2
         have HO12 : Hid (OwRw w12 w10.heap.size (.agg #[.bool true, .slice ah3 (roNo R).length ch3, .slice an3 (roNo R).length cn3]) true (roNo R)) := ⟨_, _, rfl, oo1, oo2⟩
         have hz12 := (hb12.block _ lz).trans Z.out
         have B12 := Lib.hid hb12
         clear hb12 oo1 oo2 z0 z1 z2 q0 q1 q2 q3 q4 q5 y0 y1 y2 ly
         generalize (roNo R).length = ml at *
         obtain ⟨z0, z1, z2, lz12⟩ := cl3 hz12
         have fz0 := frozen_of_heap hz12 0
         have fz1 := frozen_of_heap hz12 1
         have fz2 := frozen_of_heap hz12 2
         have Z13 := Lib.hid (box3_set hz12 (.bool true) (.slice ah3 ml ch3) (.slice an3 ml cn3))
         have D13 : Hid (DrO (((w12.setCell ⟨b9, 0, none⟩ (.bool true)).setCell ⟨b9, 1, none⟩ (.slice ah3 ml ch3)).setCell ⟨b9, 2, none⟩ (.slice an3 ml cn3)) (b9 + 1) ⟨true, .slice ah3 ml ch3, .slice an3 ml cn3⟩ (rdB p R (rdN p R k) j)) := by
          rw [HJ'.out]
          obtain ⟨vh, vn, e, o1, o2⟩ := (HO12.out.base (B' := b9 + 1) (by omega)).set3 (b := b9) (u0 := .bool true) (u1 := .slice ah3 ml ch3) (u2 := .slice an3 ml cn3) (by omega)
          simp only [Value.agg.injEq, Array.mk.injEq, List.cons.injEq, and_true, true_and] at e
          obtain ⟨rfl, rfl⟩ := e
          exact ⟨rfl, o1, o2⟩
         have B13 := Lib.hid ((((B.out.trans (B12.out.mono (by omega))).setCell (p := ⟨b9, 0, none⟩) (Nat.le_refl _) (.bool true)).setCell (p := ⟨b9, 1, none⟩) (Nat.le_refl _) (.slice ah3 ml ch3)).setCell (p := ⟨b9, 2, none⟩) (Nat.le_refl _) (.slice an3 ml cn3))
         clear HO12 HJ' B12 hz12 Z B O
         go_upto_region 20 with (fail)
         generalize ((w12.setCell ⟨b9, 0, none⟩ (.bool true)).setCell ⟨b9, 1, none⟩ (.slice ah3 ml ch3)).setCell ⟨b9, 2, none⟩ (.slice an3 ml cn3) = w13 at *
         have hAP := Lib.hid (HT7.out _ B13.out)
         clear z0 z1 z2 lz12 fz0 fz1 fz2 lz
         obtain ⟨z0, z1, z2, lz⟩ := cl3 Z13.out
         have hbw : wA.heap.size ≤ b9 + 1 := HB9.out
         have hsW := (HB7.out _ B13.out).size
         have hown : w13.ownsRow wA.heap.size 40 3 (.slice a7 j c7) j (ds7.flatMap Dr.cells) := by
          have h := hAP.out.own
          rw [HLJ.out] at h
          exact h
         have HOW := Lib.hid (own_below hown (below_alloc w13 (.cells #[.bool true, .slice ah3 ml ch3, .slice an3 ml cn3] 40)))
         clear hown
         go_wp2_with (at_builtin; refine appG 36 40 info_rowd Tryz.underlying36 rfl (by decide) (by decide) [.bool true, .slice ah3 ml ch3, .slice an3 ml cn3] rfl (by simp [Value.oneCell']) HOW.out rfl rfl rfl rfl (cell_newL w13 #[.bool true, .slice ah3 ml ch3, .slice an3 ml cn3] _ _ rfl) (by omega) (by simp; omega) ?_; intro v15 w15 O15 G15 D15)
         have hgr := (grown_below (below_alloc w13 (.cells #[.bool true, .slice ah3 ml ch3, .slice an3 ml cn3] 40)) (Value.slice a7 j c7).ownBlock).trans G15
         have T15 : Hid (TbD w15 wA.heap.size v15 (ds7 ++ [⟨true, .slice ah3 ml ch3, .slice an3 ml cn3⟩]) ((rdC p R (rdN p R k)).take (j + 1))) := by
          rw [HTK.out]
          exact hAP.out.app (D13.out.base hbw) hgr (by rw [HLJ.out]; exact O15)
         have B15 : Hid (Below wA.heap.size wA w15) := below_grown (HB7.out _ B13.out) hgr hsW (fun b hb => ow_ge hAP.out.own hb)
         obtain ⟨a15, c15, rfl⟩ := ow_form O15
         clear HOW hAP hgr O15 G15 D15 D13 B13 z0 z1 z2 lz hbw hsW Z13
         go_wp2_with fail
         go_roundw
         case rel => exact ⟨j + 1, a15, c15, _, hjl, by go_num, rfl, T15, B15⟩
         case measure => simp [intOf]; omega
        ·have g8 : ((j : Int) == 0) = false := by
          rw [beq_eq_false_iff_ne]; omega
         have D' : Hid (DrO w10 (b9 + 1) ⟨sd, .slice a1 ((hrC p (rdN p R k) L).getD []).length c1, .slice a2 ((hrC p (rdN p R k) L).getD []).length c2⟩ (rdB p R (rdN p R k) j)) := by
          rw [HJ.out, if_neg hj0]; exact D
         have hAP := Lib.hid (HT7.out _ B.out)
         generalize ((hrC p (rdN p R k) L).getD []).length = ml at *
         clear HJ hj0 D S10 q0 q1 q2 q3 q4 q5 O z0 z1 z2 lz
         go_upto_region 20 with (fail)
         obtain ⟨z0, z1, z2, lz⟩ := cl3 Z.out
         have hbw : wA.heap.size ≤ b9 + 1 := HB9.out
         have hsW := (HB7.out _ B.out).size
         have hown : w10.ownsRow wA.heap.size 40 3 (.slice a7 j c7) j (ds7.flatMap Dr.cells) := by
          have h := hAP.out.own
          rw [HLJ.out] at h
          exact h
         have HOW := Lib.hid (own_below hown (below_alloc w10 (.cells #[.bool sd, .slice a1 ml c1, .slice a2 ml c2] 40)))
         clear hown
         go_wp2_with (at_builtin; refine appG 36 40 info_rowd Tryz.underlying36 rfl (by decide) (by decide) [.bool sd, .slice a1 ml c1, .slice a2 ml c2] rfl (by simp [Value.oneCell']) HOW.out rfl rfl rfl rfl (cell_newL w10 #[.bool sd, .slice a1 ml c1, .slice a2 ml c2] _ _ rfl) (by omega) (by simp; omega) ?_; intro v15 w15 O15 G15 D15)
         have hgr := (grown_below (below_alloc w10 (.cells #[.bool sd, .slice a1 ml c1, .slice a2 ml c2] 40)) (Value.slice a7 j c7).ownBlock).trans G15
         have T15 : Hid (TbD w15 wA.heap.size v15 (ds7 ++ [⟨sd, .slice a1 ml c1, .slice a2 ml c2⟩]) ((rdC p R (rdN p R k)).take (j + 1))) := by
          rw [HTK.out]
          exact hAP.out.app (D'.out.base hbw) hgr (by rw [HLJ.out]; exact O15)
         have B15 : Hid (Below wA.heap.size wA w15) := below_grown (HB7.out _ B.out) hgr hsW (fun b hb => ow_ge hAP.out.own hb)
         obtain ⟨a15, c15, rfl⟩ := ow_form O15
         clear HOW hAP hgr O15 G15 D15 D' B z0 z1 z2 lz hbw hsW Z
         go_wp2_with fail
         go_roundw
         case rel => exact ⟨j + 1, a15, c15, _, hjl, by go_num, rfl, T15, B15⟩
         case measure => simp [intOf]; omega
     ·obtain rfl : j = p.blks.length := by omega
      have hT7 := T7.out
      rw [rdC_all] at hT7
      have hrl : (rdC p R (rdN p R k)).length = p.blks.length := by simp [rdC]
      obtain ⟨g7, c', e⟩ := own_slice hT7.own (by omega)
      simp only [Value.slice.injEq] at e
      obtain ⟨rfl, -, rfl⟩ := e
      have lb5' : b5 < wA.heap.size := (Array.getElem?_eq_some_iff.1 S.out.bz).1
      have T8 : Hid (TbD w7 (if k + 1 = 0 then gT else b5 + 1) (.slice (some ⟨g7, 0, none⟩) p.blks.length c7) ds7 (rdN p R (k + 1))) := hT7.base (by rw [if_neg (by omega)]; omega)
      clear hT7 hrl lb5' T7 B7 T4 T S
      go_wp2_with fail
      go_roundw
      case rel => exact ⟨k + 1, g7, c7, ds7, hlt, by go_num, rfl, T8, S7⟩
      case measure => simp [intOf]; omega
   ·obtain rfl : k = KK := by omega
    have g1 : decide ((k : Int) < 2 + (p.blks.length : Int) * (2 + (R : Int))) = false := decide_eq_false (by rw [← HKK.out]; omega)
    have T8 : Hid (TbD wA (b5 + 1) (.slice (some ⟨g4, 0, none⟩) p.blks.length c4) ds (finX p R (rdN p R k) 0)) := by
     have h := T.out
     rw [if_neg (by have := HKN.out; omega)] at h
     rw [finX_zero (by rw [rdN_len])]
     exact h
    clear T hlt
    go_wp2_with fail
    go_loopw [12] (fun i wr => ∃ (q : Nat) (ds : List Dr), q ≤ p.blks.length ∧ i = .int .i64 (q : Int) ∧ Hid (TbD wr (b5 + 1) (.slice (some ⟨g4, 0, none⟩) p.blks.length c4) ds (finX p R (rdN p R k) q)) ∧ Hid (StartD p R w W3 wr (.slice ao p.objs.length co) ab cb nm gR gT b5 bh bn)) (fun i _ => p.blks.length - (intOf i).toNat)
    case atStart => exact ⟨0, _, Nat.zero_le _, rfl, T8, S⟩
    case round =>
     clear T8 S q0 q1 q2 q3 q4 q5 lq
     obtain ⟨w7, rfl⟩ : ∃ w7, w7 = wr := ⟨wr, rfl⟩
     obtain ⟨q, ds', hq, rfl, T, S⟩ := hrel
     by_cases hql : q < p.blks.length
     ·have g2 : decide (q < p.blks.length) = true := decide_eq_true hql
      have g3 : decide ((q : Int) < (p.blks.length : Int)) = true := decide_eq_true (by omega)
      obtain ⟨hrl, -, -, -, hrc, -, -⟩ := S.out.re.cellAt
      have rc := hrc q (by omega)
      have hXl : q < (finX p R (rdN p R k) q).length := by rw [finX_len]; exact hql
      obtain ⟨t0, t1, t2⟩ := T.out.at (i := q) hXl
      have lt0 := World.block_lt_of_cell? _ _ t0
      have hrow := (T.out.row q hXl).s
      rw [finX_at hql] at hrow
      have HFN := Lib.hid (finX_on (p := p) (R := R) (X := rdN p R k) hql)
      have hTo := T.out.own
      rw [finX_len] at hTo
      obtain ⟨hg4, csg, hcg⟩ := own_heap hTo (by omega)
      clear hTo
      have fr0 := frozen_of_heap hcg (q * 3)
      have fr1 := frozen_of_heap hcg (q * 3 + 1)
      have fr2 := frozen_of_heap hcg (q * 3 + 2)
      obtain ⟨y0, y1, y2, ly⟩ := cl3 S.out.bz
      have HCP : Hid (Calls Tryz.prog 38 #[.agg #[.bool true, .slice (some ⟨bh, 0, none⟩) R R, .slice (some ⟨bn, 0, none⟩) R R]] w7 fun e w' => ∃ v', e = .returned v' ∧ OwRw w' w7.heap.size v' true (roNo R) ∧ Below w7.heap.size w7 w') := copied_c _ (some (roNo R)) w7 S.out.no.rdS (by rw [Option.getD_some, roNo_len]; exact hRb)
      generalize (ds'.getD q default).s = sq at *
      generalize (ds'.getD q default).h = sh at *
      generalize (ds'.getD q default).n = sn at *
      clear hrl hrc hXl
      cases hr : (reachP p).getD q false
      ·have HE : Hid (endC p R (rdN p R k) q = roNo R) := by
        show _ = _
        unfold endC; rw [hr, if_neg (by decide)]
       rw [hr] at rc
       try clear hrow
       go_wp2_with fail
       refine HCP.out.mono ?_
       clear HCP
       rintro e w12 ⟨v12, rfl, ⟨vh, vn, rfl, oo1, oo2⟩, hb12⟩
       obtain ⟨ah3, ch3, rfl⟩ := ow_form oo1
       obtain ⟨an3, cn3, rfl⟩ := ow_form oo2
       have hS12 := S.out.below hb12
       have hT12 := T.out.below hb12
       have hc12 := (hb12.block _ (Array.getElem?_eq_some_iff.1 hcg).1).trans hcg
       have D12 : DrO w12 (b5 + 1) ⟨true, .slice ah3 (roNo R).length ch3, .slice an3 (roNo R).length cn3⟩ (some (roNo R)) := DrO.base ⟨rfl, oo1, oo2⟩ (by omega)
       have T8 : Hid (TbD (((w12.setCell ⟨g4, q * 3, none⟩ (.bool true)).setCell ⟨g4, q * 3 + 1, none⟩ (.slice ah3 (roNo R).length ch3)).setCell ⟨g4, q * 3 + 2, none⟩ (.slice an3 (roNo R).length cn3)) (b5 + 1) (.slice (some ⟨g4, 0, none⟩) p.blks.length c4) (ds'.set q ⟨true, .slice ah3 (roNo R).length ch3, .slice an3 (roNo R).length cn3⟩) (finX p R (rdN p R k) (q + 1))) := by
        rw [HFN.out, HE.out]
        exact hT12.put D12 (by rw [finX_len]; exact hql)
       have S8 : Hid (StartD p R w W3 (((w12.setCell ⟨g4, q * 3, none⟩ (.bool true)).setCell ⟨g4, q * 3 + 1, none⟩ (.slice ah3 (roNo R).length ch3)).setCell ⟨g4, q * 3 + 2, none⟩ (.slice an3 (roNo R).length cn3)) (.slice ao p.objs.length co) ab cb nm gR gT b5 bh bn) := by
        have q1 := hS12.put (i := q * 3) hg4 hc12 (.bool true)
        have q2 := q1.put (i := q * 3 + 1) hg4 (heap_setCell_same _ _ _ _ _ _ hc12) (.slice ah3 (roNo R).length ch3)
        exact q2.put (i := q * 3 + 2) hg4 (heap_setCell_same _ _ _ _ _ _ (heap_setCell_same _ _ _ _ _ _ hc12)) (.slice an3 (roNo R).length cn3)
       have gr0 := frozen_of_heap hc12 (q * 3)
       have gr1 := frozen_of_heap hc12 (q * 3 + 1)
       have gr2 := frozen_of_heap hc12 (q * 3 + 2)
       obtain ⟨k0, k1, k2⟩ := hT12.at (i := q) (by rw [finX_len]; exact hql)
       generalize (ds'.getD q default).s = xq at *
       generalize (ds'.getD q default).h = xh at *
       generalize (ds'.getD q default).n = xn at *
       generalize (roNo R).length = ml at *
       clear hS12 hT12 D12 oo1 oo2 hb12 hc12 HE HFN T S fr0 fr1 fr2 y0 y1 y2 ly t0 t1 t2 lt0 rc hr
       go_wp2_with fail
       go_roundw
       case rel => exact ⟨q + 1, _, hql, by go_num, T8, S8⟩
       case measure => simp [intOf]; omega
      ·cases ho : (rdN p R k).getD q none with
       | none =>
        have HE : Hid (endC p R (rdN p R k) q = roNo R) := by
         show _ = _
         unfold endC; rw [hr, if_pos rfl, ho]; rfl
        rw [hr] at rc
        rw [ho] at hrow
        simp only [Option.isSome_none] at hrow
        subst hrow
        try clear hrow
        go_wp2_with fail
        refine HCP.out.mono ?_
        clear HCP
        rintro e w12 ⟨v12, rfl, ⟨vh, vn, rfl, oo1, oo2⟩, hb12⟩
        obtain ⟨ah3, ch3, rfl⟩ := ow_form oo1
        obtain ⟨an3, cn3, rfl⟩ := ow_form oo2
        have hS12 := S.out.below hb12
        have hT12 := T.out.below hb12
        have hc12 := (hb12.block _ (Array.getElem?_eq_some_iff.1 hcg).1).trans hcg
        have D12 : DrO w12 (b5 + 1) ⟨true, .slice ah3 (roNo R).length ch3, .slice an3 (roNo R).length cn3⟩ (some (roNo R)) := DrO.base ⟨rfl, oo1, oo2⟩ (by omega)
        have T8 : Hid (TbD (((w12.setCell ⟨g4, q * 3, none⟩ (.bool true)).setCell ⟨g4, q * 3 + 1, none⟩ (.slice ah3 (roNo R).length ch3)).setCell ⟨g4, q * 3 + 2, none⟩ (.slice an3 (roNo R).length cn3)) (b5 + 1) (.slice (some ⟨g4, 0, none⟩) p.blks.length c4) (ds'.set q ⟨true, .slice ah3 (roNo R).length ch3, .slice an3 (roNo R).length cn3⟩) (finX p R (rdN p R k) (q + 1))) := by
         rw [HFN.out, HE.out]
         exact hT12.put D12 (by rw [finX_len]; exact hql)
        have S8 : Hid (StartD p R w W3 (((w12.setCell ⟨g4, q * 3, none⟩ (.bool true)).setCell ⟨g4, q * 3 + 1, none⟩ (.slice ah3 (roNo R).length ch3)).setCell ⟨g4, q * 3 + 2, none⟩ (.slice an3 (roNo R).length cn3)) (.slice ao p.objs.length co) ab cb nm gR gT b5 bh bn) := by
         have q1 := hS12.put (i := q * 3) hg4 hc12 (.bool true)
         have q2 := q1.put (i := q * 3 + 1) hg4 (heap_setCell_same _ _ _ _ _ _ hc12) (.slice ah3 (roNo R).length ch3)
         exact q2.put (i := q * 3 + 2) hg4 (heap_setCell_same _ _ _ _ _ _ (heap_setCell_same _ _ _ _ _ _ hc12)) (.slice an3 (roNo R).length cn3)
        have gr0 := frozen_of_heap hc12 (q * 3)
        have gr1 := frozen_of_heap hc12 (q * 3 + 1)
        have gr2 := frozen_of_heap hc12 (q * 3 + 2)
        obtain ⟨k0, k1, k2⟩ := hT12.at (i := q) (by rw [finX_len]; exact hql)
        generalize (ds'.getD q default).s = xq at *
        generalize (ds'.getD q default).h = xh at *
        generalize (ds'.getD q default).n = xn at *
        generalize (roNo R).length = ml at *
        clear hS12 hT12 D12 oo1 oo2 hb12 hc12 HE HFN T S fr0 fr1 fr2 y0 y1 y2 ly t0 t1 t2 lt0 rc hr
        go_wp2_with fail
        go_roundw
        case rel => exact ⟨q + 1, _, hql, by go_num, T8, S8⟩
        case measure => simp [intOf]; omega
       | some t =>
        have HE : Hid (endC p R (rdN p R k) q = t) := by
         show _ = _
         unfold endC; rw [hr, if_pos rfl, ho]; rfl
        have T8 : Hid (TbD w7 (b5 + 1) (.slice (some ⟨g4, 0, none⟩) p.blks.length c4) ds' (finX p R (rdN p R k) (q + 1))) := by
         rw [HFN.out, HE.out, ← ho, finX_set]
         exact T.out
        rw [hr] at rc
        rw [ho] at hrow
        simp only [Option.isSome_some] at hrow
        subst hrow
        clear hr ho HE HFN HCP T fr0 fr1 fr2 y0 y1 y2 ly hg4 hcg
        go_wp2_with fail
        go_roundw
        case rel => exact ⟨q + 1, ds', hql, by go_num, T8, S⟩
        case measure => simp [intOf]; omega
     ·obtain rfl : q = p.blks.length := by omega
      have hfin := T.out
      rw [finX_all] at hfin
      have HF := Lib.hid (hfin.base (Nat.zero_le (b5 + 1)))
      have HB := Lib.hid S.out.bl
      clear hfin T S
      go_wp2_with fail
      go_ret
      have hk := HKN.out
      subst hk
      exact ⟨_, _, rfl, HF.out, HB.out⟩
end Go.Proofs.YtkhfddodmjnecaaGreatDoor
