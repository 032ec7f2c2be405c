/-
 inline.All: the row of procedures in memory.; inline.All: the walk.
-/
import Derived.Test.YtchoiankeohonaaGreatDoorZInlineAll45
import Derived.Test.YtchoiankeohonaaGreatDoorZInlineAll46
import Derived.Test.YtchoiankeohonaaGreatDoorZInlineAll33
import Derived.Test.YtchoiankeohonaaGreatDoorZInlineAll01
import Derived.Test.YtchoiankeohonaaGreatDoorZInlineAll07

set_option linter.all false
namespace Go.Proofs.YtchoiankeohonaaGreatDoor
open Go.ChangeShapes Go.WideShapes Go.ChangeAt Go.RowKit
set_option maxHeartbeats 4000000
set_option maxRecDepth 100000
set_option linter.unusedVariables false
abbrev PrX := Pr × ByteArray × Value × Value
theorem clonePr (v : Value) (n : Nat) (xs : List Value) (w : World) (h : Src w v n xs) (hl : xs.length = n * 6) (hn : n ≤ 1000000) (h1 : ∀ u ∈ xs, u.oneCell' = true) :
  Calls Tryz.prog 16 #[v] w fun e w' => ∃ v', e = .returned v' ∧ w'.ownsRow w.heap.size 35 6 v' n xs ∧ Below w.heap.size w w' := by
 rcases h with ⟨⟨c0, rfl⟩, rfl, rfl⟩ | ⟨ad, c, rfl, -, -, hc⟩
 ·have hnil := fun w => Lib.run_eql_slice_nil (P := Tryz.prog) w 24 35 none 0 c0 0 0 Tryz.underlying24
  go_enter Tryz.func16, Tryz.ntmps16
  go_wp2_with fail
  go_ret
  exact ⟨_, rfl, World.ownsRow_nil _ _ _ _, Below.refl _ _⟩
 ·have hnil := fun w => Lib.run_eql_slice_nil (P := Tryz.prog) w 24 35 (some ad) n c 0 0 Tryz.underlying24
  obtain ⟨i0, hi, hz0, hz1, hz2⟩ := info_parts info_pr
  have HC : Hid (∀ j u, xs[j]? = some u → (w.alloc (.cells #[] 35)).cell? (ad.add j) = some u) := fun j u hj => by
   obtain ⟨b, o, rfl, hx⟩ := hc j u hj
   rw [vadd_plain]
   exact ((vbelow1 w _).cell (p := ⟨b, o + j, none⟩) (World.block_lt_of_cell? w _ hx)).trans hx
  clear hc
  go_enter Tryz.func16, Tryz.ntmps16
  go_wp2_with (at_builtin; refine wpList_append_own _ rfl _ _ 24 rfl w.heap.size 35 i0 (.agg #[.string ⟨#[]⟩, .bool false, .int .i64 0, .int .i64 0, .slice none 0 0, .slice none 0 0]) 6 88 Tryz.underlying24 hi hz0 hz1 hz2 rfl (by decide) (.slice (some ⟨w.heap.size, 0, none⟩) 0 0) 0 [] rfl (World.ownsRow_made w #[] 0 (Nat.le_refl _) (by simp [maxLen]) (by simp)) ad n c xs rfl hl HC.out h1 (by unfold maxLen; omega) (by omega) (by simp) ?_; intro v' w1 hown hgrow hnn)
  go_ret
  simp only [Nat.zero_add, List.nil_append] at hown
  exact ⟨v', rfl, hown, (vbelow1 w _).grown hgrow (by simp) fun k hk => by simp [Value.ownBlock] at hk; omega⟩
instance : Inhabited PrX := ⟨(default, ⟨#[]⟩, .slice none 0 0, .slice none 0 0)⟩
/-- a row of procedures as cells -/
theorem RdPrs.src {w : World} {v : Value} {l : List Pr} (h : RdPrs w v l) : ∃ L : List PrX, L.map Prod.fst = l ∧ (∀ x ∈ L, RdSls w x.2.2.1 x.1.objs ∧ RdBks w x.2.2.2 x.1.blks) ∧ Src w v l.length (L.flatMap prCells) := by
 obtain ⟨L, hl, hP, hs⟩ := src_rows (P := fun i (x : PrX) => x.1 = l.getD i default ∧ RdSls w x.2.2.1 x.1.objs ∧ RdBks w x.2.2.2 x.1.blks) prCells (fun _ => rfl) h (fun i c hi hc => by
  obtain ⟨⟨nm, h0⟩, h1, h2, h3, ⟨vo, h4, ho⟩, ⟨vb, h5, hb⟩⟩ := hc
  refine ⟨(l.getD i default, nm, vo, vb), ⟨rfl, ho, hb⟩, fun j u hj => ?_⟩
  match j, hj with
  | 0, hj => simp [prCells] at hj; subst hj; exact h0
  | 1, hj => simp [prCells] at hj; subst hj; exact h1
  | 2, hj => simp [prCells] at hj; subst hj; exact h2
  | 3, hj => simp [prCells] at hj; subst hj; exact h3
  | 4, hj => simp [prCells] at hj; subst hj; exact h4
  | 5, hj => simp [prCells] at hj; subst hj; exact h5
  | j + 6, hj => simp [prCells] at hj)
 refine ⟨L, ?_, fun x hx => ?_, hs⟩
 ·apply List.ext_getElem (by simpa using hl)
  intro i h1 h2
  have := (hP i (by simpa using h1)).1
  simp [List.getD, h2] at this
  simpa using this
 ·obtain ⟨i, hi, rfl⟩ := List.getElem_of_mem hx
  exact (hP i hi).2
theorem pr_one20 (L : List PrX) (h : ∀ x ∈ L, (∃ a n c, x.2.2.1 = .slice a n c) ∧ ∃ a n c, x.2.2.2 = .slice a n c) : ∀ u ∈ L.flatMap prCells, u.oneCell' = true := fun u hu => by
 obtain ⟨x, hx, hu⟩ := List.mem_flatMap.1 hu
 exact pr_ones x.2.1 x.1.void x.1.params x.1.regs x.2.2.1 x.2.2.2 (h x hx).1 (h x hx).2 u hu
/-- the row of procedures that All makes -/
structure AlD (wb w : World) (B : Nat) (v : Value) (L : List PrX) : Prop where
 own : w.ownsRow B 35 6 v L.length (L.flatMap prCells)
 good : ∀ x ∈ L, RdSls wb x.2.2.1 x.1.objs ∧ BkS wb w x.2.2.2 x.1.blks
 be : Below wb.heap.size wb w
 bB : wb.heap.size ≤ B
section
variable {wb w w' : World} {B : Nat} {v : Value} {L : List PrX}
theorem AlD.below (h : AlD wb w B v L) (hb : Below w.heap.size w w') : AlD wb w' B v L :=
 ⟨own_below h.own hb, fun x hx => ⟨(h.good x hx).1, (h.good x hx).2.below hb⟩, h.be.trans (hb.mono h.be.size), h.bB⟩
theorem AlD.rd (h : AlD wb w B v L) : RdPrs w v (L.map Prod.fst) := by
 have H := own_flat (α := PrX) (f := prCells) (by decide : 0 < 6) (fun _ => rfl) h.own
 have hE := Ext.below h.be
 unfold RdPrs
 rw [List.length_map]
 obtain ⟨a, c, h1, h2, h3, h4⟩ := H
 refine ⟨a, c, h1, h2, h3, fun i hi => ?_⟩
 obtain ⟨b, o, e1, r⟩ := h4 i hi
 have eg : L.getD i default = L[i] := by simp [List.getD, hi]
 have eg2 : (L.map Prod.fst).getD i default = L[i].1 := by simp [List.getD, hi]
 rw [eg] at r
 have := h.good _ (List.getElem_mem hi)
 refine ⟨b, o, e1, ?_⟩
 dsimp only
 rw [eg2]
 exact ⟨⟨_, r 0 _ rfl⟩, r 1 _ rfl, r 2 _ rfl, r 3 _ rfl, ⟨_, r 4 _ rfl, this.1.ext hE⟩, ⟨_, r 5 _ rfl, this.2.rd hE⟩⟩
theorem AlD.form (h : AlD wb w B v L) (h0 : 0 < L.length) : ∃ g c, v = .slice (some ⟨g, 0, none⟩) L.length c ∧ B ≤ g ∧ ∃ cur, w.heap[g]? = some (.cells cur 35) := by
 obtain ⟨-, ⟨rfl, h3⟩ | ⟨g, cap, cur, rfl, h4, h5, -⟩⟩ := h.own
 ·omega
 ·exact ⟨g, cap, rfl, h4, cur, h5⟩
/-- a procedure of the row written whole -/
theorem AlD.put6 {g c : Nat} (h : AlD wb w B (.slice (some ⟨g, 0, none⟩) L.length c) L) {k : Nat} (hk : k < L.length) {y : PrX} (hy : RdSls wb y.2.2.1 y.1.objs ∧ BkS wb w y.2.2.2 y.1.blks) :
  AlD wb ((((((w.setCell ⟨g, k * 6, none⟩ (.string y.2.1)).setCell ⟨g, k * 6 + 1, none⟩ (.bool y.1.void)).setCell ⟨g, k * 6 + 2, none⟩ (.int .i64 y.1.params)).setCell ⟨g, k * 6 + 3, none⟩ (.int .i64 y.1.regs)).setCell ⟨g, k * 6 + 4, none⟩ y.2.2.1).setCell ⟨g, k * 6 + 5, none⟩ y.2.2.2) B (.slice (some ⟨g, 0, none⟩) (L.set k y).length c) (L.set k y) ∧
   But g w ((((((w.setCell ⟨g, k * 6, none⟩ (.string y.2.1)).setCell ⟨g, k * 6 + 1, none⟩ (.bool y.1.void)).setCell ⟨g, k * 6 + 2, none⟩ (.int .i64 y.1.params)).setCell ⟨g, k * 6 + 3, none⟩ (.int .i64 y.1.regs)).setCell ⟨g, k * 6 + 4, none⟩ y.2.2.1).setCell ⟨g, k * 6 + 5, none⟩ y.2.2.2) := by
 obtain ⟨-, ⟨e, -⟩ | ⟨g2, cap, cur, e, hB, hg2, -⟩⟩ := id h.own
 ·cases e
 simp only [Value.slice.injEq, Option.some.injEq, Addr.mk.injEq, and_true, true_and] at e
 obtain ⟨rfl, rfl⟩ := e
 have h1 := (World.ownsRow.stored h.own (k * 6 + 0) (.string y.2.1)).1
 rw [flat_setS prCells 6 (fun _ => rfl) L k 0 (.string y.2.1) ((L.getD k default).1, y.2.1, (L.getD k default).2.2.1, (L.getD k default).2.2.2) hk (by decide) rfl] at h1
 have h2 := (World.ownsRow.stored h1 (k * 6 + 1) (.bool y.1.void)).1
 rw [flat_setS prCells 6 (fun _ => rfl) _ k 1 (.bool y.1.void) ({ (L.getD k default).1 with void := y.1.void }, y.2.1, (L.getD k default).2.2.1, (L.getD k default).2.2.2) (by simpa using hk) (by decide) (by simp [List.getD, hk]; rfl), List.set_set] at h2
 have h3 := (World.ownsRow.stored h2 (k * 6 + 2) (.int .i64 y.1.params)).1
 rw [flat_setS prCells 6 (fun _ => rfl) _ k 2 (.int .i64 y.1.params) ({ (L.getD k default).1 with void := y.1.void, params := y.1.params }, y.2.1, (L.getD k default).2.2.1, (L.getD k default).2.2.2) (by simpa using hk) (by decide) (by simp [List.getD, hk]; rfl), List.set_set] at h3
 have h4 := (World.ownsRow.stored h3 (k * 6 + 3) (.int .i64 y.1.regs)).1
 rw [flat_setS prCells 6 (fun _ => rfl) _ k 3 (.int .i64 y.1.regs) ({ (L.getD k default).1 with void := y.1.void, params := y.1.params, regs := y.1.regs }, y.2.1, (L.getD k default).2.2.1, (L.getD k default).2.2.2) (by simpa using hk) (by decide) (by simp [List.getD, hk]; rfl), List.set_set] at h4
 have h5 := (World.ownsRow.stored h4 (k * 6 + 4) y.2.2.1).1
 rw [flat_setS prCells 6 (fun _ => rfl) _ k 4 y.2.2.1 ({ (L.getD k default).1 with void := y.1.void, params := y.1.params, regs := y.1.regs }, y.2.1, y.2.2.1, (L.getD k default).2.2.2) (by simpa using hk) (by decide) (by simp [List.getD, hk]; rfl), List.set_set] at h5
 have h6 := (World.ownsRow.stored h5 (k * 6 + 5) y.2.2.2).1
 rw [flat_setS prCells 6 (fun _ => rfl) _ k 5 y.2.2.2 y (by simpa using hk) (by decide) (by simp [List.getD, hk]; rfl), List.set_set] at h6
 have hb : But g w ((((((w.setCell ⟨g, k * 6 + 0, none⟩ (.string y.2.1)).setCell ⟨g, k * 6 + 1, none⟩ (.bool y.1.void)).setCell ⟨g, k * 6 + 2, none⟩ (.int .i64 y.1.params)).setCell ⟨g, k * 6 + 3, none⟩ (.int .i64 y.1.regs)).setCell ⟨g, k * 6 + 4, none⟩ y.2.2.1).setCell ⟨g, k * 6 + 5, none⟩ y.2.2.2) :=
  (((((But.setCell g _ w _).trans (But.setCell g _ _ _)).trans (But.setCell g _ _ _)).trans (But.setCell g _ _ _)).trans (But.setCell g _ _ _)).trans (But.setCell g _ _ _)
 refine ⟨⟨by rw [List.length_set]; exact h6, fun x hx => ?_, h.be.trans (hb.toBelow (Nat.le_trans h.bB hB) h.be.size), h.bB⟩, hb⟩
 rcases List.mem_or_eq_of_mem_set hx with hx | rfl
 ·exact ⟨(h.good x hx).1, (h.good x hx).2.but hb hg2 (by decide) (by decide)⟩
 ·exact ⟨hy.1, hy.2.but hb hg2 (by decide) (by decide)⟩
end
end Go.Proofs.YtchoiankeohonaaGreatDoor

set_option linter.all false
namespace Go.Proofs.YtchoiankeohonaaGreatDoor
open Go.ChangeShapes Go.WideShapes Go.ChangeAt Go.RowKit
set_option maxHeartbeats 4000000
set_option maxRecDepth 100000
set_option linter.unusedVariables false
theorem AlD.but {wb w w' : World} {B : Nat} {v : Value} {L : List PrX} (h : AlD wb w B v L) {b : Nat} {cs : Array Value} {ty : TypeId} (hb : But b w w') (hc : w.heap[b]? = some (.cells cs ty)) (hw : wb.heap.size ≤ b) (h1 : 35 ≠ ty) (h2 : 48 ≠ ty) (h3 : 51 ≠ ty) : AlD wb w' B v L := by
 refine ⟨?_, fun x hx => ⟨(h.good x hx).1, (h.good x hx).2.but hb hc h2 h3⟩, h.be.trans (hb.toBelow hw h.be.size), h.bB⟩
 obtain ⟨k1, k2 | ⟨g', cap, cur, e, k4, k5, k6⟩⟩ := h.own
 ·exact ⟨k1, .inl k2⟩
 ·refine ⟨k1, .inr ⟨g', cap, cur, e, k4, (hb.block g' (Array.getElem?_eq_some_iff.1 k5).1 (fun z => ?_)).trans k5, k6⟩⟩
  subst z
  rw [hc] at k5
  simp only [Option.some.injEq, Obj.cells.injEq] at k5
  exact h1 k5.2.1.symm
def AllP (m : Md) (w : World) (e : Ending) (w' : World) : Prop := ∃ v', e = .returned v' ∧ MdV w' v' (allM m) ∧ Below w.heap.size w w'
theorem all_c (m : Md) (vm : Value) (w : World) (hm : MdV w vm m) (hI : AllI m) (hok : okM m = true) (hmd : MdOk m) (hs : SzM m) (hpl : m.procs.length ≤ 1000) :
  Calls Tryz.prog 6 #[vm] w (AllP m w) := by
 have HMV := Lib.hid hm
 have HI := Lib.hid hI
 have HOK := Lib.hid hok
 have HMD := Lib.hid hmd
 have HSM := Lib.hid hs
 obtain ⟨vg, vd, vp, rfl, hvg, hvd, hvp⟩ := hm
 have HG0 := Lib.hid hvg
 have HD := Lib.hid hvd
 obtain ⟨L0, hL0, hgd, hsrc⟩ := hvp.src
 obtain ⟨ag, cg, rfl, -⟩ := hvg
 obtain ⟨ad, cd, rfl, -⟩ := hvd
 obtain ⟨ap, cp, rfl, hp1, hp2, -⟩ := id hvp
 unfold maxLen at hp2
 have HPS := Lib.hid (RdPrs.at6 hvp).2
 have hlL : L0.length = m.procs.length := by rw [← hL0, List.length_map]
 have HL0 := Lib.hid hL0
 have HSRC := Lib.hid hsrc
 have HGD := Lib.hid hgd
 clear hvp hL0 hgd hsrc hI hok hmd hs
 obtain ⟨W0, hW0⟩ : ∃ W0, W0 = allocs w [.cells #[.slice ag m.globs.length cg, .slice ad m.data.length cd, .slice ap m.procs.length cp, .int .i64 m.main] 26, .cells #[.slice none 0 0, .slice none 0 0, .slice none 0 0, .int .i64 0] 26, .cells #[.slice ag m.globs.length cg, .slice ad m.data.length cd, .slice ap m.procs.length cp, .int .i64 m.main] 26] := ⟨_, rfl⟩
 have B0 : Hid (Below w.heap.size w W0) := by rw [hW0]; exact allocs_below _ _
 have H0 : Hid (W0.heap[w.heap.size]? = some (.cells #[.slice ag m.globs.length cg, .slice ad m.data.length cd, .slice ap m.procs.length cp, .int .i64 m.main] 26 (0, 0))) := by rw [hW0]; exact allocs_heap _ w 0 (by simp)
 have H1 : Hid (W0.heap[w.heap.size + 1]? = some (.cells #[.slice none 0 0, .slice none 0 0, .slice none 0 0, .int .i64 0] 26 (0, 0))) := by rw [hW0]; exact allocs_heap _ w 1 (by simp)
 have H2 : Hid (W0.heap[w.heap.size + 2]? = some (.cells #[.slice ag m.globs.length cg, .slice ad m.data.length cd, .slice ap m.procs.length cp, .int .i64 m.main] 26 (0, 0))) := by rw [hW0]; exact allocs_heap _ w 2 (by simp)
 have hz0 : W0.heap.size = w.heap.size + 1 + 1 + 1 := by rw [hW0, allocs_size]; simp
 unfold allocs at hW0
 simp only [List.foldl_cons, List.foldl_nil] at hW0
 have HW0 := Lib.hid hW0.symm
 clear hW0
 obtain ⟨y0, y1, y2, y3, l0⟩ := cl4 H0.out
 go_enter Tryz.func6, Tryz.ntmps6
 go_upto_region 2 with (fail)
 rw [HW0.out]
 go_wp2_with fail
 refine (clonePr _ m.procs.length _ W0 (HSRC.out.keep (Ext.below B0.out)) (by rw [flat_len prCells 6 (fun _ => rfl), hlL]) (by omega) (pr_one20 L0 fun x hx => ⟨Rows'.sl (HGD.out x hx).1, Rows'.sl (HGD.out x hx).2⟩)).mono ?_
 rintro e w1 ⟨vc, rfl, hoc, hb1⟩
 have hL : hlL = hlL := rfl
 have A1 : Hid (AlD w w1 W0.heap.size vc L0) := ⟨by rw [hlL]; exact hoc, fun x hx => ⟨(HGD.out x hx).1, .inl (HGD.out x hx).2⟩, B0.out.trans (hb1.mono B0.out.size), B0.out.size⟩
 have H0 := Lib.hid ((hb1.block _ (by omega)).trans H0.out)
 have H1 := Lib.hid ((hb1.block _ (by omega)).trans H1.out)
 have H2 := Lib.hid ((hb1.block _ (by omega)).trans H2.out)
 obtain ⟨ac, cc, rfl⟩ := row_form hoc
 clear hb1 hoc hL y0 y1 y2 y3 l0 HSRC HGD
 obtain ⟨z0, z1, z2, z3, l2⟩ := cl4 H2.out
 have zf := frozen_of_heap H2.out 2
 obtain ⟨W2, hW2⟩ : ∃ W2, W2 = w1.setCell ⟨w.heap.size + 2, 2, none⟩ (.slice ac m.procs.length cc) := ⟨_, rfl⟩
 have HB2 : Hid (But (w.heap.size + 2) w1 W2) := by rw [hW2]; exact But.setCell _ _ _ _
 have A2 := Lib.hid (A1.out.but HB2.out H2.out (by omega) (by decide) (by decide) (by decide))
 have G0 : Hid (W2.heap[w.heap.size]? = some (.cells #[.slice ag m.globs.length cg, .slice ad m.data.length cd, .slice ap m.procs.length cp, .int .i64 m.main] 26)) := (HB2.out.block _ (Array.getElem?_eq_some_iff.1 H0.out).1 (by omega)).trans H0.out
 have G1 : Hid (W2.heap[w.heap.size + 1]? = some (.cells #[.slice none 0 0, .slice none 0 0, .slice none 0 0, .int .i64 0] 26)) := (HB2.out.block _ (Array.getElem?_eq_some_iff.1 H1.out).1 (by omega)).trans H1.out
 have G2 : Hid (W2.heap[w.heap.size + 2]? = some (.cells #[.slice ag m.globs.length cg, .slice ad m.data.length cd, .slice ac m.procs.length cc, .int .i64 m.main] 26)) := by rw [hW2]; exact heap_setCell_same w1 _ 2 _ _ _ H2.out
 have HW2 := Lib.hid hW2.symm
 obtain ⟨y0, y1, y2, y3, l0⟩ := cl4 H0.out
 have hne : w.heap.size ≠ w.heap.size + 2 := by omega
 clear hW2
 go_wp2_with fail
 rw [HW2.out]
 clear HW2 z0 z1 z2 z3 l2 zf y0 y1 y2 y3 l0 H0 H1 H2 A1 HB2 HW0
 have hb0 : W0.heap.size = w.heap.size + 3 := by omega
 clear B0
 go_loopw [14] (fun iv wr => ∃ (k : Nat) (L : List PrX), iv = .int .i64 (k : Int) ∧ k ≤ m.procs.length ∧ Hid (AlD w wr W0.heap.size (.slice ac m.procs.length cc) L) ∧ Hid (L.map Prod.fst = allL m k) ∧ Hid (wr.heap[w.heap.size]? = some (.cells #[.slice ag m.globs.length cg, .slice ad m.data.length cd, .slice ap m.procs.length cp, .int .i64 m.main] 26) ∧ wr.heap[w.heap.size + 1]? = some (.cells #[.slice none 0 0, .slice none 0 0, .slice none 0 0, .int .i64 0] 26) ∧ wr.heap[w.heap.size + 2]? = some (.cells #[.slice ag m.globs.length cg, .slice ad m.data.length cd, .slice ac m.procs.length cc, .int .i64 m.main] 26))) (fun iv _ => m.procs.length - (intOf iv).toNat)
 case atStart => exact ⟨0, L0, rfl, Nat.zero_le _, A2, by rw [allL_zero]; exact HL0, ⟨G0.out, G1.out, G2.out⟩⟩
 case round =>
  clear A2 G0 G1 G2
  obtain ⟨k, L, rfl, hk, A, HLk, HG⟩ := hrel
  have hLl : L.length = m.procs.length := by
   have := congrArg List.length HLk.out
   rw [List.length_map, allL_len] at this
   exact this
  by_cases hlt : k < m.procs.length
  ·have g1 : decide ((k : Int) < (m.procs.length : Int)) = true := decide_eq_true (by omega)
   have g2 : decide (k < m.procs.length) = true := decide_eq_true hlt
   obtain ⟨bp, op, tnm, tvo, tvb, hap, hto, htb, t0, t1, t2, t3, t4, t5⟩ := HPS.out k hlt
   subst hap
   rw [show m.procs.getD k default = pk m k from rfl] at hto htb t1 t2 t3
   have HPV : Hid (PrV w (.agg #[.string tnm, .bool (pk m k).void, .int .i64 (pk m k).params, .int .i64 (pk m k).regs, tvo, tvb]) (pk m k)) := ⟨tnm, tvo, tvb, rfl, hto, htb⟩
   have HSZ : Hid (SzP (pk m k)) := HSM.out.procs _ (by unfold pk; simp [List.getD, hlt])
   obtain ⟨ao, co, rfl, -⟩ := hto
   obtain ⟨ab, cb, rfl, -⟩ := htb
   have hE := Ext.below A.out.be
   replace t0 := hE _ _ t0
   replace t1 := hE _ _ t1
   replace t2 := hE _ _ t2
   replace t3 := hE _ _ t3
   replace t4 := hE _ _ t4
   replace t5 := hE _ _ t5
   have HSMALL := Lib.hid (fun (W : World) (hE : Ext w W) => small_c (pk m k) _ W (HPV.out.ext hE) HSZ.out)
   have HINL := Lib.hid (fun (W : World) (hb : Below w.heap.size w W) => inline_b m _ k w W hlt hb HMV.out HOK.out HMD.out HSM.out (HI.out.inl k hlt))
   have HNX1 : Hid (smallP (pk m k) = true → allL m (k + 1) = allL m k) := allL_small
   have HNX2 : Hid (smallP (pk m k) = false → allL m (k + 1) = (allL m k).set k (inlP m (pk m k))) := fun h => allL_set hlt h
   unfold InlB at HINL
   clear hE HPV HSZ
   generalize inlP m (pk m k) = QQ at *
   generalize smallP (pk m k) = SP at *
   generalize pk m k = P at *
   obtain ⟨W3, hW3⟩ : ∃ W3, W3 = wr.alloc (.cells #[.string tnm, .bool P.void, .int .i64 P.params, .int .i64 P.regs, .slice ao P.objs.length co, .slice ab P.blks.length cb] 35) := ⟨_, rfl⟩
   have B3 : Hid (Below wr.heap.size wr W3) := by rw [hW3]; exact below_alloc wr _
   have A3 := Lib.hid (A.out.below B3.out)
   have HW3 := Lib.hid hW3.symm
   clear hW3
   go_wp2_with fail
   rw [HW3.out]
   refine (HSMALL.out W3 (Ext.below A3.out.be)).mono ?_
   rintro e w4 ⟨rfl, hb4⟩
   have B4 := Lib.hid (B3.out.trans (hb4.mono B3.out.size))
   have A4 := Lib.hid (A3.out.below hb4)
   have HG4 : Hid (w4.heap[w.heap.size]? = some (.cells #[.slice ag m.globs.length cg, .slice ad m.data.length cd, .slice (some ⟨bp, op, none⟩) m.procs.length cp, .int .i64 m.main] 26) ∧ w4.heap[w.heap.size + 1]? = some (.cells #[.slice none 0 0, .slice none 0 0, .slice none 0 0, .int .i64 0] 26) ∧ w4.heap[w.heap.size + 2]? = some (.cells #[.slice ag m.globs.length cg, .slice ad m.data.length cd, .slice ac m.procs.length cc, .int .i64 m.main] 26)) := by
    obtain ⟨h1, h2, h3⟩ := HG.out
    exact ⟨(B4.out.block _ (Array.getElem?_eq_some_iff.1 h1).1).trans h1, (B4.out.block _ (Array.getElem?_eq_some_iff.1 h2).1).trans h2, (B4.out.block _ (Array.getElem?_eq_some_iff.1 h3).1).trans h3⟩
   clear hb4 A3 HSMALL HW3 t0 t1 t2 t3 t4 t5 HG B4 B3 A
   cases SP
   ·have HNX := Lib.hid (HNX2.out rfl)
    clear HNX1 HNX2
    go_wp2_with fail
    obtain ⟨W5, hW5⟩ : ∃ W5, W5 = w4.drew := ⟨_, rfl⟩
    have B5 : Hid (Below w4.heap.size w4 W5) := by
     show Below _ _ _
     rw [hW5]; exact Below.drew (Below.refl _ _)
    refine wp_region_game (fun b => b = w.heap.size ∨ b = w.heap.size + 2) (by kernel_rfl) ?_
    show wpE _ _ _ _ _ _ _ (World.drew _)
    rw [← hW5]
    clear hW5
    have A5 := Lib.hid (A4.out.below B5.out)
    obtain ⟨h1, h2, h3⟩ := HG4.out
    have h1 := Lib.hid ((B5.out.block _ (Array.getElem?_eq_some_iff.1 h1).1).trans h1)
    have h2 := Lib.hid ((B5.out.block _ (Array.getElem?_eq_some_iff.1 h2).1).trans h2)
    have h3 := Lib.hid ((B5.out.block _ (Array.getElem?_eq_some_iff.1 h3).1).trans h3)
    obtain ⟨y0, y1, y2, y3, l0⟩ := cl4 h1.out
    obtain ⟨z0, z1, z2, z3, l2⟩ := cl4 h3.out
    clear A4 HG4 B5
    refine E_mob2s [0, 1, 2, 3, 4] _ _ _ _ (by kernel_rfl) ?_
    simp only [List.map_cons, List.map_nil, List.getElem?_toArray, List.getElem?_cons_succ, List.getElem?_cons_zero, Option.getD_some, List.size_toArray, List.length_cons, List.length_nil, Nat.reduceAdd, Nat.reduceSub]
    repeat (go_big_quiet_step (fail))
    refine wpQuiet_nil ?_
    clear y0 y1 y2 y3 z0 z1 z2 z3
    refine E_loud1 5 _ rfl (by kernel_rfl) ?_
    simp only [List.getElem_toArray, List.getElem_cons_succ, List.getElem_cons_zero]
    go_wp2_with fail
    refine (HINL.out W5 A5.out.be).mono ?_
    rintro e w6 ⟨qnm, qvo, qvb, rfl, hqo, hqb, hb6⟩
    have A6 := Lib.hid (A5.out.below hb6)
    obtain ⟨voa, vom, voc, evo⟩ := Rows'.sl hqo
    obtain ⟨vba, vbm, vbc, evb⟩ := Rows'.sl (hqb.rd (Ext.below A6.out.be))
    obtain ⟨gg, gc, eg, hBg, cur, hcur⟩ := A6.out.form (by omega)
    simp only [Value.slice.injEq] at eg
    obtain ⟨rfl, -, rfl⟩ := eg
    have A6b := A6.out
    rw [← hLl] at A6b
    have hput := A6b.put6 (k := k) (by omega) (y := (QQ, qnm, qvo, qvb)) ⟨hqo, hqb⟩
    have q0 := (A6b.own.cellAt (k * 6 + 0) (by omega)).trans (flat_at prCells 6 (fun _ => rfl) L k 0 (by omega) (by decide))
    have q1 := (A6b.own.cellAt (k * 6 + 1) (by omega)).trans (flat_at prCells 6 (fun _ => rfl) L k 1 (by omega) (by decide))
    have q2 := (A6b.own.cellAt (k * 6 + 2) (by omega)).trans (flat_at prCells 6 (fun _ => rfl) L k 2 (by omega) (by decide))
    have q3 := (A6b.own.cellAt (k * 6 + 3) (by omega)).trans (flat_at prCells 6 (fun _ => rfl) L k 3 (by omega) (by decide))
    have q4 := (A6b.own.cellAt (k * 6 + 4) (by omega)).trans (flat_at prCells 6 (fun _ => rfl) L k 4 (by omega) (by decide))
    have q5 := (A6b.own.cellAt (k * 6 + 5) (by omega)).trans (flat_at prCells 6 (fun _ => rfl) L k 5 (by omega) (by decide))
    have f0 := A6b.own.frozenAt (k * 6 + 0)
    have f1 := A6b.own.frozenAt (k * 6 + 1)
    have f2 := A6b.own.frozenAt (k * 6 + 2)
    have f3 := A6b.own.frozenAt (k * 6 + 3)
    have f4 := A6b.own.frozenAt (k * 6 + 4)
    have f5 := A6b.own.frozenAt (k * 6 + 5)
    simp only [prCells, List.getElem?_cons_zero, List.getElem?_cons_succ, Nat.add_zero] at q0 q1 q2 q3 q4 q5 f0
    rw [evo, evb] at hput
    dsimp only at hput
    have HPUT := Lib.hid hput
    have lh1 := (Array.getElem?_eq_some_iff.1 h1.out).1
    have lh2 := (Array.getElem?_eq_some_iff.1 h2.out).1
    have lh3 := (Array.getElem?_eq_some_iff.1 h3.out).1
    have k1 := Lib.hid ((hb6.block _ lh1).trans h1.out)
    have k2 := Lib.hid ((hb6.block _ lh2).trans h2.out)
    have k3 := Lib.hid ((hb6.block _ lh3).trans h3.out)
    rw [evo, evb]
    go_wp2_with fail
    refine ⟨keep_below hb6 (fun z hz => by rcases hz with rfl | rfl <;> assumption), ?_⟩
    clear hput A6b hcur A6 A5 h1 h2 h3 hb6 hqo hqb evo evb l0 l2
    refine E_mob2s [6] _ _ _ _ (by kernel_rfl) ?_
    simp only [List.map_cons, List.map_nil, List.getElem?_toArray, List.getElem?_cons_succ, List.getElem?_cons_zero, Option.getD_some, List.size_toArray, List.length_cons, List.length_nil, Nat.reduceAdd, Nat.reduceSub]
    repeat (go_big_quiet_step (fail))
    refine wpQuiet_nil ?_
    refine E_last 7 _ rfl (by kernel_rfl) ?_
    simp only [List.getElem_toArray, List.getElem_cons_succ, List.getElem_cons_zero]
    go_wp2_with fail
    refine E_done (by kernel_rfl) ?_ _
    go_wp2_with fail
    go_roundw
    case rel =>
     obtain ⟨p1, p2⟩ := HPUT.out
     have e : (L.set k (QQ, qnm, .slice voa vom voc, .slice vba vbm vbc)).length = m.procs.length := by rw [List.length_set]; exact hLl
     rw [e] at p1
     refine ⟨k + 1, _, by go_num, hlt, p1, ?_, ?_, ?_, ?_⟩
     ·show _ = _
      rw [List.map_set, HLk.out, HNX.out]
     ·exact (p2.block _ (by have := (Array.getElem?_eq_some_iff.1 k1.out).1; exact this) (by omega)).trans k1.out
     ·exact (p2.block _ (by have := (Array.getElem?_eq_some_iff.1 k2.out).1; exact this) (by omega)).trans k2.out
     ·exact (p2.block _ (by have := (Array.getElem?_eq_some_iff.1 k3.out).1; exact this) (by omega)).trans k3.out
    case measure => simp [intOf]; omega
   ·have HNX := Lib.hid (HNX1.out rfl)
    clear HNX1 HNX2
    go_wp2_with fail
    go_roundw
    case rel => exact ⟨k + 1, L, by go_num, hlt, A4, by rw [HNX.out]; exact HLk, HG4⟩
    case measure => simp [intOf]; omega
  ·obtain rfl : k = m.procs.length := by omega
   have g1 : decide ((m.procs.length : Int) < (m.procs.length : Int)) = false := decide_eq_false (by omega)
   obtain ⟨h1, h2, h3⟩ := HG.out
   obtain ⟨z0, z1, z2, z3, l2⟩ := cl4 h3
   obtain ⟨y0, y1, y2, y3, l0⟩ := cl4 h2
   have f0 := frozen_of_heap h2 0
   have f1 := frozen_of_heap h2 1
   have f2 := frozen_of_heap h2 2
   have f3 := frozen_of_heap h2 3
   have HF := Lib.hid h2
   clear h1 h2 h3
   go_wp2_with fail
   have HBW : But (w.heap.size + 1) wr ((((wr.setCell ⟨w.heap.size + 1, 0, none⟩ (.slice ag m.globs.length cg)).setCell ⟨w.heap.size + 1, 1, none⟩ (.slice ad m.data.length cd)).setCell ⟨w.heap.size + 1, 2, none⟩ (.slice ac m.procs.length cc)).setCell ⟨w.heap.size + 1, 3, none⟩ (.int .i64 m.main)) :=
    (((But.setCell _ _ _ _).trans (But.setCell _ _ _ _)).trans (But.setCell _ _ _ _)).trans (But.setCell _ _ _ _)
   have AF := A.out.but HBW HF.out (by omega) (by decide) (by decide) (by decide)
   have hEE := Ext.below AF.be
   have hrd := AF.rd
   rw [HLk.out] at hrd
   exact bodyPost_ret (v := .agg #[.slice ag m.globs.length cg, .slice ad m.data.length cd, .slice ac m.procs.length cc, .int .i64 m.main]) (by simp [results, Tryz.results6, go_sem, y0, y1, y2, y3]) rfl ⟨_, rfl, ⟨_, _, _, rfl, HG0.out.ext hEE, HD.out.ext hEE, hrd⟩, AF.be⟩
end Go.Proofs.YtchoiankeohonaaGreatDoor
