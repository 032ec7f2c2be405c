/-
 A procedure of which no block reckons anything twice (fold.Values): the walk.
-/
import Derived.Test.YtkhfddodmjnecaaDoorZFoldTwice44
import Derived.Test.YtkhfddodmjnecaaDoorZFoldTwice45
import Derived.Test.YtkhfddodmjnecaaDoorZFoldTwice10
set_option linter.all false
namespace Go.Proofs.YtkhfddodmjnecaaDoor
open Go.ChangeShapes Go.WideShapes Go.ChangeAt Go.RowKit Go.Maps
set_option maxHeartbeats 16000000
set_option maxRecDepth 100000
set_option linter.unusedVariables false

/-- the blocks of which the first k are done -/
def dnV (p : Pr) (k : Nat) : List Bk := (List.range p.blks.length).map fun j => if j < k then vlsB (p.blks.getD j default) else p.blks.getD j default
theorem dnV_len (p : Pr) (k : Nat) : (dnV p k).length = p.blks.length := by simp [dnV]
theorem dnV_at {p : Pr} {k j : Nat} (h : j < p.blks.length) : (dnV p k).getD j default = if j < k then vlsB (p.blks.getD j default) else p.blks.getD j default := by simp [dnV, List.getD, h]
theorem dnV_zero (p : Pr) : dnV p 0 = p.blks := bk_ext (dnV_len _ _) fun i hi => by
 rw [dnV_len] at hi
 rw [dnV_at hi, if_neg (Nat.not_lt_zero _)]
theorem dnV_on {p : Pr} {k : Nat} (h : k < p.blks.length) : dnV p (k + 1) = (dnV p k).set k (vlsB (p.blks.getD k default)) := bk_ext (by rw [List.length_set, dnV_len, dnV_len]) fun i hi => by
 rw [dnV_len] at hi
 rw [dnV_at hi]
 by_cases e : i = k
 ·subst e
  rw [if_pos (by omega)]
  simp [List.getD, dnV_len, hi]
 ·rw [show ((dnV p k).set k (vlsB (p.blks.getD k default))).getD i default = (dnV p k).getD i default by simp [List.getD, List.getElem?_set, Ne.symm e], dnV_at hi]
  by_cases e2 : i < k
  ·rw [if_pos e2, if_pos (by omega)]
  ·rw [if_neg e2, if_neg (by omega)]
theorem dnV_all (p : Pr) : dnV p p.blks.length = (vlsP p).blks := bk_ext (by rw [dnV_len]; simp [vlsP]) fun i hi => by
 rw [dnV_len] at hi
 rw [dnV_at hi, if_pos hi]
 simp [vlsP, List.getD, hi]
theorem own_bk1 {w : World} {B gB cB k j : Nat} {L : List (Bk × Value)} (h : w.ownsRow B 43 5 (.slice (some ⟨gB, 0, none⟩) L.length cB) L.length (L.flatMap bkCells)) (hk : k < L.length) (hj : j < 5) {u : Value} {x : Bk × Value} (hx : bkCells x = (bkCells (L.getD k default)).set j u) :
  (w.setCell ⟨gB, k * 5 + j, none⟩ u).ownsRow B 43 5 (.slice (some ⟨gB, 0, none⟩) (L.set k x).length cB) (L.set k x).length ((L.set k x).flatMap bkCells) := by
 have ho := (World.ownsRow.stored h (k * 5 + j) u).1
 rw [flat_setS bkCells 5 (fun _ => rfl) L k j u x hk hj hx] at ho
 rw [List.length_set]
 exact ho
/-- five cells: a block laid over another -/
theorem own_bk5 {w : World} {B gB cB k : Nat} {L : List (Bk × Value)} (h : w.ownsRow B 43 5 (.slice (some ⟨gB, 0, none⟩) L.length cB) L.length (L.flatMap bkCells)) (hk : k < L.length) (x : Bk × Value) :
  (((((w.setCell ⟨gB, k * 5, none⟩ x.2).setCell ⟨gB, k * 5 + 1, none⟩ (.int .i64 x.1.fin)).setCell ⟨gB, k * 5 + 2, none⟩ (.int .i64 x.1.a)).setCell ⟨gB, k * 5 + 3, none⟩ (.int .i64 x.1.to)).setCell ⟨gB, k * 5 + 4, none⟩ (.int .i64 x.1.els)).ownsRow B 43 5 (.slice (some ⟨gB, 0, none⟩) (L.set k x).length cB) (L.set k x).length ((L.set k x).flatMap bkCells) := by
 obtain ⟨⟨xi, xf, xa, xt, xe⟩, xv⟩ := x
 generalize hy : L.getD k default = y
 obtain ⟨⟨yi, yf, ya, yt, ye⟩, yv⟩ := y
 have gd : ∀ (M : List (Bk × Value)) (z : Bk × Value), k < M.length → (M.set k z).getD k default = z := fun M z hM => by simp [List.getD, hM]
 have l1 := own_bk1 h hk (j := 0) (by decide) (u := xv) (x := (⟨yi, yf, ya, yt, ye⟩, xv)) (by rw [hy]; rfl)
 have l2 := own_bk1 l1 (by simpa using hk) (j := 1) (by decide) (u := .int .i64 xf) (x := (⟨yi, xf, ya, yt, ye⟩, xv)) (by rw [gd _ _ hk]; rfl)
 rw [List.set_set] at l2
 have l3 := own_bk1 l2 (by simpa using hk) (j := 2) (by decide) (u := .int .i64 xa) (x := (⟨yi, xf, xa, yt, ye⟩, xv)) (by rw [gd _ _ hk]; rfl)
 rw [List.set_set] at l3
 have l4 := own_bk1 l3 (by simpa using hk) (j := 3) (by decide) (u := .int .i64 xt) (x := (⟨yi, xf, xa, xt, ye⟩, xv)) (by rw [gd _ _ hk]; rfl)
 rw [List.set_set] at l4
 have l5 := own_bk1 l4 (by simpa using hk) (j := 4) (by decide) (u := .int .i64 xe) (x := (⟨xi, xf, xa, xt, xe⟩, xv)) (by rw [gd _ _ hk]; rfl)
 rw [List.set_set] at l5
 exact l5
/-- between the blocks -/
structure VlD (p : Pr) (w : World) (nm : ByteArray) (vo : Value) (gB cB : Nat) (wr : World) (L : List (Bk × Value)) (k : Nat) : Prop where
 len : L.length = p.blks.length
 is : L.map Prod.fst = dnV p k
 own : wr.ownsRow (w.heap.size + 2) 43 5 (.slice (some ⟨gB, 0, none⟩) L.length cB) L.length (L.flatMap bkCells)
 done : ∀ j, j < k → j < L.length → KvR w.heap.size wr (L.getD j default).2 (vlsB (p.blks.getD j default)).ins
 on : ∀ j, k ≤ j → j < L.length → RdIns w (L.getD j default).2 (p.blks.getD j default).ins
 b0 : wr.heap[w.heap.size]? = some (.cells #[.string nm, .bool p.void, .int .i64 p.params, .int .i64 p.regs, vo, .slice (some ⟨gB, 0, none⟩) p.blks.length cB] 31)
 b1 : wr.heap[w.heap.size + 1]? = some (.cells zPr 31)
 bl : Below w.heap.size w wr
section
variable {p : Pr} {w : World} {nm : ByteArray} {vo : Value} {gB cB : Nat} {wr w2 : World} {L : List (Bk × Value)} {k : Nat}
theorem VlD.below (h : VlD p w nm vo gB cB wr L k) (hb : Below wr.heap.size wr w2) : VlD p w nm vo gB cB w2 L k :=
 ⟨h.len, h.is, own_below h.own hb, fun j h1 h2 => (h.done j h1 h2).below hb, h.on, (hb.block _ (Array.getElem?_eq_some_iff.1 h.b0).1).trans h.b0, (hb.block _ (Array.getElem?_eq_some_iff.1 h.b1).1).trans h.b1, h.bl.trans (hb.mono h.bl.size)⟩
/-- a block is done -/
theorem VlD.next (h : VlD p w nm vo gB cB wr L k) (hk : k < p.blks.length) {vI : Value} (hv : KvR w.heap.size wr vI (vlsB (p.blks.getD k default)).ins) :
  VlD p w nm vo gB cB (((((wr.setCell ⟨gB, k * 5, none⟩ vI).setCell ⟨gB, k * 5 + 1, none⟩ (.int .i64 (vlsB (p.blks.getD k default)).fin)).setCell ⟨gB, k * 5 + 2, none⟩ (.int .i64 (vlsB (p.blks.getD k default)).a)).setCell ⟨gB, k * 5 + 3, none⟩ (.int .i64 (vlsB (p.blks.getD k default)).to)).setCell ⟨gB, k * 5 + 4, none⟩ (.int .i64 (vlsB (p.blks.getD k default)).els)) (L.set k (vlsB (p.blks.getD k default), vI)) (k + 1) := by
 have hkL : k < L.length := by rw [h.len]; exact hk
 have hb : But gB wr (((((wr.setCell ⟨gB, k * 5, none⟩ vI).setCell ⟨gB, k * 5 + 1, none⟩ (.int .i64 (vlsB (p.blks.getD k default)).fin)).setCell ⟨gB, k * 5 + 2, none⟩ (.int .i64 (vlsB (p.blks.getD k default)).a)).setCell ⟨gB, k * 5 + 3, none⟩ (.int .i64 (vlsB (p.blks.getD k default)).to)).setCell ⟨gB, k * 5 + 4, none⟩ (.int .i64 (vlsB (p.blks.getD k default)).els)) := ((((But.setCell _ _ _ _).trans (But.setCell _ _ _ _)).trans (But.setCell _ _ _ _)).trans (But.setCell _ _ _ _)).trans (But.setCell _ _ _ _)
 have ho := own_bk5 h.own hkL (vlsB (p.blks.getD k default), vI)
 obtain ⟨hgB, cs, hcs⟩ := own_heap h.own (by omega)
 have l0 := (Array.getElem?_eq_some_iff.1 h.b0).1
 have l1 := (Array.getElem?_eq_some_iff.1 h.b1).1
 have gne : ∀ j, j ≠ k → (L.set k (vlsB (p.blks.getD k default), vI)).getD j default = L.getD j default := fun j e => by simp [List.getD, List.getElem?_set, Ne.symm e]
 refine ⟨by rw [List.length_set]; exact h.len, by rw [List.map_set, h.is, dnV_on hk], ho, fun j h1 h2 => ?_, fun j h1 h2 => ?_, (hb.block _ l0 (by omega)).trans h.b0, (hb.block _ l1 (by omega)).trans h.b1, h.bl.trans (hb.toBelow (by omega) h.bl.size)⟩
 ·rw [List.length_set] at h2
  by_cases e : j = k
  ·subst e
   rw [show (L.set j (vlsB (p.blks.getD j default), vI)).getD j default = (vlsB (p.blks.getD j default), vI) by simp [List.getD, hkL]]
   exact hv.but hb hcs (by decide) (by decide)
  ·rw [gne j e]
   exact (h.done j (by omega) h2).but hb hcs (by decide) (by decide)
 ·rw [List.length_set] at h2
  rw [gne j (by omega)]
  exact h.on j (by omega) h2
/-- the result's box is written: what is read lies in what was made since -/
theorem VlD.fin (h : VlD p w nm vo gB cB wr L p.blks.length) (hb : But (w.heap.size + 1) wr w2) : (∀ W, (∀ b, w.heap.size ≤ b → b < w2.heap.size → W.heap[b]? = w2.heap[b]?) → RdBks W (.slice (some ⟨gB, 0, none⟩) p.blks.length cB) (vlsP p).blks) ∧ Below w.heap.size w w2 := by
 have hbl := h.bl.trans (hb.toBelow (by omega) h.bl.size)
 refine ⟨fun W hW => ?_, hbl⟩
 have ho := ow_base (B' := w.heap.size) (World.ownsRow.kept h.own (but_grownK hb) (.inr (row_not h.own h.b1 (by decide)))) (by omega)
 have h1 := OwnBk.rd (w := W) (B := w.heap.size) (v := .slice (some ⟨gB, 0, none⟩) L.length cB) (L := L) ⟨ow_same ho fun g hg => hW g (World.ownsRow.lt ho g hg).1 (World.ownsRow.lt ho g hg).2, fun x hx => ?_⟩
 ·rw [h.is, dnV_all, h.len] at h1
  exact h1
 ·obtain ⟨i, hi, rfl⟩ := List.getElem_of_mem hx
  have h2 := (h.done i (by rw [← h.len]; exact hi) hi).but hb h.b1 (by decide) (by decide)
  have h3 : (L.map Prod.fst).getD i default = (dnV p p.blks.length).getD i default := by rw [h.is]
  rw [dnV_at (by rw [← h.len]; exact hi), if_pos (by rw [← h.len]; exact hi)] at h3
  rw [show (L.map Prod.fst).getD i default = L[i].1 by simp [List.getD, hi]] at h3
  rw [← h3, show L.getD i default = L[i] by simp [List.getD, hi]] at h2
  exact (h2.only hW).rd
end
theorem values_o (p : Pr) (nm : ByteArray) (vo vb : Value) (w : World) (hvo : RdSls w vo p.objs) (hvb : RdBks w vb p.blks) (hR : p.regs ≤ 1000000) (h0 : 0 < p.blks.length) (hn : p.blks.length ≤ 1000) (hok : ∀ n, n < p.blks.length → BlOk p.regs (p.blks.getD n default)) :
  Calls Tryd.prog 7 #[.agg #[.string nm, .bool p.void, .int .i64 p.params, .int .i64 p.regs, vo, vb]] w fun e w' => ∃ vb', e = .returned (.agg #[.string nm, .bool p.void, .int .i64 p.params, .int .i64 p.regs, vo, vb']) ∧ (∀ W, (∀ b, w.heap.size ≤ b → b < w'.heap.size → W.heap[b]? = w'.heap[b]?) → RdBks W vb' (vlsP p).blks) ∧ Below w.heap.size w w' := by
 have hvo' := hvo
 obtain ⟨ao, co, rfl, -⟩ := hvo'
 have HVO := Lib.hid hvo
 have HVB := Lib.hid hvb
 obtain ⟨ab, cb, rfl, b1, b2, -⟩ := hvb
 have HOK := Lib.hid hok
 clear hvo hok
 unfold maxLen at b2
 obtain ⟨W2, hW2⟩ : ∃ W2, W2 = (w.alloc (.cells #[.string nm, .bool p.void, .int .i64 p.params, .int .i64 p.regs, .slice ao p.objs.length co, .slice ab p.blks.length cb] 31)).alloc (.cells zPr 31) := ⟨_, rfl⟩
 have hW2' : W2 = allocs w [.cells #[.string nm, .bool p.void, .int .i64 p.params, .int .i64 p.regs, .slice ao p.objs.length co, .slice ab p.blks.length cb] 31, .cells zPr 31] := hW2
 have B2 : Hid (Below w.heap.size w W2) := by rw [hW2']; exact allocs_below _ _
 have H0 : Hid (W2.heap[w.heap.size]? = some (.cells #[.string nm, .bool p.void, .int .i64 p.params, .int .i64 p.regs, .slice ao p.objs.length co, .slice ab p.blks.length cb] 31)) := by rw [hW2']; exact allocs_heap _ w 0 (by simp)
 have H1 : Hid (W2.heap[w.heap.size + 1]? = some (.cells zPr 31)) := by rw [hW2']; exact allocs_heap _ w 1 (by simp)
 have HW2 := Lib.hid hW2.symm
 have s2 : w.heap.size + 2 ≤ W2.heap.size := by have := (Array.getElem?_eq_some_iff.1 H1.out).1; omega
 clear hW2 hW2'
 obtain ⟨p0, p1, p2, p3, p4, p5, lp⟩ := cl6 H0.out
 unfold zPr at HW2
 go_enter Tryd.func7, Tryd.ntmps7
 go_wp2_with fail
 rw [HW2.out]
 clear HW2
 go_wp2_with fail
 refine (copyBk0 w W2 HVB.out (Ext.below B2.out) (by omega)).mono ?_
 rintro e w4 ⟨v', L, rfl, hL, hLi, hLo, hb4⟩
 have hLl : L.length = p.blks.length := by rw [← hL, List.length_map]
 obtain ⟨gB, cB, rfl⟩ := own_slice hLo (by omega)
 have hLo' : w4.ownsRow W2.heap.size 43 5 (.slice (some ⟨gB, 0, none⟩) L.length cB) L.length (L.flatMap bkCells) := hLo
 rw [hLl]
 have s4 : w.heap.size + 2 ≤ w4.heap.size := by have := hb4.size; omega
 have HH0 := (hb4.block _ (by omega)).trans H0.out
 have HH1 := (hb4.block _ (by omega)).trans H1.out
 have BB4 := Lib.hid (B2.out.trans (hb4.mono B2.out.size))
 have hbut : But w.heap.size w4 (w4.setCell ⟨w.heap.size, 5, none⟩ (.slice (some ⟨gB, 0, none⟩) p.blks.length cB)) := But.setCell w.heap.size 5 w4 _
 have S0 : Hid (VlD p w nm (.slice ao p.objs.length co) gB cB (w4.setCell ⟨w.heap.size, 5, none⟩ (.slice (some ⟨gB, 0, none⟩) p.blks.length cB)) L 0) := by
  refine ⟨hLl, by rw [dnV_zero]; exact hL, World.ownsRow.kept (ow_base hLo' s2) (but_grownK hbut) (.inr (row_not hLo' HH0 (by decide))), fun j hj => absurd hj (Nat.not_lt_zero _), fun j _ hj => ?_, ?_, ?_, ?_⟩
  ·have hm := hLi (L.getD j default) (by simp [List.getD, hj])
   have e : (L.getD j default).1 = p.blks.getD j default := by rw [← hL]; simp [List.getD, hj]
   rw [e] at hm
   exact hm
  ·rw [heap_setCell_same _ _ _ _ _ _ HH0]; rfl
  ·exact (Below.heap_setCell _ ⟨_, 5, none⟩ _ _ (by dsimp only; omega)).trans HH1
  ·exact BB4.out.setCell (p := ⟨w.heap.size, 5, none⟩) (Nat.le_refl _) _
 clear p0 p1 p2 p3 p4 p5 lp
 obtain ⟨q0, q1, q2, q3, q4, q5, lq⟩ := cl6 HH0
 have fq := frozen_of_heap HH0 5
 clear hLi hLo hLo' HH1 BB4 hbut H0 H1 hb4 hL hLl
 go_upto_region 2 with (fail)
 clear HH0 q0 q1 q2 q3 q4 q5 lq fq
 generalize w4.setCell ⟨w.heap.size, 5, none⟩ (.slice (some ⟨gB, 0, none⟩) p.blks.length cB) = w5 at *
 obtain ⟨q0, q1, q2, q3, q4, q5, lq⟩ := cl6 S0.out.b0
 go_wp2_with fail
 go_loopw [12] (fun i wr => ∃ (k : Nat) (L : List (Bk × Value)), k ≤ p.blks.length ∧ i = .int .i64 (k : Int) ∧ Hid (VlD p w nm (.slice ao p.objs.length co) gB cB wr L k)) (fun i _ => p.blks.length - (intOf i).toNat)
 case atStart => exact ⟨0, _, Nat.zero_le _, rfl, S0⟩
 case round =>
  clear S0 q0 q1 q2 q3 q4 q5 lq
  obtain ⟨wA, rfl⟩ : ∃ wA, wA = wr := ⟨wr, rfl⟩
  obtain ⟨k, L, hk, rfl, S⟩ := hrel
  obtain ⟨q0, q1, q2, q3, q4, q5, lq⟩ := cl6 S.out.b0
  by_cases hlt : k < p.blks.length
  ·have g1 : decide (k < p.blks.length) = true := decide_eq_true hlt
   have g2 : decide ((k : Int) < (p.blks.length : Int)) = true := decide_eq_true (by omega)
   have hkL : k < L.length := by rw [S.out.len]; exact hlt
   have hfl := fun r (hr : r < 5) => (World.ownsRow.cellAt S.out.own (k * 5 + r) (by omega)).trans (flat_at bkCells 5 (fun _ => rfl) L k r hkL hr)
   have hL1 : (L.getD k default).1 = p.blks.getD k default := by
    have h3 : (L.map Prod.fst).getD k default = (dnV p k).getD k default := by rw [S.out.is]
    rw [dnV_at hlt, if_neg (Nat.lt_irrefl _)] at h3
    rw [← h3]
    simp [List.getD, hkL]
   have hLn := S.out.on k (Nat.le_refl _) hkL
   obtain ⟨-, csB, hcB⟩ := own_heap S.out.own (by omega)
   have lgB := (Array.getElem?_eq_some_iff.1 hcB).1
   have hcap : p.blks.length ≤ cB ∧ cB ≤ 2 ^ 63 - 1 := by
    obtain ⟨-, ⟨e, -⟩ | ⟨g', cap, cur, e, -, -, h1, h2, -⟩⟩ := S.out.own
    ·cases e
    ·simp only [Value.slice.injEq] at e
     have hl := S.out.len
     unfold maxLen at h2
     omega
   generalize hy : L.getD k default = y at *
   obtain ⟨b, vI⟩ := y
   dsimp only at hL1 hLn
   subst hL1
   have c0 : wA.cell? ⟨gB, k * 5, none⟩ = some vI := hfl 0 (by decide)
   have c1 : wA.cell? ⟨gB, k * 5 + 1, none⟩ = some (.int .i64 (p.blks.getD k default).fin) := hfl 1 (by decide)
   have c2 : wA.cell? ⟨gB, k * 5 + 2, none⟩ = some (.int .i64 (p.blks.getD k default).a) := hfl 2 (by decide)
   have c3 : wA.cell? ⟨gB, k * 5 + 3, none⟩ = some (.int .i64 (p.blks.getD k default).to) := hfl 3 (by decide)
   have c4 : wA.cell? ⟨gB, k * 5 + 4, none⟩ = some (.int .i64 (p.blks.getD k default).els) := hfl 4 (by decide)
   clear hfl hy hcB
   have HB : Hid (∀ W, Below w.heap.size w W → Calls Tryd.prog 13 #[.agg #[vI, .int .i64 (p.blks.getD k default).fin, .int .i64 (p.blks.getD k default).a, .int .i64 (p.blks.getD k default).to, .int .i64 (p.blks.getD k default).els]] W (BlkQ (p.blks.getD k default) W)) := fun W hW => vblock_c W p.regs _ _ ⟨vI, rfl, hLn.ext (Ext.below hW)⟩ hR (HOK.out k hlt)
   obtain ⟨aI, nI, cI, rfl⟩ := hLn.sl
   have HNX := Lib.hid (fun wz (hz : Below wA.heap.size wA wz) vz (hv : KvR w.heap.size wz vz (vlsB (p.blks.getD k default)).ins) => (S.out.below hz).next hlt hv)
   generalize p.blks.getD k default = K at *
   have H6 := Lib.hid (heap_alloc_new wA (.cells #[.slice aI nI cI, .int .i64 K.fin, .int .i64 K.a, .int .i64 K.to, .int .i64 K.els] 43))
   have B6 := Lib.hid (below_alloc wA (.cells #[.slice aI nI cI, .int .i64 K.fin, .int .i64 K.a, .int .i64 K.to, .int .i64 K.els] 43))
   clear hLn
   go_upto_region 5 with (fail)
   generalize wA.alloc (.cells #[.slice aI nI cI, .int .i64 K.fin, .int .i64 K.a, .int .i64 K.to, .int .i64 K.els] 43) = w6 at *
   clear c0 c1 c2 c3 c4 q0 q1 q2 q3 q4 q5 lq
   have S6 := Lib.hid (S.out.below B6.out)
   have lg6 : gB < w6.heap.size := Nat.lt_of_lt_of_le lgB B6.out.size
   obtain ⟨q0, q1, q2, q3, q4, q5, lq⟩ := cl6 S6.out.b0
   obtain ⟨c0, c1, c2, c3, c4, lc⟩ := cl5 H6.out
   refine wp_region_game (fun z => z = w.heap.size ∨ z = wA.heap.size) (by kernel_rfl) ?_
   show wpE _ _ _ _ _ _ _ w6.drew
   refine E_mob2s [0, 1, 2, 3] _ _ _ _ (by kernel_rfl) ?_
   simp only [List.map_cons, List.map_nil, List.getElem?_toArray, List.getElem?_cons_succ, List.getElem?_cons_zero, Option.getD_some, List.size_toArray, List.length_cons, List.length_nil, Nat.reduceAdd, Nat.reduceSub]
   repeat (go_big_quiet_step (fail))
   refine wpQuiet_nil ?_
   clear q0 q1 q2 q3 q4 q5 c0 c1 c2 c3 c4
   refine E_loud1 4 _ rfl (by kernel_rfl) ?_
   simp only [List.getElem_toArray, List.getElem_cons_succ, List.getElem_cons_zero]
   go_wp2_with fail
   refine (HB.out w6.drew (S6.out.bl.drew)).mono ?_
   rintro e w7 ⟨vI, rfl, hkv, hb7⟩
   have HK7 : Hid (Keep (fun z => z = w.heap.size ∨ z = wA.heap.size) w6.drew w7) := keep_below hb7 (fun z hz => by rcases hz with rfl | rfl <;> assumption)
   have B7 : Hid (Below wA.heap.size wA w7) := (B6.out.drew).trans (hb7.mono (B6.out.size))
   have hkv := hkv.base (S6.out.bl.size)
   obtain ⟨aV, nV, cV, rfl⟩ := hkv.rd.sl
   have S8 := Lib.hid (HNX.out w7 B7.out _ hkv)
   have S7 := Lib.hid (S.out.below B7.out)
   clear hkv hb7 HNX HB S6 S H6

   go_wp2_with fail
   refine ⟨HK7.out, ?_⟩
   have hkL7 : k < L.length := hkL
   have hfl := fun r (hr : r < 5) => (World.ownsRow.cellAt S7.out.own (k * 5 + r) (by omega)).trans (flat_at bkCells 5 (fun _ => rfl) L k r hkL hr)
   have d0 : w7.cell? ⟨gB, k * 5, none⟩ = some (L.getD k default).2 := hfl 0 (by decide)
   have d1 : w7.cell? ⟨gB, k * 5 + 1, none⟩ = some (.int .i64 (L.getD k default).1.fin) := hfl 1 (by decide)
   have d2 : w7.cell? ⟨gB, k * 5 + 2, none⟩ = some (.int .i64 (L.getD k default).1.a) := hfl 2 (by decide)
   have d3 : w7.cell? ⟨gB, k * 5 + 3, none⟩ = some (.int .i64 (L.getD k default).1.to) := hfl 3 (by decide)
   have d4 : w7.cell? ⟨gB, k * 5 + 4, none⟩ = some (.int .i64 (L.getD k default).1.els) := hfl 4 (by decide)
   obtain ⟨-, csB7, hcB7⟩ := own_heap S7.out.own (by omega)
   have e0 := frozen_of_heap hcB7 (k * 5)
   have e1 := frozen_of_heap hcB7 (k * 5 + 1)
   have e2 := frozen_of_heap hcB7 (k * 5 + 2)
   have e3 := frozen_of_heap hcB7 (k * 5 + 3)
   have e4 := frozen_of_heap hcB7 (k * 5 + 4)
   have lg7 := (Array.getElem?_eq_some_iff.1 hcB7).1
   clear hfl hcB7 hkL7 S7 HK7
   refine E_mob2s [5] _ _ _ _ (by kernel_rfl) ?_
   simp only [List.map_cons, List.map_nil, List.getElem?_toArray, List.getElem?_cons_succ, List.getElem?_cons_zero, Option.getD_some, List.size_toArray, List.length_cons, List.length_nil, Nat.reduceAdd, Nat.reduceSub]
   repeat (go_big_quiet_step (fail))
   refine wpQuiet_nil ?_
   refine E_last 6 _ rfl (by kernel_rfl) ?_
   simp only [List.getElem_toArray, List.getElem_cons_succ, List.getElem_cons_zero]
   go_wp2_with fail
   refine E_done (by kernel_rfl) ?_ _
   clear d0 d1 d2 d3 d4 e0 e1 e2 e3 e4 lg7
   go_wp2_with fail
   go_roundw
   case rel => exact ⟨k + 1, _, hlt, by go_num, S8⟩
   case measure => simp [intOf]; omega
  ·obtain rfl : k = p.blks.length := by omega
   have g1 : decide (p.blks.length < p.blks.length) = false := decide_eq_false (Nat.lt_irrefl _)
   have g2 : decide ((p.blks.length : Int) < (p.blks.length : Int)) = false := decide_eq_false (by omega)
   have HZ := S.out.b1
   unfold zPr at HZ
   obtain ⟨z0, z1, z2, z3, z4, z5, lz⟩ := cl6 HZ
   have f0 := frozen_of_heap HZ 0
   have f1 := frozen_of_heap HZ 1
   have f2 := frozen_of_heap HZ 2
   have f3 := frozen_of_heap HZ 3
   have f4 := frozen_of_heap HZ 4
   have f5 := frozen_of_heap HZ 5
   clear HZ
   go_wp2_with fail
   refine bodyPost_ret (v := .agg #[.string nm, .bool p.void, .int .i64 p.params, .int .i64 p.regs, .slice ao p.objs.length co, .slice (some ⟨gB, 0, none⟩) p.blks.length cB]) ?_ rfl ?_
   ·simp [results, Tryd.results7, go_sem, q0, q1, q2, q3, q4, q5, z0, z1, z2, z3, z4, z5, f0, f1, f2, f3, f4, f5]
   ·obtain ⟨h1, h2⟩ := S.out.fin ((((((But.setCell _ _ _ _).trans (But.setCell _ _ _ _)).trans (But.setCell _ _ _ _)).trans (But.setCell _ _ _ _)).trans (But.setCell _ _ _ _)).trans (But.setCell _ _ _ _))
    exact ⟨_, rfl, h1, h2⟩
end Go.Proofs.YtkhfddodmjnecaaDoor
