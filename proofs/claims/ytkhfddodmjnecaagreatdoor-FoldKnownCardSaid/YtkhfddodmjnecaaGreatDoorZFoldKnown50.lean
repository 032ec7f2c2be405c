/-
 FoldKnown: what is held while the document's procedure is made.
-/
import Derived.Test.YtkhfddodmjnecaaGreatDoorZFoldKnown45
import Derived.Test.YtkhfddodmjnecaaGreatDoorZFoldKnown47
import Derived.Test.YtkhfddodmjnecaaGreatDoorZFoldKnown49
set_option linter.all false
namespace Go.Proofs.YtkhfddodmjnecaaGreatDoor
open Go.ChangeShapes Go.WideShapes Go.ChangeAt Go.RowKit Go.Maps
set_option maxHeartbeats 16000000
set_option maxRecDepth 100000
set_option linter.unusedVariables false

theorem at_ok {p : Pr} {R : Nat} (h : FoldOk p R) {X : Tb} (hr : RunC p (wkD p).ord.reverse (X0C p.blks.length R) X) (i : Nat) : (atB R X i).length = R ∧ RoOk (atB R X i) := by
 have h1 := (run_len h.b0 h.out hr).2
 have h2 := run_ok h.b0 h.out (fun n hn i hi => (h.ins n hn).1.num i hi) hr
 unfold atB
 cases e : X.getD i none with
 | none => exact ⟨roNo_len R, roNo_ok R⟩
 | some t => exact ⟨h1 i t e, h2 i t e⟩
theorem getD_lt {α : Type} [Inhabited α] {l : List α} {k : Nat} (h : k < l.length) : l.getD k default = l[k] := by simp [List.getD, h]
theorem knwP_sz {p : Pr} {X : Nat → Ro} (h : SzT p) : SzT (knwP p X) := by
 refine ⟨by rw [knwP_len]; exact h.blks, fun b hb => ?_, fun b hb i hi => ?_⟩
 ·unfold knwP at hb
  obtain ⟨n, hn, rfl⟩ := List.mem_map.1 hb
  have hn := List.mem_range.1 hn
  rw [knwB_ins, knwL_len]
  exact h.ins _ (by simp [List.getD, hn])
 ·unfold knwP at hb
  obtain ⟨n, hn, rfl⟩ := List.mem_map.1 hb
  have hn := List.mem_range.1 hn
  rw [knwB_ins] at hi
  obtain ⟨k, hk, rfl⟩ := List.getElem_of_mem hi
  have hk' : k < (p.blks.getD n default).ins.length := by rw [knwL_len] at hk; exact hk
  have e := knwL_at (p.blks.getD n default).ins (X n) k hk'
  rw [getD_lt hk] at e
  rw [e]
  have h1 := h.args (p.blks.getD n default) (by simp [List.getD, hn]) ((p.blks.getD n default).ins.getD k default) (by rw [getD_lt hk']; exact List.getElem_mem hk')
  unfold knwI
  split
  ·split
   ·exact Nat.zero_le _
   ·exact h1
  ·exact h1
theorem ow_keep {w w' : World} {B s n : Nat} {e : TypeId} {v : Value} {xs : List Value} (h : w.ownsRow B e s v n xs) (hb : ∀ g, v.ownBlock = some g → w'.heap[g]? = w.heap[g]?) : w'.ownsRow B e s v n xs := by
 obtain ⟨h1, h2 | ⟨g, cap, cur, rfl, h2, h3, h4⟩⟩ := h
 ·exact ⟨h1, .inl h2⟩
 ·exact ⟨h1, .inr ⟨g, cap, cur, rfl, h2, (hb g rfl).trans h3, h4⟩⟩
/-- a row of instructions made since -/
def KrI (w0 w : World) (x : Bk × Value) : Prop := ∃ LI : List (In × Value), LI.map Prod.fst = x.1.ins ∧ (∀ y ∈ LI, RdI w0 y.2 y.1.args) ∧ w.ownsRow 0 48 11 x.2 LI.length (LI.flatMap inCells)
theorem KrI.below {w0 w w' : World} {x : Bk × Value} (h : KrI w0 w x) (hb : Below w.heap.size w w') : KrI w0 w' x := let ⟨LI, h1, h2, h3⟩ := h; ⟨LI, h1, h2, own_below h3 hb⟩
/-- the blocks that are made so far -/
structure WnM (w0 wZ : World) (l : List Bk) (vW : Value) (L : List (Bk × Value)) (wr : World) : Prop where
 is : L.map Prod.fst = l
 own : wr.ownsRow wZ.heap.size 43 5 vW L.length (L.flatMap bkCells)
 ins : ∀ x ∈ L, KrI w0 wr x
 bl : Below wZ.heap.size wZ wr
section
variable {w0 wZ : World} {l : List Bk} {vW v' : Value} {L : List (Bk × Value)} {wr w2 : World}
theorem WnM.below (h : WnM w0 wZ l vW L wr) (hb : Below wr.heap.size wr w2) : WnM w0 wZ l vW L w2 := ⟨h.is, own_below h.own hb, fun x hx => (h.ins x hx).below hb, h.bl.trans (hb.mono h.bl.size)⟩
theorem WnM.app (h : WnM w0 wZ l vW L wr) {x : Bk} {vI : Value} (hx : KrI w0 wr (x, vI)) (ho : w2.ownsRow wZ.heap.size 43 5 v' (L.length + 1) (L.flatMap bkCells ++ bkCells (x, vI))) (hg : wr.grownBy w2 vW.ownBlock) : WnM w0 wZ (l ++ [x]) v' (L ++ [(x, vI)]) w2 := by
 have kr : ∀ {y : Bk × Value}, KrI w0 wr y → KrI w0 w2 y := fun ⟨LI, h1, h2, h3⟩ => ⟨LI, h1, h2, ow_keep h3 fun g hgb => hg.block g (World.ownsRow.lt h3 g hgb).2 fun e => by
  rcases ow_apart h.own h3 (by decide) with e3 | e3
  ·rw [e3] at hgb; cases hgb
  ·exact e3 (hgb.trans e)⟩
 refine ⟨by rw [List.map_append, h.is]; rfl, by simpa using ho, fun y hy => ?_, h.bl.grown hg h.bl.size fun k hk => (World.ownsRow.lt h.own k hk).1⟩
 rcases List.mem_append.1 hy with hy | hy
 ·exact kr (h.ins y hy)
 ·simp only [List.mem_cons, List.not_mem_nil, or_false] at hy
  rw [hy]; exact kr hx
theorem WnM.rd (h : WnM w0 wZ l vW L wr) (he : Ext w0 wr) : RdBks wr vW l := by
 rw [← h.is]
 refine OwnBk.rd (B := wZ.heap.size) ⟨h.own, fun x hx => ?_⟩
 obtain ⟨LI, h1, h2, h3⟩ := h.ins x hx
 rw [← h1]
 exact OwnIn.rd (B := 0) ⟨h3, fun y hy => (h2 y hy).ext he⟩
end
/-- within a block -/
structure InK (w0 wA : World) (b10 b11 : Nat) (vh vn : Value) (t : Ro) (vI : Value) (LI : List (In × Value)) (l : List In) (fin a t3 els : Int) (wr : World) : Prop where
 is : LI.map Prod.fst = l
 args : ∀ y ∈ LI, RdI w0 y.2 y.1.args
 own : wr.ownsRow wA.heap.size 48 11 vI LI.length (LI.flatMap inCells)
 rw : OwRw wr 0 (.agg #[.bool true, vh, vn]) true t
 h10 : wr.heap[b10]? = some (.cells #[.bool true, vh, vn] 40)
 h11 : wr.heap[b11]? = some (.cells #[vI, .int .i64 fin, .int .i64 a, .int .i64 t3, .int .i64 els] 43)
 g10 : wA.heap.size ≤ b10
 g11 : wA.heap.size ≤ b11
 bl : Below wA.heap.size wA wr
theorem OwRw.but {w w' : World} {B g : Nat} {v : Value} {s : Bool} {t : Ro} (h : OwRw w B v s t) (hb : But g w w') {cs : Array Value} {ty : TypeId} (hc : w.heap[g]? = some (.cells cs ty)) (h1 : 4 ≠ ty) (h2 : 45 ≠ ty) : OwRw w' B v s t := by
 obtain ⟨vh, vn, e, o1, o2⟩ := h
 exact ⟨vh, vn, e, World.ownsRow.kept o1 (but_grownK hb) (.inr (row_not o1 hc h1)), World.ownsRow.kept o2 (but_grownK hb) (.inr (row_not o2 hc h2))⟩
section
variable {w0 wA : World} {b10 b11 : Nat} {vh vn : Value} {t : Ro} {vI : Value} {LI : List (In × Value)} {l : List In} {fin a t3 els : Int} {wr w2 : World}
theorem InK.ne (h : InK w0 wA b10 b11 vh vn t vI LI l fin a t3 els wr) : b10 ≠ b11 := fun e => by
 have h1 := h.h10
 rw [e, h.h11] at h1
 simp only [Option.some.injEq, Obj.cells.injEq] at h1
 exact absurd h1.2.1 (by decide)
theorem InK.below (h : InK w0 wA b10 b11 vh vn t vI LI l fin a t3 els wr) (hb : Below wr.heap.size wr w2) : InK w0 wA b10 b11 vh vn t vI LI l fin a t3 els w2 :=
 ⟨h.is, h.args, own_below h.own hb, h.rw.below hb, (hb.block _ (Array.getElem?_eq_some_iff.1 h.h10).1).trans h.h10, (hb.block _ (Array.getElem?_eq_some_iff.1 h.h11).1).trans h.h11, h.g10, h.g11, h.bl.trans (hb.mono h.bl.size)⟩
/-- another row -/
theorem InK.row (h : InK w0 wA b10 b11 vh vn t vI LI l fin a t3 els wr) {vh' vn' : Value} {t' : Ro} (hr : OwRw wr 0 (.agg #[.bool true, vh', vn']) true t') :
  InK w0 wA b10 b11 vh' vn' t' vI LI l fin a t3 els (((wr.setCell ⟨b10, 0, none⟩ (.bool true)).setCell ⟨b10, 1, none⟩ vh').setCell ⟨b10, 2, none⟩ vn') := by
 have hb : But b10 wr (((wr.setCell ⟨b10, 0, none⟩ (.bool true)).setCell ⟨b10, 1, none⟩ vh').setCell ⟨b10, 2, none⟩ vn') := ((But.setCell _ _ _ _).trans (But.setCell _ _ _ _)).trans (But.setCell _ _ _ _)
 exact ⟨h.is, h.args, World.ownsRow.kept h.own (but_grownK hb) (.inr (row_not h.own h.h10 (by decide))), hr.but hb h.h10 (by decide) (by decide), box3_set h.h10 _ _ _, (hb.block _ (Array.getElem?_eq_some_iff.1 h.h11).1 (Ne.symm h.ne)).trans h.h11, h.g10, h.g11, h.bl.trans (hb.toBelow h.g10 h.bl.size)⟩
/-- an instruction more -/
theorem InK.app (h : InK w0 wA b10 b11 vh vn t vI LI l fin a t3 els wr) {v' va : Value} {x : In} (hx : RdI w0 va x.args) (ho : w2.ownsRow wA.heap.size 48 11 v' (LI.length + 1) (LI.flatMap inCells ++ inCells (x, va))) (hg : wr.grownBy w2 vI.ownBlock) :
  InK w0 wA b10 b11 vh vn t v' (LI ++ [(x, va)]) (l ++ [x]) fin a t3 els (w2.setCell ⟨b11, 0, none⟩ v') ∧ w2.heap[b11]? = wr.heap[b11]? ∧ w2.heap[b10]? = wr.heap[b10]? ∧ (∀ z, z < wA.heap.size ∨ z = b10 ∨ z = b11 → z < wr.heap.size ∧ vI.ownBlock ≠ some z) := by
 have ne : ∀ {b : Nat} {cs : Array Value} {ty : TypeId}, wr.heap[b]? = some (.cells cs ty) → 48 ≠ ty → vI.ownBlock ≠ some b := fun hc hne => row_not h.own hc hne
 have n10 := ne h.h10 (by decide)
 have n11 := ne h.h11 (by decide)
 have l10 := (Array.getElem?_eq_some_iff.1 h.h10).1
 have l11 := (Array.getElem?_eq_some_iff.1 h.h11).1
 have k10 := hg.block b10 l10 (fun e => n10 e.symm)
 have k11 := hg.block b11 l11 (fun e => n11 e.symm)
 have h11 := k11.trans h.h11
 have hb : But b11 w2 (w2.setCell ⟨b11, 0, none⟩ v') := But.setCell _ _ _ _
 have hbl : Below wA.heap.size wA w2 := h.bl.grown hg h.bl.size fun k hk => (World.ownsRow.lt h.own k hk).1
 refine ⟨⟨by rw [List.map_append, h.is]; rfl, fun y hy => ?_, ?_, ?_, ?_, ?_, h.g10, h.g11, hbl.trans (hb.toBelow h.g11 hbl.size)⟩, k11, k10, fun z hz => ?_⟩
 ·rcases List.mem_append.1 hy with hy | hy
  ·exact h.args y hy
  ·simp only [List.mem_cons, List.not_mem_nil, or_false] at hy
   rw [hy]; exact hx
 ·have h1 := World.ownsRow.kept ho (but_grownK hb) (.inr (row_not ho h11 (by decide)))
  simpa using h1
 ·have h1 : OwRw w2 0 (.agg #[.bool true, vh, vn]) true t := by
   obtain ⟨vh', vn', e, o1, o2⟩ := h.rw
   refine ⟨vh', vn', e, ow_keep o1 fun g hgb => hg.block g (World.ownsRow.lt o1 g hgb).2 fun e => ?_, ow_keep o2 fun g hgb => hg.block g (World.ownsRow.lt o2 g hgb).2 fun e => ?_⟩
   ·rcases ow_apart h.own o1 (by decide) with e3 | e3
    ·rw [e3] at hgb; cases hgb
    ·exact e3 (hgb.trans e)
   ·rcases ow_apart h.own o2 (by decide) with e3 | e3
    ·rw [e3] at hgb; cases hgb
    ·exact e3 (hgb.trans e)
  exact h1.but hb h11 (by decide) (by decide)
 ·exact (hb.block _ (Array.getElem?_eq_some_iff.1 (k10.trans h.h10)).1 h.ne).trans (k10.trans h.h10)
 ·rw [heap_setCell_same _ _ _ _ _ _ h11]; rfl
 ·rcases hz with hz | rfl | rfl
  ·exact ⟨Nat.lt_of_lt_of_le hz h.bl.size, fun e => by have := (World.ownsRow.lt h.own z e).1; omega⟩
  ·exact ⟨l10, n10⟩
  ·exact ⟨l11, n11⟩
end
end Go.Proofs.YtkhfddodmjnecaaGreatDoor
