/-
 law 22: a procedure with a mark more, plain, and what holds while it is made.
-/
import Derived.Test.YtmcddolkpcgddaaZHazardMarks47
import Derived.Test.YtmcddolkpcgddaaZHazardMarks28
import Derived.Test.YtmcddolkpcgddaaZHazardMarks29
set_option linter.all false
namespace Go.Proofs.Ytmcddolkpcgddaa
open Go.ChangeShapes Go.WideShapes Go.ChangeAt Go.RowKit
set_option maxHeartbeats 4000000
set_option maxRecDepth 100000
set_option linter.unusedVariables false
theorem ow_keep22 {w w' : World} {B s n : Nat} {e : TypeId} {v : Value} {xs : List Value} (h : w.ownsRow B e s v n xs) (hb : ∀ g, v.ownBlock = some g → w'.heap[g]? = w.heap[g]?) : w'.ownsRow B e s v n xs := by
 obtain ⟨h1, h2 | ⟨g, cap, cur, rfl, h2, h3, h4⟩⟩ := h
 ·exact ⟨h1, .inl h2⟩
 ·exact ⟨h1, .inr ⟨g, cap, cur, rfl, h2, (hb g rfl).trans h3, h4⟩⟩
theorem row_not22 {w : World} {B m s b : Nat} {e ty : TypeId} {v : Value} {xs : List Value} {cs : Array Value} (h : w.ownsRow B e s v m xs) (hb : w.heap[b]? = some (.cells cs ty)) (hne : e ≠ ty) : v.ownBlock ≠ some b := fun e2 => by
 obtain ⟨c, hc⟩ := own_ty h e2
 rw [hb] at hc
 simp only [Option.some.injEq, Obj.cells.injEq] at hc
 exact hne hc.2.1.symm
theorem ow_apart22 {w : World} {B B' n n' s s' : Nat} {e e' : TypeId} {v v' : Value} {xs xs' : List Value} (h : w.ownsRow B e s v n xs) (h' : w.ownsRow B' e' s' v' n' xs') (hne : e ≠ e') : v'.ownBlock = none ∨ v'.ownBlock ≠ v.ownBlock := by
 obtain ⟨-, ⟨rfl, -⟩ | ⟨g', cap, cur, rfl, -, hg, -⟩⟩ := h'
 ·exact .inl rfl
 ·exact .inr fun e2 => row_not22 h hg hne e2.symm
/-- a row of instructions made since -/
def KrI22 (w0 w : World) (x : Bk × Value) : Prop := ∃ LI : List (In × Value), LI.map Prod.fst = x.1.ins ∧ (∀ y ∈ LI, RdI w0 y.2 y.1.args) ∧ w.ownsRow 0 58 11 x.2 LI.length (LI.flatMap inCells)
theorem KrI22.below {w0 w w' : World} {x : Bk × Value} (h : KrI22 w0 w x) (hb : Below w.heap.size w w') : KrI22 w0 w' x := let ⟨LI, h1, h2, h3⟩ := h; ⟨LI, h1, h2, own_below h3 hb⟩
def mkL22 (l : List In) (k i : Nat) : List In := if i ≤ k then l.take i else l.take k ++ markI :: (l.drop k).take (i - k)
theorem mkL22_0 (l : List In) (k : Nat) : mkL22 l k 0 = [] := by unfold mkL22; rw [if_pos (Nat.zero_le _)]; rfl
theorem take_snoc22 {α : Type} [Inhabited α] {l : List α} {i : Nat} (h : i < l.length) : l.take (i + 1) = l.take i ++ [l.getD i default] := by
 rw [List.take_succ, List.getElem?_eq_getElem h]; simp [List.getD, h]
theorem mkL22_ne {l : List In} {k i : Nat} (h : i < l.length) (hne : i ≠ k) : mkL22 l k (i + 1) = mkL22 l k i ++ [l.getD i default] := by
 unfold mkL22
 by_cases h1 : i < k
 ·rw [if_pos (by omega), if_pos (by omega), take_snoc22 h]
 ·rw [if_neg (by omega), if_neg (by omega)]
  have e : (l.drop k).take (i + 1 - k) = (l.drop k).take (i - k) ++ [l.getD i default] := by
   have hl : i - k < (l.drop k).length := by rw [List.length_drop]; omega
   rw [show i + 1 - k = (i - k) + 1 by omega, take_snoc22 hl]
   congr 2
   simp only [List.getD, List.getElem?_drop]
   rw [show k + (i - k) = i by omega]
  rw [e]; simp
theorem mkL22_eq {l : List In} {k : Nat} (h : k < l.length) : mkL22 l k (k + 1) = (mkL22 l k k ++ [markI]) ++ [l.getD k default] := by
 unfold mkL22
 rw [if_neg (by omega), if_pos (Nat.le_refl _)]
 have hl : 0 < (l.drop k).length := by rw [List.length_drop]; omega
 rw [show k + 1 - k = 0 + 1 by omega, take_snoc22 hl]
 simp [List.getD, List.getElem?_drop]
theorem mkL22_all {l : List In} {k : Nat} (h : k < l.length) : mkL22 l k l.length = l.take k ++ markI :: l.drop k := by
 unfold mkL22
 rw [if_neg (by omega), show (l.drop k).take (l.length - k) = l.drop k from List.take_of_length_le (by rw [List.length_drop]; exact Nat.le_refl _)]
theorem mkL22_len (l : List In) (k i : Nat) : (mkL22 l k i).length ≤ i + 1 := by
 unfold mkL22
 split
 ·rw [List.length_take]; omega
 ·simp; omega
/-- the blocks made so far -/
structure MkM (w : World) (b3 b6 b7 : Nat) (nm : ByteArray) (p : Pr) (vo vb : Value) (l : List Bk) (vW : Value) (L : List (Bk × Value)) (wr : World) : Prop where
 is : L.map Prod.fst = l
 own : wr.ownsRow w.heap.size 51 5 vW L.length (L.flatMap bkCells)
 ins : ∀ x ∈ L, RdIns w x.2 x.1.ins ∨ KrI22 w wr x
 h3 : wr.heap[b3]? = some (.cells #[.string nm, .bool p.void, .int .i64 p.params, .int .i64 p.regs, vo, vb] 32)
 h6 : wr.heap[b6]? = some (.cells #[.string ⟨#[]⟩, .bool false, .int .i64 0, .int .i64 0, .slice none 0 0, .slice none 0 0] 32)
 h7 : wr.heap[b7]? = some (.cells #[.string nm, .bool p.void, .int .i64 p.params, .int .i64 p.regs, vo, vW] 32)
 ne : b3 ≠ b7 ∧ b6 ≠ b7
 g7 : w.heap.size ≤ b7
 bl : Below w.heap.size w wr
section
variable {w wr w2 : World} {b3 b6 b7 : Nat} {nm : ByteArray} {p : Pr} {vo vb vW v' : Value} {l : List Bk} {L : List (Bk × Value)}
theorem MkM.keep (h : MkM w b3 b6 b7 nm p vo vb l vW L wr) (hR : ∀ x ∈ L, RdIns w x.2 x.1.ins) (hb : Below w.heap.size w w2) (hk : ∀ z cs ty, wr.heap[z]? = some (.cells cs ty) → (ty = 32 ∨ vW.ownBlock = some z) → w2.heap[z]? = wr.heap[z]?) : MkM w b3 b6 b7 nm p vo vb l vW L w2 :=
 ⟨h.is, ow_keep22 h.own (fun g hg => by
   obtain ⟨c, hc⟩ := own_ty h.own hg
   exact hk g _ _ hc (.inr hg)), fun x hx => .inl (hR x hx), (hk _ _ _ h.h3 (.inl rfl)).trans h.h3, (hk _ _ _ h.h6 (.inl rfl)).trans h.h6, (hk _ _ _ h.h7 (.inl rfl)).trans h.h7, h.ne, h.g7, hb⟩
theorem MkM.below (h : MkM w b3 b6 b7 nm p vo vb l vW L wr) (hb : Below wr.heap.size wr w2) : MkM w b3 b6 b7 nm p vo vb l vW L w2 :=
 have k : ∀ {z : Nat} {o : Obj}, wr.heap[z]? = some o → w2.heap[z]? = some o := fun hc => (hb.block _ (Array.getElem?_eq_some_iff.1 hc).1).trans hc
 ⟨h.is, own_below h.own hb, fun x hx => (h.ins x hx).imp id fun r => r.below hb, k h.h3, k h.h6, k h.h7, h.ne, h.g7, h.bl.trans (hb.mono h.bl.size)⟩
theorem MkM.app (h : MkM w b3 b6 b7 nm p vo vb l vW L wr) {x : Bk} {vI : Value} (hx : RdIns w vI x.ins ∨ KrI22 w wr (x, vI)) (ho : w2.ownsRow w.heap.size 51 5 v' (L.length + 1) (L.flatMap bkCells ++ bkCells (x, vI))) (hg : wr.grownBy w2 vW.ownBlock) :
  MkM w b3 b6 b7 nm p vo vb (l ++ [x]) v' (L ++ [(x, vI)]) (w2.setCell ⟨b7, 5, none⟩ v') ∧ w2.heap[b7]? = wr.heap[b7]? := by
 have np : ∀ {b : Nat} {cs : Array Value}, wr.heap[b]? = some (.cells cs 32) → w2.heap[b]? = wr.heap[b]? := fun hc => hg.block _ (Array.getElem?_eq_some_iff.1 hc).1 (fun e => row_not22 h.own hc (by decide) e.symm)
 have k7 := np h.h7
 have h7 := k7.trans h.h7
 have hb : But b7 w2 (w2.setCell ⟨b7, 5, none⟩ v') := But.setCell _ _ _ _
 have hbl : Below w.heap.size w w2 := h.bl.grown hg h.bl.size fun k hk => (World.ownsRow.lt h.own k hk).1
 have kr : ∀ {y : Bk × Value}, KrI22 w wr y → KrI22 w (w2.setCell ⟨b7, 5, none⟩ v') y := fun ⟨LI, h1, h2, h3⟩ => ⟨LI, h1, h2, by
  have e1 : w2.ownsRow 0 58 11 _ LI.length (LI.flatMap inCells) := ow_keep22 h3 fun g hgb => hg.block g (World.ownsRow.lt h3 g hgb).2 fun e => by
   rcases ow_apart22 h.own h3 (by decide) with e3 | e3
   ·rw [e3] at hgb; cases hgb
   ·exact e3 (hgb.trans e)
  exact World.ownsRow.kept e1 (but_grownK hb) (.inr (row_not22 e1 h7 (by decide)))⟩
 refine ⟨⟨by rw [List.map_append, h.is]; rfl, ?_, fun y hy => ?_, ?_, ?_, ?_, h.ne, h.g7, hbl.trans (hb.toBelow h.g7 hbl.size)⟩, k7⟩
 ·have h1 := World.ownsRow.kept ho (but_grownK hb) (.inr (row_not22 ho h7 (by decide)))
  simpa using h1
 ·rcases List.mem_append.1 hy with hy | hy
  ·exact (h.ins y hy).imp id kr
  ·simp only [List.mem_cons, List.not_mem_nil, or_false] at hy
   rw [hy]
   exact hx.imp id kr
 ·exact (hb.block _ (Array.getElem?_eq_some_iff.1 ((np h.h3).trans h.h3)).1 h.ne.1).trans ((np h.h3).trans h.h3)
 ·exact (hb.block _ (Array.getElem?_eq_some_iff.1 ((np h.h6).trans h.h6)).1 h.ne.2).trans ((np h.h6).trans h.h6)
 ·rw [heap_setCell_same _ _ _ _ _ _ h7]; rfl
theorem MkM.rd (h : MkM w b3 b6 b7 nm p vo vb l vW L wr) : RdBks wr vW l := by
 have he := Ext.below h.bl
 rw [← h.is]
 refine OwnBk.rd (B := w.heap.size) ⟨h.own, fun x hx => ?_⟩
 rcases h.ins x hx with h1 | ⟨LI, h1, h2, h3⟩
 ·exact h1.ext he
 ·rw [← h1]
  exact OwnIn.rd (B := 0) ⟨h3, fun y hy => (h2 y hy).ext he⟩
end
theorem MkM.rd6 {w wr w2 : World} {b3 b6 b7 : Nat} {nm : ByteArray} {p : Pr} {vo vb vW : Value} {l : List Bk} {L : List (Bk × Value)} (h : MkM w b3 b6 b7 nm p vo vb l vW L wr) (hb : But b6 wr w2) (g6 : w.heap.size ≤ b6) : RdBks w2 vW l ∧ Below w.heap.size w w2 := by
 have hbl : Below w.heap.size w w2 := h.bl.trans (hb.toBelow g6 h.bl.size)
 have he := Ext.below hbl
 refine ⟨?_, hbl⟩
 rw [← h.is]
 refine OwnBk.rd (B := w.heap.size) ⟨World.ownsRow.kept h.own (but_grownK hb) (.inr (row_not22 h.own h.h6 (by decide))), fun x hx => ?_⟩
 rcases h.ins x hx with h1 | ⟨LI, h1, h2, h3⟩
 ·exact h1.ext he
 ·rw [← h1]
  exact OwnIn.rd (B := 0) ⟨World.ownsRow.kept h3 (but_grownK hb) (.inr (row_not22 h3 h.h6 (by decide))), fun y hy => (h2 y hy).ext he⟩
/-- within the block that gets the mark -/
structure InM (w : World) (b3 b6 b7 b9 : Nat) (nm : ByteArray) (p : Pr) (vo vb : Value) (l : List Bk) (vW : Value) (L : List (Bk × Value)) (vI : Value) (LI : List (In × Value)) (li : List In) (fin a t els : Int) (wr : World) : Prop where
 ou : MkM w b3 b6 b7 nm p vo vb l vW L wr
 al : ∀ x ∈ L, RdIns w x.2 x.1.ins
 is : LI.map Prod.fst = li
 args : ∀ y ∈ LI, RdI w y.2 y.1.args
 own : wr.ownsRow w.heap.size 58 11 vI LI.length (LI.flatMap inCells)
 h9 : wr.heap[b9]? = some (.cells #[vI, .int .i64 fin, .int .i64 a, .int .i64 t, .int .i64 els] 51)
 g9 : w.heap.size ≤ b9
 n9 : vW.ownBlock ≠ some b9
section
variable {w wr w2 : World} {b3 b6 b7 b9 : Nat} {nm : ByteArray} {p : Pr} {vo vb vW v' va vI : Value} {l : List Bk} {L : List (Bk × Value)} {LI : List (In × Value)} {li : List In} {fin a t els : Int}
theorem InM.below (h : InM w b3 b6 b7 b9 nm p vo vb l vW L vI LI li fin a t els wr) (hb : Below wr.heap.size wr w2) : InM w b3 b6 b7 b9 nm p vo vb l vW L vI LI li fin a t els w2 :=
 ⟨h.ou.below hb, h.al, h.is, h.args, own_below h.own hb, (hb.block _ (Array.getElem?_eq_some_iff.1 h.h9).1).trans h.h9, h.g9, h.n9⟩
theorem InM.apart (h : InM w b3 b6 b7 b9 nm p vo vb l vW L vI LI li fin a t els wr) : ∀ z, z < w.heap.size ∨ z = b9 ∨ z = b3 → z < wr.heap.size ∧ vI.ownBlock ≠ some z := fun z hz => by
 rcases hz with hz | rfl | rfl
 ·exact ⟨Nat.lt_of_lt_of_le hz h.ou.bl.size, fun e => by have := (World.ownsRow.lt h.own z e).1; omega⟩
 ·exact ⟨(Array.getElem?_eq_some_iff.1 h.h9).1, row_not22 h.own h.h9 (by decide)⟩
 ·exact ⟨(Array.getElem?_eq_some_iff.1 h.ou.h3).1, row_not22 h.own h.ou.h3 (by decide)⟩
theorem InM.app (h : InM w b3 b6 b7 b9 nm p vo vb l vW L vI LI li fin a t els wr) {x : In} (hx : RdI w va x.args) (ho : w2.ownsRow w.heap.size 58 11 v' (LI.length + 1) (LI.flatMap inCells ++ inCells (x, va))) (hg : wr.grownBy w2 vI.ownBlock) :
  InM w b3 b6 b7 b9 nm p vo vb l vW L v' (LI ++ [(x, va)]) (li ++ [x]) fin a t els (w2.setCell ⟨b9, 0, none⟩ v') ∧ w2.heap[b9]? = wr.heap[b9]? := by
 have k9 := hg.block b9 (Array.getElem?_eq_some_iff.1 h.h9).1 (fun e => row_not22 h.own h.h9 (by decide) e.symm)
 have h9 := k9.trans h.h9
 have hb : But b9 w2 (w2.setCell ⟨b9, 0, none⟩ v') := But.setCell _ _ _ _
 have hbl : Below w.heap.size w w2 := h.ou.bl.grown hg h.ou.bl.size fun k hk => (World.ownsRow.lt h.own k hk).1
 refine ⟨⟨h.ou.keep h.al (hbl.trans (hb.toBelow h.g9 hbl.size)) (fun z cs ty hz hty => ?_), h.al, by rw [List.map_append, h.is]; rfl, fun y hy => ?_, ?_, ?_, h.g9, h.n9⟩, k9⟩
 ·have hne : vI.ownBlock ≠ some z := fun e => by
   obtain ⟨c, hc⟩ := own_ty h.own e
   rw [hz] at hc
   simp only [Option.some.injEq, Obj.cells.injEq] at hc
   rcases hty with rfl | h5
   ·exact absurd hc.2.1 (by decide)
   ·obtain ⟨c5, hc5⟩ := own_ty h.ou.own h5
    rw [hz] at hc5
    simp only [Option.some.injEq, Obj.cells.injEq] at hc5
    exact absurd (hc5.2.1.symm.trans hc.2.1) (by decide)
  have hz9 : z ≠ b9 := fun e => by
   subst e
   rcases hty with rfl | h5
   ·rw [h.h9] at hz
    simp only [Option.some.injEq, Obj.cells.injEq] at hz
    exact absurd hz.2.1 (by decide)
   ·exact h.n9 h5
  have k := hg.block z (Array.getElem?_eq_some_iff.1 hz).1 (fun e => hne e.symm)
  exact (hb.block _ (Array.getElem?_eq_some_iff.1 (k.trans hz)).1 hz9).trans k
 ·rcases List.mem_append.1 hy with hy | hy
  ·exact h.args y hy
  ·simp only [List.mem_cons, List.not_mem_nil, or_false] at hy
   rw [hy]; exact hx
 ·have h1 := World.ownsRow.kept ho (but_grownK hb) (.inr (row_not22 ho h9 (by decide)))
  simpa using h1
 ·rw [heap_setCell_same _ _ _ _ _ _ h9]; rfl
end
end Go.Proofs.Ytmcddolkpcgddaa
