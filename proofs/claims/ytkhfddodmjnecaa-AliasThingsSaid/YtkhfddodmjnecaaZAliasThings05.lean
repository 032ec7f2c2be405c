/-
 What a statement that makes two rows of bools and appends each to a table does, in whatever order its parts are carried out.
-/
import Derived.Test.YtkhfddodmjnecaaZAliasThings03
import Derived.Test.YtkhfddodmjnecaaZAliasThings04
import Derived.Deep.OwnRows
set_option linter.all false
namespace Go.Proofs.Ytkhfddodmjnecaa
open Go.ChangeShapes Go.WideShapes Go.ChangeAt Go.RowKit
set_option maxHeartbeats 1000000
set_option maxRecDepth 20000

/-- a table of the call's own: a slice of slices of bools -/
def TabV (w : World) (B : Nat) (v : Value) (L : List Value) : Prop := w.ownsRow B 45 1 v L.length L
/-- so many that do not hold -/
def rowV (g R c : Nat) : Value := .slice (some ⟨g, 0, none⟩) R c
theorem TabV.below {w w' : World} {B : Nat} {v : Value} {L : List Value} (h : TabV w B v L) (hb : Below w.heap.size w w') : TabV w' B v L := by
 obtain ⟨h1, h2 | ⟨g, cap, cur, h3, h4, h5, r⟩⟩ := h
 ·exact ⟨h1, .inl h2⟩
 ·exact ⟨h1, .inr ⟨g, cap, cur, h3, h4, (hb.block g (Array.getElem?_eq_some_iff.1 h5).1).trans h5, r⟩⟩
theorem RowB.heap {w : World} {g n c : Nat} {l : List Bool} (h : RowB w g n c l) : ∃ cur, w.heap[g]? = some (.cells cur 4 (0, 0)) := by
 obtain ⟨-, ⟨h5, -⟩ | ⟨g', cap, cur, h5, -, hh, -⟩⟩ := h
 ·simp at h5
 ·simp only [Value.slice.injEq, Option.some.injEq, Addr.mk.injEq] at h5
  rw [h5.1.1]
  exact ⟨cur, hh⟩
theorem TabV.heap {w : World} {B : Nat} {v : Value} {L : List Value} (h : TabV w B v L) {t : Nat} (ht : v.ownBlock = some t) : ∃ cur, w.heap[t]? = some (.cells cur 45 (0, 0)) := by
 obtain ⟨-, ⟨rfl, -⟩ | ⟨g, cap, cur, rfl, -, hh, -⟩⟩ := h
 ·simp [Value.ownBlock] at ht
 ·simp [Value.ownBlock] at ht; subst ht; exact ⟨cur, hh⟩
/-- a table is no row -/
theorem tab_ne_row {w : World} {B : Nat} {v : Value} {L : List Value} {g n c : Nat} {l : List Bool} (h : TabV w B v L) (hr : RowB w g n c l) : v.ownBlock ≠ some g := by
 intro e
 obtain ⟨c1, h1⟩ := h.heap e
 obtain ⟨c2, h2⟩ := hr.heap
 rw [h1] at h2
 simp at h2
theorem TabV.but {w w' : World} {B g : Nat} {v : Value} {L : List Value} (h : TabV w B v L) (hb : But g w w') (hg : v.ownBlock ≠ some g) : TabV w' B v L := by
 obtain ⟨h1, h2 | ⟨g', cap, cur, rfl, h4, h5, r⟩⟩ := h
 ·exact ⟨h1, .inl h2⟩
 ·exact ⟨h1, .inr ⟨g', cap, cur, rfl, h4, (hb.block g' (Array.getElem?_eq_some_iff.1 h5).1 (fun e => hg (by simp [Value.ownBlock, e]))).trans h5, r⟩⟩
theorem TabV.grown {w w' : World} {B : Nat} {v : Value} {L : List Value} {r : Option Nat} (h : TabV w B v L) (hb : w.grownBy w' r) (hg : v.ownBlock = none ∨ v.ownBlock ≠ r) : TabV w' B v L := World.ownsRow.kept h hb hg
theorem RowB.grown {w w' : World} {g n c : Nat} {l : List Bool} {r : Option Nat} (h : RowB w g n c l) (hb : w.grownBy w' r) (hg : r ≠ some g) : RowB w' g n c l :=
 World.ownsRow.kept h hb (.inr (fun e => hg (by rw [← e]; rfl)))
theorem info_tab : (Try.prog.info? 45).map (fun i => (i.zero, i.size, i.bytes)) = some (some (.slice none 0 0), 1, 24) := by kernel_rfl
/-- the law of append for a table of the call's own: one more -/
theorem appT {ops : Array Oper} {rest : List Oper} {o : Oper} {a : Act} {W : World} {B : Nat} {v xv : Value} {L : List Value} {g : Nat} {Q : Exit → Act → World → Prop} {s x : Operand} (hown : TabV W B v L) (hgd : o.guard = none)
  (ho : o.op = .call { callee := .builtin .append, args := #[s, x], argTypes := #[44, 44] }) (hs : a.eval s = v)
  (hx : a.eval x = .slice (some ⟨g, 0, none⟩) 1 1) (hc : W.cell? ⟨g, 0, none⟩ = some xv) (h1 : xv.oneCell' = true) (hlen : L.length ≤ 1000000000) (hB : B ≤ W.heap.size)
  (h : ∀ v' w', TabV w' B v' (L ++ [xv]) → W.grownBy w' v.ownBlock → wpList Try.prog ops Q rest (a.put o.dst v') w') : wpList Try.prog ops Q (o :: rest) a W := by
 obtain ⟨i0, hi, hz0, hz1, hz2⟩ := info_parts info_tab
 refine wpList_append_own _ hgd s x 44 ho B 45 i0 (.slice none 0 0) 1 24 Try.underlying44 hi hz0 hz1 hz2 rfl (by decide) v L.length L hs hown ⟨g, 0, none⟩ 1 1 [xv] hx rfl ?_ ?_ ?_ ?_ hB ?_
 ·intro j u hj
  match j, hj with
  | 0, hj => simp at hj; subst hj; simpa [Addr.add] using hc
 ·intro u hu; simp at hu; subst hu; exact h1
 ·unfold maxLen; omega
 ·omega
 ·intro v' w' h1 h2 _
  refine h v' w' ?_ h2
  unfold TabV
  simpa using h1
/-- how far the two makings have come -/
structure TwoSt (wr : World) (B : Nat) (vi vo : Value) (Ti To : List Value) (R : Nat) (w : World) (x24 x25 x26 x29 x30 : Value) (pa pb : Nat) : Prop where
 os : w.os = wr.os
 tape : w.tape = wr.tape
 output : w.output = wr.output
 size : wr.heap.size ≤ w.heap.size
 block : ∀ k, k < wr.heap.size → some k ≠ vi.ownBlock → some k ≠ vo.ownBlock → w.heap[k]? = wr.heap[k]?
 tabI : if pa < 3 then TabV w B vi Ti else TabV w B x26 (Ti ++ [x24])
 tabO : TabV w B vo To
 a1 : 1 ≤ pa → ∃ g, x24 = rowV g R R ∧ wr.heap.size ≤ g ∧ RowB w g R R (List.replicate R false)
 a2 : pa = 2 → ∃ h, x25 = .slice (some ⟨h, 0, none⟩) 1 1 ∧ wr.heap.size ≤ h ∧ w.cell? ⟨h, 0, none⟩ = some x24
 b1 : 1 ≤ pb → ∃ g, x29 = rowV g R R ∧ wr.heap.size ≤ g ∧ RowB w g R R (List.replicate R false)
 b2 : pb = 2 → ∃ h, x30 = .slice (some ⟨h, 0, none⟩) 1 1 ∧ wr.heap.size ≤ h ∧ w.cell? ⟨h, 0, none⟩ = some x29
 ne : 1 ≤ pa → 1 ≤ pb → x24 ≠ x29
 tI : ∀ t, vi.ownBlock = some t → t < wr.heap.size
 tO : ∀ t, vo.ownBlock = some t → t < wr.heap.size
section
variable {wr : World} {B : Nat} {vi vo : Value} {Ti To : List Value} {R : Nat} {w : World} {x24 x25 x26 x29 x30 : Value} {pa pb : Nat}
theorem TwoSt.grow (h : TwoSt wr B vi vo Ti To R w x24 x25 x26 x29 x30 pa pb) (o : Obj) : TwoSt wr B vi vo Ti To R (w.alloc o) x24 x25 x26 x29 x30 pa pb := by
 have hb := below_alloc w o
 refine ⟨h.os, h.tape, h.output, Nat.le_trans h.size hb.size, fun k hk h1 h2 => ?_, ?_, h.tabO.below hb, fun hp => ?_, fun hp => ?_, fun hp => ?_, fun hp => ?_, h.ne, h.tI, h.tO⟩
 ·rw [hb.block k (Nat.lt_of_lt_of_le hk h.size)]; exact h.block k hk h1 h2
 ·have := h.tabI
  split
  ·rename_i hp; rw [if_pos hp] at this; exact this.below hb
  ·rename_i hp; rw [if_neg hp] at this; exact this.below hb
 ·obtain ⟨g, e, hg, hr⟩ := h.a1 hp; exact ⟨g, e, hg, hr.below hb⟩
 ·obtain ⟨g, e, hg, hr⟩ := h.a2 hp; exact ⟨g, e, hg, Ext.alloc w o _ _ hr⟩
 ·obtain ⟨g, e, hg, hr⟩ := h.b1 hp; exact ⟨g, e, hg, hr.below hb⟩
 ·obtain ⟨g, e, hg, hr⟩ := h.b2 hp; exact ⟨g, e, hg, Ext.alloc w o _ _ hr⟩
/-- two tables apart: by what stands first -/
def Apart2 (vo : Value) (Ti To : List Value) : Prop := (To = [] ∧ vo = .slice none 0 0) ∨ ∃ x y Ti' To', Ti = x :: Ti' ∧ To = y :: To' ∧ x ≠ y
theorem Apart2.more {vo x z : Value} {Ti To : List Value} (h : Apart2 vo Ti To) : Apart2 vo (Ti ++ [x]) To := by
 rcases h with h | ⟨x', y, Ti', To', rfl, rfl, hxy⟩
 ·exact .inl h
 ·exact .inr ⟨x', y, Ti' ++ [x], To', rfl, rfl, hxy⟩
theorem TwoSt.start (hI : TabV wr B vi Ti) (hO : TabV wr B vo To) (y24 y25 y26 y29 y30 : Value) : TwoSt wr B vi vo Ti To R wr.drew y24 y25 y26 y29 y30 0 0 :=
 ⟨rfl, rfl, rfl, Nat.le_refl _, fun _ _ _ _ => rfl, by rw [if_pos (by decide)]; exact hI, hO, fun h => by omega, fun h => by omega, fun h => by omega, fun h => by omega, fun h => by omega,
   fun t ht => (Array.getElem?_eq_some_iff.1 (hI.heap ht).choose_spec).1, fun t ht => (Array.getElem?_eq_some_iff.1 (hO.heap ht).choose_spec).1⟩
/-- what has come of it -/
structure TwoEnd (wr : World) (B : Nat) (vi vo : Value) (Ti To : List Value) (R : Nat) (w : World) (vi' vo' : Value) (gA gB : Nat) : Prop where
 os : w.os = wr.os
 tape : w.tape = wr.tape
 output : w.output = wr.output
 size : wr.heap.size ≤ w.heap.size
 block : ∀ k, k < wr.heap.size → some k ≠ vi.ownBlock → some k ≠ vo.ownBlock → w.heap[k]? = wr.heap[k]?
 tabI : TabV w B vi' (Ti ++ [rowV gA R R])
 tabO : TabV w B vo' (To ++ [rowV gB R R])
 rowA : RowB w gA R R (List.replicate R false)
 rowB : RowB w gB R R (List.replicate R false)
 geA : wr.heap.size ≤ gA
 geB : wr.heap.size ≤ gB
 ne : gA ≠ gB
end
end Go.Proofs.Ytkhfddodmjnecaa
