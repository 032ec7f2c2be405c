/-
 What a statement that makes two rows of bools and appends each to a table does, in whatever order its parts are carried out.
-/
import Derived.Test.YtchoiankeohonaaGreatDoorZInlineAll26
import Derived.Test.YtchoiankeohonaaGreatDoorZInlineAll00
import Derived.Deep.OwnRows
set_option linter.all false
namespace Go.Proofs.YtchoiankeohonaaGreatDoor
open Go.ChangeShapes Go.WideShapes Go.ChangeAt Go.RowKit
set_option maxHeartbeats 1000000
set_option maxRecDepth 20000

/-- a table of the call's own: a slice of slices of bools -/
def TabV (w : World) (B : Nat) (v : Value) (L : List Value) : Prop := w.ownsRow B 113 1 v L.length L
/-- so many that do not hold -/
def rowV (g R c : Nat) : Value := .slice (some ⟨g, 0, none⟩) R c
theorem TabV.below {w w' : World} {B : Nat} {v : Value} {L : List Value} (h : TabV w B v L) (hb : Below w.heap.size w w') : TabV w' B v L := by
 obtain ⟨h1, h2 | ⟨g, cap, cur, h3, h4, h5, r⟩⟩ := h
 ·exact ⟨h1, .inl h2⟩
 ·exact ⟨h1, .inr ⟨g, cap, cur, h3, h4, (hb.block g (Array.getElem?_eq_some_iff.1 h5).1).trans h5, r⟩⟩
theorem RowB.heap {w : World} {g n c : Nat} {l : List Bool} (h : RowB w g n c l) : ∃ cur, w.heap[g]? = some (.cells cur 4 (0, 0)) := by
 obtain ⟨-, ⟨h5, -⟩ | ⟨g', cap, cur, h5, -, hh, -⟩⟩ := h
 ·simp at h5
 ·simp only [Value.slice.injEq, Option.some.injEq, Addr.mk.injEq] at h5
  rw [h5.1.1]
  exact ⟨cur, hh⟩
theorem TabV.heap {w : World} {B : Nat} {v : Value} {L : List Value} (h : TabV w B v L) {t : Nat} (ht : v.ownBlock = some t) : ∃ cur, w.heap[t]? = some (.cells cur 113 (0, 0)) := by
 obtain ⟨-, ⟨rfl, -⟩ | ⟨g, cap, cur, rfl, -, hh, -⟩⟩ := h
 ·simp [Value.ownBlock] at ht
 ·simp [Value.ownBlock] at ht; subst ht; exact ⟨cur, hh⟩
/-- a table is no row -/
theorem tab_ne_row {w : World} {B : Nat} {v : Value} {L : List Value} {g n c : Nat} {l : List Bool} (h : TabV w B v L) (hr : RowB w g n c l) : v.ownBlock ≠ some g := by
 intro e
 obtain ⟨c1, h1⟩ := h.heap e
 obtain ⟨c2, h2⟩ := hr.heap
 rw [h1] at h2
 simp at h2
theorem TabV.but {w w' : World} {B g : Nat} {v : Value} {L : List Value} (h : TabV w B v L) (hb : But g w w') (hg : v.ownBlock ≠ some g) : TabV w' B v L := by
 obtain ⟨h1, h2 | ⟨g', cap, cur, rfl, h4, h5, r⟩⟩ := h
 ·exact ⟨h1, .inl h2⟩
 ·exact ⟨h1, .inr ⟨g', cap, cur, rfl, h4, (hb.block g' (Array.getElem?_eq_some_iff.1 h5).1 (fun e => hg (by simp [Value.ownBlock, e]))).trans h5, r⟩⟩
theorem TabV.grown {w w' : World} {B : Nat} {v : Value} {L : List Value} {r : Option Nat} (h : TabV w B v L) (hb : w.grownBy w' r) (hg : v.ownBlock = none ∨ v.ownBlock ≠ r) : TabV w' B v L := World.ownsRow.kept h hb hg
theorem RowB.grown {w w' : World} {g n c : Nat} {l : List Bool} {r : Option Nat} (h : RowB w g n c l) (hb : w.grownBy w' r) (hg : r ≠ some g) : RowB w' g n c l :=
 World.ownsRow.kept h hb (.inr (fun e => hg (by rw [← e]; rfl)))
theorem info_tab : (Tryz.prog.info? 113).map (fun i => (i.zero, i.size, i.bytes)) = some (some (.slice none 0 0), 1, 24) := by kernel_rfl
/-- the law of append for a table of the call's own: one more -/
theorem appT {ops : Array Oper} {rest : List Oper} {o : Oper} {a : Act} {W : World} {B : Nat} {v xv : Value} {L : List Value} {g : Nat} {Q : Exit → Act → World → Prop} {s x : Operand} (hown : TabV W B v L) (hgd : o.guard = none)
  (ho : o.op = .call { callee := .builtin .append, args := #[s, x], argTypes := #[110, 110] }) (hs : a.eval s = v)
  (hx : a.eval x = .slice (some ⟨g, 0, none⟩) 1 1) (hc : W.cell? ⟨g, 0, none⟩ = some xv) (h1 : xv.oneCell' = true) (hlen : L.length ≤ 1000000000) (hB : B ≤ W.heap.size)
  (h : ∀ v' w', TabV w' B v' (L ++ [xv]) → W.grownBy w' v.ownBlock → wpList Tryz.prog ops Q rest (a.put o.dst v') w') : wpList Tryz.prog ops Q (o :: rest) a W := by
 obtain ⟨i0, hi, hz0, hz1, hz2⟩ := info_parts info_tab
 refine wpList_append_own _ hgd s x 110 ho B 113 i0 (.slice none 0 0) 1 24 Tryz.underlying110 hi hz0 hz1 hz2 rfl (by decide) v L.length L hs hown ⟨g, 0, none⟩ 1 1 [xv] hx rfl ?_ ?_ ?_ ?_ hB ?_
 ·intro j u hj
  match j, hj with
  | 0, hj => simp at hj; subst hj; simpa [Addr.add] using hc
 ·intro u hu; simp at hu; subst hu; exact h1
 ·unfold maxLen; omega
 ·omega
 ·intro v' w' h1 h2 _
  refine h v' w' ?_ h2
  unfold TabV
  simpa using h1
/-- how far the two makings have come -/
structure TwoSt (wr : World) (B : Nat) (vi vo : Value) (Ti To : List Value) (R : Nat) (w : World) (x24 x25 x26 x29 x30 : Value) (pa pb : Nat) : Prop where
 os : w.os = wr.os
 tape : w.tape = wr.tape
 output : w.output = wr.output
 size : wr.heap.size ≤ w.heap.size
 block : ∀ k, k < wr.heap.size → some k ≠ vi.ownBlock → some k ≠ vo.ownBlock → w.heap[k]? = wr.heap[k]?
 tabI : if pa < 3 then TabV w B vi Ti else TabV w B x26 (Ti ++ [x24])
 tabO : TabV w B vo To
 a1 : 1 ≤ pa → ∃ g, x24 = rowV g R R ∧ wr.heap.size ≤ g ∧ RowB w g R R (List.replicate R false)
 a2 : pa = 2 → ∃ h, x25 = .slice (some ⟨h, 0, none⟩) 1 1 ∧ wr.heap.size ≤ h ∧ w.cell? ⟨h, 0, none⟩ = some x24
 b1 : 1 ≤ pb → ∃ g, x29 = rowV g R R ∧ wr.heap.size ≤ g ∧ RowB w g R R (List.replicate R false)
 b2 : pb = 2 → ∃ h, x30 = .slice (some ⟨h, 0, none⟩) 1 1 ∧ wr.heap.size ≤ h ∧ w.cell? ⟨h, 0, none⟩ = some x29
 ne : 1 ≤ pa → 1 ≤ pb → x24 ≠ x29
 tI : ∀ t, vi.ownBlock = some t → t < wr.heap.size
 tO : ∀ t, vo.ownBlock = some t → t < wr.heap.size
theorem madeB (w : World) (R : Nat) (hR : R ≤ maxLen) : RowB (w.alloc (.cells (madeCells #[.bool false] R) 4)) w.heap.size R R (List.replicate R false) := by
 have hl : (madeCells #[Value.bool false] R).toList = (List.replicate R false).map Value.bool := by
  apply List.ext_getElem
  ·simp [madeCells]
  ·intro i h1 h2
   simp [madeCells, Nat.mod_one]
 refine ⟨by simp, .inr ⟨w.heap.size, R, _, by simp, Nat.zero_le _, heap_alloc_new w _, by simp, hR, by simp [madeCells], ?_⟩⟩
 rw [hl]
 simp [List.take_of_length_le]
section
variable {wr : World} {B : Nat} {vi vo : Value} {Ti To : List Value} {R : Nat} {w : World} {x24 x25 x26 x29 x30 : Value} {pa pb : Nat}
theorem TwoSt.grow (h : TwoSt wr B vi vo Ti To R w x24 x25 x26 x29 x30 pa pb) (o : Obj) : TwoSt wr B vi vo Ti To R (w.alloc o) x24 x25 x26 x29 x30 pa pb := by
 have hb := below_alloc w o
 refine ⟨h.os, h.tape, h.output, Nat.le_trans h.size hb.size, fun k hk h1 h2 => ?_, ?_, h.tabO.below hb, fun hp => ?_, fun hp => ?_, fun hp => ?_, fun hp => ?_, h.ne, h.tI, h.tO⟩
 ·rw [hb.block k (Nat.lt_of_lt_of_le hk h.size)]; exact h.block k hk h1 h2
 ·have := h.tabI
  split
  ·rename_i hp; rw [if_pos hp] at this; exact this.below hb
  ·rename_i hp; rw [if_neg hp] at this; exact this.below hb
 ·obtain ⟨g, e, hg, hr⟩ := h.a1 hp; exact ⟨g, e, hg, hr.below hb⟩
 ·obtain ⟨g, e, hg, hr⟩ := h.a2 hp; exact ⟨g, e, hg, Ext.alloc w o _ _ hr⟩
 ·obtain ⟨g, e, hg, hr⟩ := h.b1 hp; exact ⟨g, e, hg, hr.below hb⟩
 ·obtain ⟨g, e, hg, hr⟩ := h.b2 hp; exact ⟨g, e, hg, Ext.alloc w o _ _ hr⟩
theorem TwoSt.makeA (h : TwoSt wr B vi vo Ti To R w x24 x25 x26 x29 x30 0 pb) (hR : R ≤ maxLen) (y25 : Value) : TwoSt wr B vi vo Ti To R (w.alloc (.cells (madeCells #[.bool false] R) 4)) (.slice (some ⟨w.heap.size, 0, none⟩) R R) y25 x26 x29 x30 1 pb := by
 have h' := h.grow (.cells (madeCells #[.bool false] R) 4)
 refine ⟨h'.os, h'.tape, h'.output, h'.size, h'.block, h'.tabI, h'.tabO, fun _ => ⟨_, rfl, h.size, madeB w R hR⟩, fun hp => by omega, h'.b1, h'.b2, fun _ hp e => ?_, h.tI, h.tO⟩
 obtain ⟨g, e2, hg, hr⟩ := h.b1 hp
 rw [e2] at e
 simp only [rowV, Value.slice.injEq, Option.some.injEq, Addr.mk.injEq] at e
 have := (OwnB.cellAt hr).2.2.2.2.2.2
 omega
theorem TwoSt.makeB (h : TwoSt wr B vi vo Ti To R w x24 x25 x26 x29 x30 pa 0) (hR : R ≤ maxLen) (y30 : Value) : TwoSt wr B vi vo Ti To R (w.alloc (.cells (madeCells #[.bool false] R) 4)) x24 x25 x26 (.slice (some ⟨w.heap.size, 0, none⟩) R R) y30 pa 1 := by
 have h' := h.grow (.cells (madeCells #[.bool false] R) 4)
 refine ⟨h'.os, h'.tape, h'.output, h'.size, h'.block, h'.tabI, h'.tabO, h'.a1, h'.a2, fun _ => ⟨_, rfl, h.size, madeB w R hR⟩, fun hp => by omega, fun hp _ e => ?_, h.tI, h.tO⟩
 obtain ⟨g, e2, hg, hr⟩ := h.a1 hp
 rw [e2] at e
 simp only [rowV, Value.slice.injEq, Option.some.injEq, Addr.mk.injEq] at e
 have := (OwnB.cellAt hr).2.2.2.2.2.2
 omega
theorem TwoSt.boxA (h : TwoSt wr B vi vo Ti To R w x24 x25 x26 x29 x30 1 pb) {k : Nat} (hk : k = w.heap.size) : TwoSt wr B vi vo Ti To R (w.alloc (.cells #[x24] 113)) x24 (.slice (some ⟨k, 0, none⟩) 1 1) x26 x29 x30 2 pb := by
 subst hk
 have h' := h.grow (.cells #[x24] 113)
 exact ⟨h'.os, h'.tape, h'.output, h'.size, h'.block, h'.tabI, h'.tabO, fun _ => h'.a1 (by decide), fun _ => ⟨_, rfl, h.size, by rw [cell_of_heap (heap_alloc_new w _)]; rfl⟩, h'.b1, h'.b2, fun _ hp => h'.ne (by decide) hp, h.tI, h.tO⟩
theorem TwoSt.boxB (h : TwoSt wr B vi vo Ti To R w x24 x25 x26 x29 x30 pa 1) {k : Nat} (hk : k = w.heap.size) : TwoSt wr B vi vo Ti To R (w.alloc (.cells #[x29] 113)) x24 x25 x26 x29 (.slice (some ⟨k, 0, none⟩) 1 1) pa 2 := by
 subst hk
 have h' := h.grow (.cells #[x29] 113)
 exact ⟨h'.os, h'.tape, h'.output, h'.size, h'.block, h'.tabI, h'.tabO, h'.a1, h'.a2, fun _ => h'.b1 (by decide), fun _ => ⟨_, rfl, h.size, by rw [cell_of_heap (heap_alloc_new w _)]; rfl⟩, fun hp _ => h'.ne hp (by decide), h.tI, h.tO⟩
/-- two tables apart: by what stands first -/
def Apart2 (vo : Value) (Ti To : List Value) : Prop := (To = [] ∧ vo = .slice none 0 0) ∨ ∃ x y Ti' To', Ti = x :: Ti' ∧ To = y :: To' ∧ x ≠ y
theorem tab_first {w : World} {B : Nat} {v : Value} {x : Value} {L : List Value} (h : TabV w B v (x :: L)) : ∃ t cur, v.ownBlock = some t ∧ w.heap[t]? = some (.cells cur 113 (0, 0)) ∧ cur.toList.take 1 = [x] := by
 obtain ⟨-, ⟨-, h2⟩ | ⟨g, cap, cur, rfl, -, hh, -, -, -, ht⟩⟩ := h
 ·simp at h2
 ·refine ⟨g, cur, rfl, hh, ?_⟩
  have := congrArg (List.take 1) ht
  simpa [List.take_take] using this
theorem apart_ne {w : World} {B B' : Nat} {v vo : Value} {Ti To : List Value} (h : TabV w B v Ti) (ho : TabV w B' vo To) (ha : Apart2 vo Ti To) : vo.ownBlock = none ∨ vo.ownBlock ≠ v.ownBlock := by
 rcases ha with ⟨-, rfl⟩ | ⟨x, y, Ti', To', rfl, rfl, hxy⟩
 ·exact .inl rfl
 ·refine .inr fun e => ?_
  obtain ⟨t, cur, e1, h1, h2⟩ := tab_first h
  obtain ⟨t', cur', e1', h1', h2'⟩ := tab_first ho
  rw [e1, e1'] at e
  simp only [Option.some.injEq] at e
  subst e
  rw [h1] at h1'
  simp only [Option.some.injEq, Obj.cells.injEq] at h1'
  rw [← h1'.1, h2] at h2'
  simp at h2'
  exact hxy h2'
theorem Apart2.more {vo x z : Value} {Ti To : List Value} (h : Apart2 vo Ti To) : Apart2 vo (Ti ++ [x]) To := by
 rcases h with h | ⟨x', y, Ti', To', rfl, rfl, hxy⟩
 ·exact .inl h
 ·exact .inr ⟨x', y, Ti' ++ [x], To', rfl, rfl, hxy⟩
theorem TwoSt.start (hI : TabV wr B vi Ti) (hO : TabV wr B vo To) (y24 y25 y26 y29 y30 : Value) : TwoSt wr B vi vo Ti To R wr.drew y24 y25 y26 y29 y30 0 0 :=
 ⟨rfl, rfl, rfl, Nat.le_refl _, fun _ _ _ _ => rfl, by rw [if_pos (by decide)]; exact hI, hO, fun h => by omega, fun h => by omega, fun h => by omega, fun h => by omega, fun h => by omega,
   fun t ht => (Array.getElem?_eq_some_iff.1 (hI.heap ht).choose_spec).1, fun t ht => (Array.getElem?_eq_some_iff.1 (hO.heap ht).choose_spec).1⟩
theorem TwoSt.appA {w' : World} {v' : Value} (h : TwoSt wr B vi vo Ti To R w x24 x25 x26 x29 x30 2 pb) (hap : Apart2 vo Ti To) (hv : TabV w' B v' (Ti ++ [x24])) (hg : w.grownBy w' vi.ownBlock) : TwoSt wr B vi vo Ti To R w' x24 x25 v' x29 x30 3 pb := by
 have hI := h.tabI
 rw [if_pos (by decide)] at hI
 refine ⟨hg.os.trans h.os, hg.tape.trans h.tape, hg.output.trans h.output, Nat.le_trans h.size hg.size, fun k hk h1 h2 => ?_, by rw [if_neg (by decide)]; exact hv, h.tabO.grown hg (apart_ne hI h.tabO hap), fun _ => ?_, fun hp => by omega, fun hp => ?_, fun hp => ?_, fun _ hp => h.ne (by decide) hp, h.tI, h.tO⟩
 ·rw [hg.block k (Nat.lt_of_lt_of_le hk h.size) h1]; exact h.block k hk h1 h2
 ·obtain ⟨g, e, hge, hr⟩ := h.a1 (by decide)
  exact ⟨g, e, hge, hr.grown hg (tab_ne_row hI hr)⟩
 ·obtain ⟨g, e, hge, hr⟩ := h.b1 hp
  exact ⟨g, e, hge, hr.grown hg (tab_ne_row hI hr)⟩
 ·obtain ⟨g, e, hge, hr⟩ := h.b2 hp
  refine ⟨g, e, hge, hg.cell hr fun e' => ?_⟩
  have := h.tI g e'.symm
  omega
theorem TwoSt.useA {k : Nat} (h : TwoSt wr B vi vo Ti To R w x24 (.slice (some ⟨k, 0, none⟩) 1 1) x26 x29 x30 2 pb) : w.cell? ⟨k, 0, none⟩ = some x24 ∧ x24.oneCell' = true ∧ TabV w B vi Ti := by
 obtain ⟨k', e, -, hc⟩ := h.a2 rfl
 simp only [Value.slice.injEq, Option.some.injEq, Addr.mk.injEq] at e
 obtain ⟨g, e2, -⟩ := h.a1 (by decide)
 have := h.tabI
 rw [if_pos (by decide)] at this
 exact ⟨by rw [e.1.1]; exact hc, by rw [e2]; rfl, this⟩
theorem TwoSt.useB {k : Nat} (h : TwoSt wr B vi vo Ti To R w x24 x25 x26 x29 (.slice (some ⟨k, 0, none⟩) 1 1) pa 2) : w.cell? ⟨k, 0, none⟩ = some x29 ∧ x29.oneCell' = true := by
 obtain ⟨k', e, -, hc⟩ := h.b2 rfl
 simp only [Value.slice.injEq, Option.some.injEq, Addr.mk.injEq] at e
 obtain ⟨g, e2, -⟩ := h.b1 (by decide)
 exact ⟨by rw [e.1.1]; exact hc, by rw [e2]; rfl⟩
/-- what has come of it -/
structure TwoEnd (wr : World) (B : Nat) (vi vo : Value) (Ti To : List Value) (R : Nat) (w : World) (vi' vo' : Value) (gA gB : Nat) : Prop where
 os : w.os = wr.os
 tape : w.tape = wr.tape
 output : w.output = wr.output
 size : wr.heap.size ≤ w.heap.size
 block : ∀ k, k < wr.heap.size → some k ≠ vi.ownBlock → some k ≠ vo.ownBlock → w.heap[k]? = wr.heap[k]?
 tabI : TabV w B vi' (Ti ++ [rowV gA R R])
 tabO : TabV w B vo' (To ++ [rowV gB R R])
 rowA : RowB w gA R R (List.replicate R false)
 rowB : RowB w gB R R (List.replicate R false)
 geA : wr.heap.size ≤ gA
 geB : wr.heap.size ≤ gB
 ne : gA ≠ gB
theorem TwoSt.appB {w' : World} {v' : Value} (h : TwoSt wr B vi vo Ti To R w x24 x25 x26 x29 x30 3 2) (hap : Apart2 vo Ti To) (hv : TabV w' B v' (To ++ [x29])) (hg : w.grownBy w' vo.ownBlock) : ∃ gA gB, TwoEnd wr B vi vo Ti To R w' x26 v' gA gB := by
 have hI := h.tabI
 rw [if_neg (by decide)] at hI
 obtain ⟨gA, rfl, hgA, hrA⟩ := h.a1 (by decide)
 obtain ⟨gB, rfl, hgB, hrB⟩ := h.b1 (by decide)
 have hn := apart_ne hI h.tabO (hap.more (z := v'))
 refine ⟨gA, gB, hg.os.trans h.os, hg.tape.trans h.tape, hg.output.trans h.output, Nat.le_trans h.size hg.size, fun k hk h1 h2 => ?_, ?_, hv, hrA.grown hg (tab_ne_row h.tabO hrA), hrB.grown hg (tab_ne_row h.tabO hrB), hgA, hgB, fun e => h.ne (by decide) (by decide) (by rw [e])⟩
 ·rw [hg.block k (Nat.lt_of_lt_of_le hk h.size) h2]; exact h.block k hk h1 h2
 ·rcases hn with hn | hn
  ·exact hI.grown hg (by
    cases hx : x26.ownBlock with
    | none => exact .inl rfl
    | some t => exact .inr (by rw [hn]; simp))
  ·exact hI.grown hg (.inr (Ne.symm hn))
end
end Go.Proofs.YtchoiankeohonaaGreatDoor
