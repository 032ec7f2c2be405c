/-
 What a statement that makes two rows of bools and appends each to a table does, in whatever order its parts are carried out.; The marking of live registers as plain lists, and how its tables lie in memory.
-/
import Derived.Test.YtmcddolkpcgddaaZHazardMarks02
import Derived.Test.YtmcddolkpcgddaaZHazardMarks03
import Derived.Deep.OwnRows

set_option linter.all false
namespace Go.Proofs.Ytmcddolkpcgddaa
open Go.ChangeShapes Go.WideShapes Go.ChangeAt Go.RowKit
set_option maxHeartbeats 1000000
set_option maxRecDepth 20000

/-- a table of the call's own: a slice of slices of bools -/
def TabV (w : World) (B : Nat) (v : Value) (L : List Value) : Prop := w.ownsRow B 37 1 v L.length L
/-- so many that do not hold -/
def rowV (g R c : Nat) : Value := .slice (some ⟨g, 0, none⟩) R c
theorem TabV.below {w w' : World} {B : Nat} {v : Value} {L : List Value} (h : TabV w B v L) (hb : Below w.heap.size w w') : TabV w' B v L := by
 obtain ⟨h1, h2 | ⟨g, cap, cur, h3, h4, h5, r⟩⟩ := h
 ·exact ⟨h1, .inl h2⟩
 ·exact ⟨h1, .inr ⟨g, cap, cur, h3, h4, (hb.block g (Array.getElem?_eq_some_iff.1 h5).1).trans h5, r⟩⟩
theorem RowB.heap {w : World} {g n c : Nat} {l : List Bool} (h : RowB w g n c l) : ∃ cur, w.heap[g]? = some (.cells cur 4 (0, 0)) := by
 obtain ⟨-, ⟨h5, -⟩ | ⟨g', cap, cur, h5, -, hh, -⟩⟩ := h
 ·simp at h5
 ·simp only [Value.slice.injEq, Option.some.injEq, Addr.mk.injEq] at h5
  rw [h5.1.1]
  exact ⟨cur, hh⟩
theorem TabV.heap {w : World} {B : Nat} {v : Value} {L : List Value} (h : TabV w B v L) {t : Nat} (ht : v.ownBlock = some t) : ∃ cur, w.heap[t]? = some (.cells cur 37 (0, 0)) := by
 obtain ⟨-, ⟨rfl, -⟩ | ⟨g, cap, cur, rfl, -, hh, -⟩⟩ := h
 ·simp [Value.ownBlock] at ht
 ·simp [Value.ownBlock] at ht; subst ht; exact ⟨cur, hh⟩
/-- a table is no row -/
theorem tab_ne_row {w : World} {B : Nat} {v : Value} {L : List Value} {g n c : Nat} {l : List Bool} (h : TabV w B v L) (hr : RowB w g n c l) : v.ownBlock ≠ some g := by
 intro e
 obtain ⟨c1, h1⟩ := h.heap e
 obtain ⟨c2, h2⟩ := hr.heap
 rw [h1] at h2
 simp at h2
theorem TabV.but {w w' : World} {B g : Nat} {v : Value} {L : List Value} (h : TabV w B v L) (hb : But g w w') (hg : v.ownBlock ≠ some g) : TabV w' B v L := by
 obtain ⟨h1, h2 | ⟨g', cap, cur, rfl, h4, h5, r⟩⟩ := h
 ·exact ⟨h1, .inl h2⟩
 ·exact ⟨h1, .inr ⟨g', cap, cur, rfl, h4, (hb.block g' (Array.getElem?_eq_some_iff.1 h5).1 (fun e => hg (by simp [Value.ownBlock, e]))).trans h5, r⟩⟩
theorem TabV.grown {w w' : World} {B : Nat} {v : Value} {L : List Value} {r : Option Nat} (h : TabV w B v L) (hb : w.grownBy w' r) (hg : v.ownBlock = none ∨ v.ownBlock ≠ r) : TabV w' B v L := World.ownsRow.kept h hb hg
theorem RowB.grown {w w' : World} {g n c : Nat} {l : List Bool} {r : Option Nat} (h : RowB w g n c l) (hb : w.grownBy w' r) (hg : r ≠ some g) : RowB w' g n c l :=
 World.ownsRow.kept h hb (.inr (fun e => hg (by rw [← e]; rfl)))
/-- how far the two makings have come -/
structure TwoSt (wr : World) (B : Nat) (vi vo : Value) (Ti To : List Value) (R : Nat) (w : World) (x24 x25 x26 x29 x30 : Value) (pa pb : Nat) : Prop where
 os : w.os = wr.os
 tape : w.tape = wr.tape
 output : w.output = wr.output
 size : wr.heap.size ≤ w.heap.size
 block : ∀ k, k < wr.heap.size → some k ≠ vi.ownBlock → some k ≠ vo.ownBlock → w.heap[k]? = wr.heap[k]?
 tabI : if pa < 3 then TabV w B vi Ti else TabV w B x26 (Ti ++ [x24])
 tabO : TabV w B vo To
 a1 : 1 ≤ pa → ∃ g, x24 = rowV g R R ∧ wr.heap.size ≤ g ∧ RowB w g R R (List.replicate R false)
 a2 : pa = 2 → ∃ h, x25 = .slice (some ⟨h, 0, none⟩) 1 1 ∧ wr.heap.size ≤ h ∧ w.cell? ⟨h, 0, none⟩ = some x24
 b1 : 1 ≤ pb → ∃ g, x29 = rowV g R R ∧ wr.heap.size ≤ g ∧ RowB w g R R (List.replicate R false)
 b2 : pb = 2 → ∃ h, x30 = .slice (some ⟨h, 0, none⟩) 1 1 ∧ wr.heap.size ≤ h ∧ w.cell? ⟨h, 0, none⟩ = some x29
 ne : 1 ≤ pa → 1 ≤ pb → x24 ≠ x29
 tI : ∀ t, vi.ownBlock = some t → t < wr.heap.size
 tO : ∀ t, vo.ownBlock = some t → t < wr.heap.size
theorem madeB (w : World) (R : Nat) (hR : R ≤ maxLen) : RowB (w.alloc (.cells (madeCells #[.bool false] R) 4)) w.heap.size R R (List.replicate R false) := by
 have hl : (madeCells #[Value.bool false] R).toList = (List.replicate R false).map Value.bool := by
  apply List.ext_getElem
  ·simp [madeCells]
  ·intro i h1 h2
   simp [madeCells, Nat.mod_one]
 refine ⟨by simp, .inr ⟨w.heap.size, R, _, by simp, Nat.zero_le _, heap_alloc_new w _, by simp, hR, by simp [madeCells], ?_⟩⟩
 rw [hl]
 simp [List.take_of_length_le]
section
variable {wr : World} {B : Nat} {vi vo : Value} {Ti To : List Value} {R : Nat} {w : World} {x24 x25 x26 x29 x30 : Value} {pa pb : Nat}
theorem TwoSt.grow (h : TwoSt wr B vi vo Ti To R w x24 x25 x26 x29 x30 pa pb) (o : Obj) : TwoSt wr B vi vo Ti To R (w.alloc o) x24 x25 x26 x29 x30 pa pb := by
 have hb := below_alloc w o
 refine ⟨h.os, h.tape, h.output, Nat.le_trans h.size hb.size, fun k hk h1 h2 => ?_, ?_, h.tabO.below hb, fun hp => ?_, fun hp => ?_, fun hp => ?_, fun hp => ?_, h.ne, h.tI, h.tO⟩
 ·rw [hb.block k (Nat.lt_of_lt_of_le hk h.size)]; exact h.block k hk h1 h2
 ·have := h.tabI
  split
  ·rename_i hp; rw [if_pos hp] at this; exact this.below hb
  ·rename_i hp; rw [if_neg hp] at this; exact this.below hb
 ·obtain ⟨g, e, hg, hr⟩ := h.a1 hp; exact ⟨g, e, hg, hr.below hb⟩
 ·obtain ⟨g, e, hg, hr⟩ := h.a2 hp; exact ⟨g, e, hg, Ext.alloc w o _ _ hr⟩
 ·obtain ⟨g, e, hg, hr⟩ := h.b1 hp; exact ⟨g, e, hg, hr.below hb⟩
 ·obtain ⟨g, e, hg, hr⟩ := h.b2 hp; exact ⟨g, e, hg, Ext.alloc w o _ _ hr⟩
theorem TwoSt.start (hI : TabV wr B vi Ti) (hO : TabV wr B vo To) (y24 y25 y26 y29 y30 : Value) : TwoSt wr B vi vo Ti To R wr.drew y24 y25 y26 y29 y30 0 0 :=
 ⟨rfl, rfl, rfl, Nat.le_refl _, fun _ _ _ _ => rfl, by rw [if_pos (by decide)]; exact hI, hO, fun h => by omega, fun h => by omega, fun h => by omega, fun h => by omega, fun h => by omega,
   fun t ht => (Array.getElem?_eq_some_iff.1 (hI.heap ht).choose_spec).1, fun t ht => (Array.getElem?_eq_some_iff.1 (hO.heap ht).choose_spec).1⟩
/-- what has come of it -/
structure TwoEnd (wr : World) (B : Nat) (vi vo : Value) (Ti To : List Value) (R : Nat) (w : World) (vi' vo' : Value) (gA gB : Nat) : Prop where
 os : w.os = wr.os
 tape : w.tape = wr.tape
 output : w.output = wr.output
 size : wr.heap.size ≤ w.heap.size
 block : ∀ k, k < wr.heap.size → some k ≠ vi.ownBlock → some k ≠ vo.ownBlock → w.heap[k]? = wr.heap[k]?
 tabI : TabV w B vi' (Ti ++ [rowV gA R R])
 tabO : TabV w B vo' (To ++ [rowV gB R R])
 rowA : RowB w gA R R (List.replicate R false)
 rowB : RowB w gB R R (List.replicate R false)
 geA : wr.heap.size ≤ gA
 geB : wr.heap.size ≤ gB
 ne : gA ≠ gB
end
end Go.Proofs.Ytmcddolkpcgddaa

set_option linter.all false
namespace Go.Proofs.Ytmcddolkpcgddaa
open Go.ChangeShapes Go.WideShapes Go.ChangeAt Go.RowKit
set_option maxHeartbeats 1000000
set_option maxRecDepth 20000

abbrev Tab := List (List Bool)
/-- behind a block's instructions: what is live at the starts of those to which it leads, joined for the first k of them -/
def outK (li : Tab) (l : List Bool) (ts : List Int) : List Bool := ts.foldl (fun l t => joinB l (li.getD t.toNat [])) l
/-- ahead of instructions, from the last one back, so many of them -/
def backK (l : List Bool) (is : List In) : List Bool := is.foldr (fun i l => beforeB l i) l
structure Lv where
 li : Tab
 lo : Tab
 grew : Bool
def blkStep (p : Pr) (n : Nat) (s : Lv) : Lv :=
 let o := outK s.li (s.lo.getD n []) (outsP p n)
 let l := backK o (p.blks.getD n default).ins
 ⟨s.li.set n (joinB (s.li.getD n []) l), s.lo.set n o, grewB (s.li.getD n []) l (s.li.getD n []).length || s.grew⟩
/-- the blocks from k - 1 down to 0 -/
def passK (p : Pr) : Nat → Lv → Lv
 | 0, s => s
 | k + 1, s => passK p k (blkStep p k s)
def pass (p : Pr) (s : Lv) : Lv := passK p p.blks.length ⟨s.li, s.lo, false⟩
/-- all lists of the same length -/
structure LvOk (n R : Nat) (li lo : Tab) : Prop where
 lenI : li.length = n
 lenO : lo.length = n
 ri : ∀ k, k < n → (li.getD k []).length = R
 ro : ∀ k, k < n → (lo.getD k []).length = R
theorem getD_set (t : Tab) (n k : Nat) (l : List Bool) : (t.set n l).getD k [] = if k = n ∧ n < t.length then l else t.getD k [] := by
 simp only [List.getD, List.getElem?_set]
 by_cases e : n = k
 ·subst e
  by_cases h : n < t.length <;> simp [h]
 ·simp [e, Ne.symm e]
theorem joinB_len (a b : List Bool) : (joinB a b).length = a.length := orB_len _ _ _
theorem outK_len (li : Tab) (l : List Bool) (ts : List Int) : (outK li l ts).length = l.length := by
 unfold outK
 induction ts generalizing l with
 | nil => rfl
 | cons t ts ih => rw [List.foldl_cons, ih, joinB_len]
theorem LvOk.setI {n R k : Nat} {li lo : Tab} (h : LvOk n R li lo) {l : List Bool} (hl : l.length = R) : LvOk n R (li.set k l) lo :=
 ⟨by simpa using h.lenI, h.lenO, fun j hj => by rw [getD_set]; split; exact hl; exact h.ri j hj, h.ro⟩
theorem LvOk.setO {n R k : Nat} {li lo : Tab} (h : LvOk n R li lo) {l : List Bool} (hl : l.length = R) : LvOk n R li (lo.set k l) :=
 ⟨h.lenI, by simpa using h.lenO, h.ri, fun j hj => by rw [getD_set]; split; exact hl; exact h.ro j hj⟩
theorem LvOk.step {p : Pr} {n R k : Nat} {s : Lv} (h : LvOk n R s.li s.lo) (hk : k < n) : LvOk n R (blkStep p k s).li (blkStep p k s).lo :=
 (h.setI (by rw [joinB_len]; exact h.ri k hk)).setO (by rw [outK_len]; exact h.ro k hk)
theorem LvOk.passK {p : Pr} {n R : Nat} (k : Nat) : ∀ {s : Lv}, LvOk n R s.li s.lo → k ≤ n → LvOk n R (passK p k s).li (passK p k s).lo := by
 induction k with
 | zero => intro s h _; exact h
 | succ k ih => intro s h hk; exact ih (h.step (by omega)) (by omega)
theorem But.keep {g : Nat} {w w' : World} (h : But g w w') : Keep (fun b => b ≠ g ∧ b < w.heap.size) w w' := fun b o hb => h.cell hb.2 hb.1
/-- how the two tables lie: a row each for each block, no two in one place -/
structure LvMem (W0 : World) (n R : Nat) (vi vo : Value) (gi go : Nat → Nat) (li lo : Tab) (w : World) : Prop where
 below : Below W0.heap.size W0 w
 tabI : TabV w W0.heap.size vi ((List.range n).map fun k => rowV (gi k) R R)
 tabO : TabV w W0.heap.size vo ((List.range n).map fun k => rowV (go k) R R)
 rowI : ∀ k, k < n → RowB w (gi k) R R (li.getD k [])
 rowO : ∀ k, k < n → RowB w (go k) R R (lo.getD k [])
 geI : ∀ k, k < n → W0.heap.size ≤ gi k
 geO : ∀ k, k < n → W0.heap.size ≤ go k
 dI : ∀ j k, j < n → k < n → gi j = gi k → j = k
 dO : ∀ j k, j < n → k < n → go j = go k → j = k
 dX : ∀ j k, j < n → k < n → gi j ≠ go k
section
variable {W0 : World} {n R : Nat} {vi vo : Value} {gi go : Nat → Nat} {li lo : Tab} {w w' : World}
theorem LvMem.grow (h : LvMem W0 n R vi vo gi go li lo w) (hb : Below w.heap.size w w') : LvMem W0 n R vi vo gi go li lo w' :=
 ⟨h.below.trans (hb.mono h.below.size), h.tabI.below hb, h.tabO.below hb, fun k hk => (h.rowI k hk).below hb, fun k hk => (h.rowO k hk).below hb, h.geI, h.geO, h.dI, h.dO, h.dX⟩
theorem RowB.but {g g' n c : Nat} {l : List Bool} (h : RowB w g n c l) (hb : But g' w w') (hg : g ≠ g') : RowB w' g n c l := OwnB.but h hb hg
theorem LvMem.setO (h : LvMem W0 n R vi vo gi go li lo w) {k : Nat} (hk : k < n) {l : List Bool} (hb : But (go k) w w') (hr : RowB w' (go k) R R l) (hlo : lo.length = n) : LvMem W0 n R vi vo gi go li (lo.set k l) w' := by
 refine ⟨h.below.trans (hb.toBelow (h.geO k hk) h.below.size), h.tabI.but hb (tab_ne_row h.tabI (h.rowO k hk)), h.tabO.but hb (tab_ne_row h.tabO (h.rowO k hk)), fun j hj => (h.rowI j hj).but hb (h.dX j k hj hk), fun j hj => ?_, h.geI, h.geO, h.dI, h.dO, h.dX⟩
 rw [getD_set]
 by_cases e : j = k
 ·subst e; rw [if_pos ⟨rfl, by omega⟩]; exact hr
 ·rw [if_neg (fun h => e h.1)]
  exact (h.rowO j hj).but hb fun e' => e (h.dO j k hj hk e')
theorem LvMem.setI (h : LvMem W0 n R vi vo gi go li lo w) {k : Nat} (hk : k < n) {l : List Bool} (hb : But (gi k) w w') (hr : RowB w' (gi k) R R l) (hli : li.length = n) : LvMem W0 n R vi vo gi go (li.set k l) lo w' := by
 refine ⟨h.below.trans (hb.toBelow (h.geI k hk) h.below.size), h.tabI.but hb (tab_ne_row h.tabI (h.rowI k hk)), h.tabO.but hb (tab_ne_row h.tabO (h.rowI k hk)), fun j hj => ?_, fun j hj => (h.rowO j hj).but hb (Ne.symm (h.dX k j hk hj)), h.geI, h.geO, h.dI, h.dO, h.dX⟩
 rw [getD_set]
 by_cases e : j = k
 ·subst e; rw [if_pos ⟨rfl, by omega⟩]; exact hr
 ·rw [if_neg (fun h => e h.1)]
  exact (h.rowI j hj).but hb fun e' => e (h.dI j k hj hk e')
theorem TabV.at {B : Nat} {v : Value} {L : List Value} (h : TabV w B v L) {k : Nat} (hk : k < L.length) : ∃ t cap, v = .slice (some ⟨t, 0, none⟩) L.length cap ∧ L.length ≤ cap ∧ cap ≤ maxLen ∧ ∀ j, j < L.length → w.cell? ⟨t, j, none⟩ = some (L.getD j undef) := by
 obtain ⟨-, ⟨-, h2⟩ | ⟨t, cap, cur, rfl, -, hh, hn, hc, -, ht⟩⟩ := h
 ·omega
 ·refine ⟨t, cap, rfl, hn, hc, fun j hj => ?_⟩
  rw [cell_of_heap hh]
  have h3 : L[j]? = some (L.getD j undef) := by simp [List.getD, hj]
  rw [← ht, List.getElem?_take] at h3
  split at h3
  ·rw [ht] at h3; simpa using h3
  ·cases h3
theorem TabV.len {B : Nat} {v : Value} {L L' : List Value} (h : TabV w B v L) (e : L = L') : TabV w B v L' := e ▸ h
theorem LvMem.push {k : Nat} {t : List Bool} {vi' vo' : Value} {gA gB : Nat} (h : LvMem W0 k R vi vo gi go (List.replicate k t) (List.replicate k t) w)
  (e : TwoEnd w W0.heap.size vi vo ((List.range k).map fun k => rowV (gi k) R R) ((List.range k).map fun k => rowV (go k) R R) R w' vi' vo' gA gB) (ht : t = List.replicate R false) :
  LvMem W0 (k + 1) R vi' vo' (fun j => if j = k then gA else gi j) (fun j => if j = k then gB else go j) (List.replicate (k + 1) t) (List.replicate (k + 1) t) w' := by
 have hlI : ∀ j, j < k → gi j < w.heap.size := fun j hj => (OwnB.cellAt (h.rowI j hj)).2.2.2.2.2.2
 have hlO : ∀ j, j < k → go j < w.heap.size := fun j hj => (OwnB.cellAt (h.rowO j hj)).2.2.2.2.2.2
 have keep : ∀ {g : Nat} {l : List Bool}, RowB w g R R l → RowB w' g R R l := fun {g l} hr => by
  have hg := (OwnB.cellAt hr).2.2.2.2.2.2
  have hb := e.block g hg (fun e' => tab_ne_row h.tabI hr e'.symm) (fun e' => tab_ne_row h.tabO hr e'.symm)
  obtain ⟨h1, h2 | ⟨g', cap, cur, h3, h4, h5, r⟩⟩ := hr
  ·exact ⟨h1, .inl h2⟩
  ·simp only [Value.slice.injEq, Option.some.injEq, Addr.mk.injEq] at h3
   exact ⟨h1, .inr ⟨g', cap, cur, by rw [h3.1.1, ← h3.2.1, ← h3.2.2], h4, by rw [← h3.1.1, hb, h3.1.1]; exact h5, r⟩⟩
 have hrep : ∀ j, j < k → (List.replicate k t).getD j [] = (List.replicate (k + 1) t).getD j [] := fun j hj => by
  simp [List.getD, List.getElem?_replicate, hj, show j < k + 1 by omega]
 have hrk : (List.replicate (k + 1) t).getD k [] = t := by simp [List.getD, List.getElem?_replicate]
 have hmap : ∀ (g : Nat → Nat) (x : Nat), (List.range (k + 1)).map (fun j => rowV (if j = k then x else g j) R R) = ((List.range k).map fun j => rowV (g j) R R) ++ [rowV x R R] := fun g x => by
  rw [List.range_succ, List.map_append]
  congr 1
  ·refine List.map_congr_left fun j hj => ?_
   rw [if_neg (by have := List.mem_range.1 hj; omega)]
  ·simp
 have hbel : Below W0.heap.size w w' := ⟨e.os, e.tape, e.output, e.size, fun b hb => e.block b (Nat.lt_of_lt_of_le hb h.below.size) (fun e' => by
   obtain ⟨-, ⟨rfl, -⟩ | ⟨g, cap, cur, rfl, hg, -⟩⟩ := h.tabI
   ·simp [Value.ownBlock] at e'
   ·simp [Value.ownBlock] at e'; omega) (fun e' => by
   obtain ⟨-, ⟨rfl, -⟩ | ⟨g, cap, cur, rfl, hg, -⟩⟩ := h.tabO
   ·simp [Value.ownBlock] at e'
   ·simp [Value.ownBlock] at e'; omega)⟩
 have hs := h.below.size
 refine ⟨h.below.trans hbel, e.tabI.len (hmap gi gA).symm, e.tabO.len (hmap go gB).symm, fun j hj => ?_, fun j hj => ?_, fun j hj => ?_, fun j hj => ?_, fun i j hi hj => ?_, fun i j hi hj => ?_, fun i j hi hj => ?_⟩
 ·by_cases hjk : j = k
  ·subst hjk; simp only [if_true]; rw [hrk, ht]; exact e.rowA
  ·simp only [if_neg hjk]; rw [← hrep j (by omega)]; exact keep (h.rowI j (by omega))
 ·by_cases hjk : j = k
  ·subst hjk; simp only [if_true]; rw [hrk, ht]; exact e.rowB
  ·simp only [if_neg hjk]; rw [← hrep j (by omega)]; exact keep (h.rowO j (by omega))
 ·have := e.geA
  by_cases hjk : j = k
  ·simp only [hjk, if_true]; omega
  ·simp only [if_neg hjk]; exact h.geI j (by omega)
 ·have := e.geB
  by_cases hjk : j = k
  ·simp only [hjk, if_true]; omega
  ·simp only [if_neg hjk]; exact h.geO j (by omega)
 ·have := e.geA
  by_cases hik : i = k <;> by_cases hjk : j = k <;> simp only [hik, hjk, if_true, if_false]
  ·intro _; trivial
  ·intro e'; have := hlI j (by omega); omega
  ·intro e'; have := hlI i (by omega); omega
  ·exact h.dI i j (by omega) (by omega)
 ·have := e.geB
  by_cases hik : i = k <;> by_cases hjk : j = k <;> simp only [hik, hjk, if_true, if_false]
  ·intro _; trivial
  ·intro e'; have := hlO j (by omega); omega
  ·intro e'; have := hlO i (by omega); omega
  ·exact h.dO i j (by omega) (by omega)
 ·have h1 := e.geA
  have h2 := e.geB
  by_cases hik : i = k <;> by_cases hjk : j = k <;> simp only [hik, hjk, if_true, if_false]
  ·exact e.ne
  ·have := hlO j (by omega); omega
  ·have := hlI i (by omega); omega
  ·exact h.dX i j (by omega) (by omega)
theorem LvMem.other (h : LvMem W0 n R vi vo gi go li lo w) {g nn c : Nat} {l : List Bool} (hr : RowB w g nn c l) (hI : ∀ k, k < n → g ≠ gi k) (hO : ∀ k, k < n → g ≠ go k) (hb : But g w w') (hg : W0.heap.size ≤ g) : LvMem W0 n R vi vo gi go li lo w' :=
 ⟨h.below.trans (hb.toBelow hg h.below.size), h.tabI.but hb (tab_ne_row h.tabI hr), h.tabO.but hb (tab_ne_row h.tabO hr), fun k hk => (h.rowI k hk).but hb (Ne.symm (hI k hk)), fun k hk => (h.rowO k hk).but hb (Ne.symm (hO k hk)), h.geI, h.geO, h.dI, h.dO, h.dX⟩
theorem TabV.base {B B' : Nat} {v : Value} {L : List Value} (h : TabV w B v L) (hB : B' ≤ B) : TabV w B' v L := by
 obtain ⟨h1, h2 | ⟨g, cap, cur, h3, hb, r⟩⟩ := h
 ·exact ⟨h1, .inl h2⟩
 ·exact ⟨h1, .inr ⟨g, cap, cur, h3, Nat.le_trans hB hb, r⟩⟩
theorem LvMem.base {w0 : World} (h : LvMem W0 n R vi vo gi go li lo w) (hb : Below w0.heap.size w0 W0) : LvMem w0 n R vi vo gi go li lo w :=
 ⟨hb.trans (h.below.mono hb.size), h.tabI.base hb.size, h.tabO.base hb.size, h.rowI, h.rowO, fun k hk => Nat.le_trans hb.size (h.geI k hk), fun k hk => Nat.le_trans hb.size (h.geO k hk), h.dI, h.dO, h.dX⟩
end
end Go.Proofs.Ytmcddolkpcgddaa
