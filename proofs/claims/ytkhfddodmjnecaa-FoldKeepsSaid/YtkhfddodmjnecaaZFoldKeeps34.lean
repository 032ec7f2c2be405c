/-
 Tables of rows of the document in memory.; The rows that the telling comes to hold wherever one comes by, plain.; Tables just made; the document's rounds have words; a block hears of those that lead to it, one by one.; What registers have whenever a block begins, by the document (rushlightref17.Consts): the row of which nothing is known.; fold's desk in memory.
-/
import Derived.Test.YtkhfddodmjnecaaZFoldKeeps33
import Derived.Test.YtkhfddodmjnecaaZFoldKeeps31
import Derived.Test.YtkhfddodmjnecaaZFoldKeeps08
import Derived.Test.YtkhfddodmjnecaaZFoldKeeps12
import Derived.Test.YtkhfddodmjnecaaZFoldKeeps32
import Derived.Test.YtkhfddodmjnecaaZFoldKeeps05

set_option linter.all false
namespace Go.Proofs.Ytkhfddodmjnecaa
open Go.ChangeShapes Go.WideShapes Go.ChangeAt Go.RowKit
set_option maxHeartbeats 4000000
set_option maxRecDepth 100000
set_option linter.unusedVariables false

/-- a row's cells -/
structure Dr where
 s : Bool
 h : Value
 n : Value
instance : Inhabited Dr := ⟨⟨false, .slice none 0 0, .slice none 0 0⟩⟩
def Dr.cells (d : Dr) : List Value := [.bool d.s, d.h, d.n]
def Dr.v (d : Dr) : Value := .agg #[.bool d.s, d.h, d.n]
/-- a row of one's own -/
structure DrO (w : World) (B : Nat) (d : Dr) (o : Option Ro) : Prop where
 s : d.s = o.isSome
 h : w.ownsRow B 4 1 d.h (o.getD []).length (hasV (o.getD []))
 n : w.ownsRow B 36 1 d.n (o.getD []).length (numV (o.getD []))
theorem DrO.of {w : World} {B : Nat} {v : Value} {s : Bool} {o : Option Ro} (h : OwRw w B v s (o.getD [])) (hs : s = o.isSome) : ∃ d : Dr, v = d.v ∧ DrO w B d o := by
 obtain ⟨vh, vn, rfl, h1, h2⟩ := h
 exact ⟨⟨s, vh, vn⟩, rfl, hs, h1, h2⟩
theorem DrO.below {w w' : World} {B : Nat} {d : Dr} {o : Option Ro} (h : DrO w B d o) (hb : Below w.heap.size w w') : DrO w' B d o := ⟨h.s, own_below h.h hb, own_below h.n hb⟩
theorem DrO.base {w : World} {B B' : Nat} {d : Dr} {o : Option Ro} (h : DrO w B d o) (hb : B' ≤ B) : DrO w B' d o := ⟨h.s, ow_base h.h hb, ow_base h.n hb⟩
theorem DrO.rd {w : World} {B : Nat} {d : Dr} {o : Option Ro} (h : DrO w B d o) : RwV w d.v o := by
 refine ⟨d.h, d.n, by rw [← h.s]; rfl, own_rdVs (B := B) (e := 4) ?_, own_rdVs (B := B) (e := 36) ?_⟩
 ·rw [show (hasV (o.getD [])).length = (o.getD []).length by simp [hasV]]; exact h.h
 ·rw [show (numV (o.getD [])).length = (o.getD []).length by simp [numV]]; exact h.n
/-- a row stays while a block of another type turns -/
theorem DrO.turn {w w' : World} {B : Nat} {d : Dr} {o : Option Ro} {row : Option Nat} (h : DrO w B d o) (hg : w.grownBy w' row) (hr : ∀ g, row = some g → ∃ cs ty, w.heap[g]? = some (.cells cs ty) ∧ ty ≠ 4 ∧ ty ≠ 36) : DrO w' B d o := by
 have key : ∀ {e : TypeId} {v : Value} {n : Nat} {xs : List Value}, w.ownsRow B e 1 v n xs → (e = 4 ∨ e = 36) → w'.ownsRow B e 1 v n xs := fun {e v n xs} hh he => by
  refine World.ownsRow.kept hh hg ?_
  by_cases hv : v.ownBlock = none
  ·exact .inl hv
  ·right
   intro e2
   cases hro : row with
   | none => exact hv (e2.trans hro)
   | some g =>
    obtain ⟨cs, ty, h1, h2, h3⟩ := hr g hro
    refine row_not hh h1 ?_ (e2.trans hro)
    rcases he with rfl | rfl
    ·exact Ne.symm h2
    ·exact Ne.symm h3
 exact ⟨h.s, key h.h (.inl rfl), key h.n (.inr rfl)⟩
structure TbD (w : World) (B : Nat) (v : Value) (ds : List Dr) (X : List (Option Ro)) : Prop where
 len : ds.length = X.length
 own : w.ownsRow B 83 3 v X.length (ds.flatMap Dr.cells)
 row : ∀ i, i < X.length → DrO w B (ds.getD i default) (X.getD i none)
theorem TbD.below {w w' : World} {B : Nat} {v : Value} {ds : List Dr} {X : List (Option Ro)} (h : TbD w B v ds X) (hb : Below w.heap.size w w') : TbD w' B v ds X := ⟨h.len, own_below h.own hb, fun i hi => (h.row i hi).below hb⟩
theorem TbD.base {w : World} {B B' : Nat} {v : Value} {ds : List Dr} {X : List (Option Ro)} (h : TbD w B v ds X) (hb : B' ≤ B) : TbD w B' v ds X := ⟨h.len, ow_base h.own hb, fun i hi => (h.row i hi).base hb⟩
theorem TbD.nil (w : World) (B : Nat) : TbD w B (.slice none 0 0) [] [] := ⟨rfl, own_nil w B _ _, fun i hi => absurd hi (Nat.not_lt_zero _)⟩
/-- a row's three cells -/
theorem TbD.at {w : World} {B g c : Nat} {n : Nat} {ds : List Dr} {X : List (Option Ro)} (h : TbD w B (.slice (some ⟨g, 0, none⟩) n c) ds X) {i : Nat} (hi : i < X.length) :
  w.cell? ⟨g, i * 3, none⟩ = some (.bool (ds.getD i default).s) ∧ w.cell? ⟨g, i * 3 + 1, none⟩ = some (ds.getD i default).h ∧ w.cell? ⟨g, i * 3 + 2, none⟩ = some (ds.getD i default).n := by
 have hl : i < ds.length := by rw [h.len]; exact hi
 have hn : n = X.length := by
  obtain ⟨-, ⟨e, -⟩ | ⟨g', cap, cur, e, -⟩⟩ := h.own
  ·cases e
  ·simp only [Value.slice.injEq] at e; exact e.2.1
 subst hn
 have f0 := flat_at Dr.cells 3 (fun _ => rfl) ds i 0 hl (by decide)
 have f1 := flat_at Dr.cells 3 (fun _ => rfl) ds i 1 hl (by decide)
 have f2 := flat_at Dr.cells 3 (fun _ => rfl) ds i 2 hl (by decide)
 exact ⟨(World.ownsRow.cellAt h.own (i * 3 + 0) (by omega)).trans f0, (World.ownsRow.cellAt h.own (i * 3 + 1) (by omega)).trans f1, (World.ownsRow.cellAt h.own (i * 3 + 2) (by omega)).trans f2⟩
theorem getD_appL {α : Type} (a : List α) (x d : α) (i : Nat) : (a ++ [x]).getD i d = if i < a.length then a.getD i d else if i = a.length then x else d := by
 by_cases h : i < a.length
 ·rw [if_pos h]; simp [List.getD, List.getElem?_append, h]
 ·rw [if_neg h]
  by_cases e : i = a.length
  ·rw [if_pos e, e]; simp [List.getD]
  ·rw [if_neg e]
   have : (a ++ [x])[i]? = none := List.getElem?_eq_none (by simp; omega)
   rw [List.getD_eq_getElem?_getD, this]; rfl
/-- one row more -/
theorem TbD.app {w w' : World} {B : Nat} {v v' : Value} {ds : List Dr} {X : List (Option Ro)} {d : Dr} {o : Option Ro} (h : TbD w B v ds X) (hd : DrO w B d o) (hg : w.grownBy w' v.ownBlock)
  (h1 : w'.ownsRow B 83 3 v' (X.length + 1) (ds.flatMap Dr.cells ++ Dr.cells d)) : TbD w' B v' (ds ++ [d]) (X ++ [o]) := by
 have hr : ∀ g, v.ownBlock = some g → ∃ cs ty, w.heap[g]? = some (.cells cs ty) ∧ ty ≠ 4 ∧ ty ≠ 36 := fun g hgv => by
  obtain ⟨-, ⟨rfl, -⟩ | ⟨g', cap, cur, rfl, -, hb, -⟩⟩ := h.own
  ·cases hgv
  ·cases hgv; exact ⟨_, _, hb, by decide, by decide⟩
 refine ⟨by simp [h.len], ?_, fun i hi => ?_⟩
 ·rw [List.length_append, List.flatMap_append]
  simpa using h1
 ·rw [getD_appL, getD_appL, h.len]
  rw [List.length_append, List.length_singleton] at hi
  by_cases e : i < X.length
  ·rw [if_pos e, if_pos e]; exact (h.row i e).turn hg hr
  ·rw [if_neg e, if_neg e, if_pos (by omega), if_pos (by omega)]; exact hd.turn hg hr
/-- a row is laid in the place of another one -/
theorem TbD.put {w : World} {B g c : Nat} {n : Nat} {ds : List Dr} {X : List (Option Ro)} {d : Dr} {o : Option Ro} (h : TbD w B (.slice (some ⟨g, 0, none⟩) n c) ds X) (hd : DrO w B d o) {i : Nat} (hi : i < X.length) :
  TbD (((w.setCell ⟨g, i * 3, none⟩ (.bool d.s)).setCell ⟨g, i * 3 + 1, none⟩ d.h).setCell ⟨g, i * 3 + 2, none⟩ d.n) B (.slice (some ⟨g, 0, none⟩) n c) (ds.set i d) (X.set i o) := by
 have hl : i < ds.length := by rw [h.len]; exact hi
 have hn : n = X.length := by
  obtain ⟨-, ⟨e, -⟩ | ⟨g', cap, cur, e, -⟩⟩ := h.own
  ·cases e
  ·simp only [Value.slice.injEq] at e; exact e.2.1
 subst hn
 obtain ⟨-, cs, hcs⟩ := own_heap h.own (by omega)
 have o1 := (World.ownsRow.stored h.own (i * 3) (.bool d.s)).1
 have o2 := (World.ownsRow.stored o1 (i * 3 + 1) d.h).1
 have o3 := (World.ownsRow.stored o2 (i * 3 + 2) d.n).1
 have hset : (((ds.flatMap Dr.cells).set (i * 3) (.bool d.s)).set (i * 3 + 1) d.h).set (i * 3 + 2) d.n = (ds.set i d).flatMap Dr.cells := by
  have q0 := flat_set Dr.cells 3 (fun _ => rfl) ds i 0 ⟨d.s, (ds[i]?.getD ⟨d.s, d.h, d.n⟩).h, (ds[i]?.getD ⟨d.s, d.h, d.n⟩).n⟩ (.bool d.s) hl (by decide) (by rw [List.getElem?_eq_getElem hl]; rfl)
  rw [Nat.add_zero] at q0
  rw [q0]
  have q1 := flat_set Dr.cells 3 (fun _ => rfl) (ds.set i ⟨d.s, (ds[i]?.getD ⟨d.s, d.h, d.n⟩).h, (ds[i]?.getD ⟨d.s, d.h, d.n⟩).n⟩) i 1 ⟨d.s, d.h, (ds[i]?.getD ⟨d.s, d.h, d.n⟩).n⟩ d.h (by simpa using hl) (by decide) (by simp [hl]; rfl)
  rw [q1, List.set_set]
  have q2 := flat_set Dr.cells 3 (fun _ => rfl) (ds.set i ⟨d.s, d.h, (ds[i]?.getD ⟨d.s, d.h, d.n⟩).n⟩) i 2 d d.n (by simpa using hl) (by decide) (by simp [hl]; rfl)
  rw [q2, List.set_set]
 rw [hset] at o3
 have keep : ∀ {j : Nat} {e : Dr} {q : Option Ro}, DrO w B e q → DrO (((w.setCell ⟨g, i * 3, none⟩ (.bool d.s)).setCell ⟨g, i * 3 + 1, none⟩ d.h).setCell ⟨g, i * 3 + 2, none⟩ d.n) B e q := fun {j e q} he => by
  have hg : w.grownBy (((w.setCell ⟨g, i * 3, none⟩ (.bool d.s)).setCell ⟨g, i * 3 + 1, none⟩ d.h).setCell ⟨g, i * 3 + 2, none⟩ d.n) (some g) := but_grownK (((But.setCell g (i * 3) w _).trans (But.setCell g (i * 3 + 1) _ _)).trans (But.setCell g (i * 3 + 2) _ _))
  exact he.turn hg (fun z hz => by cases hz; exact ⟨cs, _, hcs, by decide, by decide⟩)
 refine ⟨by simp [h.len], by rw [List.length_set]; exact o3, fun k hk => ?_⟩
 rw [List.length_set] at hk
 by_cases e : k = i
 ·subst e
  rw [show (ds.set k d).getD k default = d by simp [List.getD, hl], show (X.set k o).getD k none = o by simp [List.getD, hi]]
  exact keep (j := 0) hd
 ·rw [show (ds.set i d).getD k default = ds.getD k default by simp [List.getD, List.getElem?_set, Ne.symm e], show (X.set i o).getD k none = X.getD k none by simp [List.getD, List.getElem?_set, Ne.symm e]]
  exact keep (j := 0) (h.row k hk)
end Go.Proofs.Ytkhfddodmjnecaa

set_option linter.all false
namespace Go.Proofs.Ytkhfddodmjnecaa
set_option linter.unusedVariables false

section
variable {p : Pr} {R : Nat} (h0 : 0 < p.blks.length) (hL : ∀ n, n < p.blks.length → ∀ q ∈ outsB (p.blks.getD n default), 0 ≤ q ∧ q < (p.blks.length : Int))
include h0 hL
end
end Go.Proofs.Ytkhfddodmjnecaa

set_option linter.all false
namespace Go.Proofs.Ytkhfddodmjnecaa
open Go.ChangeShapes Go.WideShapes Go.ChangeAt Go.RowKit
set_option maxHeartbeats 4000000
set_option maxRecDepth 100000
set_option linter.unusedVariables false

theorem made_rows (n : Nat) : (madeCells #[.bool false, .slice none 0 0, .slice none 0 0] (n * 3)).toList = (List.replicate n (default : Dr)).flatMap Dr.cells := by
 have hl : (List.replicate n (default : Dr)).length = n := by simp
 apply List.ext_getElem?
 intro j
 by_cases hj : j < n * 3
 ·have e := flat_at Dr.cells 3 (fun _ => rfl) (List.replicate n (default : Dr)) (j / 3) (j % 3) (by rw [hl]; omega) (Nat.mod_lt _ (by decide))
  rw [show j / 3 * 3 + j % 3 = j by omega] at e
  rw [e]
  have h2 : j % 3 < 3 := Nat.mod_lt _ (by decide)
  simp only [madeCells, Array.toList_map, List.getElem?_map, Array.toList_range, List.getElem?_range hj, Option.map_some]
  have hd : (List.replicate n (default : Dr)).getD (j / 3) default = default := by simp only [List.getD, List.getElem?_replicate]; split <;> rfl
  rw [hd]
  show some ((#[.bool false, .slice none 0 0, .slice none 0 0] : Array Value)[j % 3]!) = (Dr.cells default)[j % 3]?
  have : ∀ r, r < 3 → some ((#[.bool false, .slice none 0 0, .slice none 0 0] : Array Value)[r]!) = (Dr.cells default)[r]? := by
   intro r hr
   match r, hr with
   | 0, _ => rfl
   | 1, _ => rfl
   | 2, _ => rfl
  exact this _ h2
 ·rw [List.getElem?_eq_none (by simp [size_madeCells]; omega), List.getElem?_eq_none (by rw [flat_len Dr.cells 3 (fun _ => rfl), hl]; omega)]
theorem TbD.made (w : World) (B n : Nat) (hn : n ≤ 1000000) (hB : B ≤ w.heap.size) : TbD (w.alloc (.cells (madeCells #[.bool false, .slice none 0 0, .slice none 0 0] (n * 3)) 83)) B (.slice (some ⟨w.heap.size, 0, none⟩) n n) (List.replicate n default) (List.replicate n none) := by
 refine ⟨by simp, ?_, fun i hi => ?_⟩
 ·rw [List.length_replicate]
  refine ⟨by rw [flat_len Dr.cells 3 (fun _ => rfl)]; simp, .inr ⟨w.heap.size, n, _, rfl, hB, heap_alloc_new w _, Nat.le_refl _, by unfold maxLen; omega, size_madeCells _ _, ?_⟩⟩
  rw [← made_rows n]
  exact List.take_of_length_le (by simp [size_madeCells])
 ·have e1 : (List.replicate n (default : Dr)).getD i default = default := by simp only [List.getD, List.getElem?_replicate]; split <;> rfl
  have e2 : (List.replicate n (none : Option Ro)).getD i none = none := by simp only [List.getD, List.getElem?_replicate]; split <;> rfl
  rw [e1, e2]
  exact ⟨rfl, own_nil _ B _ _, own_nil _ B _ _⟩
section
variable {p : Pr} {R : Nat}
end
end Go.Proofs.Ytkhfddodmjnecaa

set_option linter.all false
namespace Go.Proofs.Ytkhfddodmjnecaa
open Go.ChangeShapes Go.WideShapes Go.ChangeAt Go.RowKit
set_option maxHeartbeats 16000000
set_option maxRecDepth 100000
set_option linter.unusedVariables false

/-- where the rounds begin -/
structure StartD (p : Pr) (R : Nat) (w W0 wr : World) (vo : Value) (ab : Option Addr) (cb : Nat) (nm : ByteArray) (gR gT b5 bh bn : Nat) : Prop where
 bp : wr.heap[w.heap.size]? = some (.cells #[.string nm, .bool p.void, .int .i64 p.params, .int .i64 R, vo, .slice ab p.blks.length cb] 32)
 re : RowB wr gR p.blks.length p.blks.length (reachP p)
 bz : wr.heap[b5]? = some (.cells #[.bool true, .slice (some ⟨bh, 0, none⟩) R R, .slice (some ⟨bn, 0, none⟩) R R] 83)
 no : OwRw wr W0.heap.size (.agg #[.bool true, .slice (some ⟨bh, 0, none⟩) R R, .slice (some ⟨bn, 0, none⟩) R R]) true (roNo R)
 bl : Below w.heap.size w wr
 l5 : W0.heap.size ≤ b5
 lT : gT < W0.heap.size
 l0 : w.heap.size < W0.heap.size
 lR : gR < W0.heap.size
theorem StartD.below {p : Pr} {R : Nat} {w W0 wr w' : World} {vo : Value} {ab : Option Addr} {cb : Nat} {nm : ByteArray} {gR gT b5 bh bn : Nat} (h : StartD p R w W0 wr vo ab cb nm gR gT b5 bh bn) (hb : Below wr.heap.size wr w') : StartD p R w W0 w' vo ab cb nm gR gT b5 bh bn :=
 ⟨(hb.block _ (Array.getElem?_eq_some_iff.1 h.bp).1).trans h.bp, h.re.below hb, (hb.block _ (Array.getElem?_eq_some_iff.1 h.bz).1).trans h.bz, h.no.below hb, h.bl.trans (hb.mono h.bl.size), h.l5, h.lT, h.l0, h.lR⟩
/-- what stands while a table is written in place -/
theorem StartD.put {p : Pr} {R : Nat} {w W0 wr : World} {vo : Value} {ab : Option Addr} {cb : Nat} {nm : ByteArray} {gR gT b5 bh bn g i : Nat} (h : StartD p R w W0 wr vo ab cb nm gR gT b5 bh bn) (hg : b5 + 1 ≤ g) {cs : Array Value} (hc : wr.heap[g]? = some (.cells cs 83)) (u : Value) : StartD p R w W0 (wr.setCell ⟨g, i, none⟩ u) vo ab cb nm gR gT b5 bh bn := by
 obtain ⟨h1, h2, h3, ⟨vh, vn, h4, h5, h6⟩, h7, l1, l2, l3, l4⟩ := h
 refine ⟨(Below.heap_setCell _ ⟨g, i, none⟩ _ _ (by dsimp only; omega)).trans h1, h2.set_other u (by omega), (Below.heap_setCell _ ⟨g, i, none⟩ _ _ (by dsimp only; omega)).trans h3, ⟨vh, vn, h4, own_other h5 (row_not h5 hc (by decide)) u, own_other h6 (row_not h6 hc (by decide)) u⟩, h7.setCell (p := ⟨g, i, none⟩) (by dsimp only; omega) u, l1, l2, l3, l4⟩
end Go.Proofs.Ytkhfddodmjnecaa

set_option linter.all false
namespace Go.Proofs.Ytkhfddodmjnecaa
open Go.ChangeShapes Go.WideShapes Go.ChangeAt Go.RowKit Go.Maps
set_option maxHeartbeats 4000000
set_option maxRecDepth 100000
set_option linter.unusedVariables false

/-- where the desk and its maps lie -/
structure Dkb where
 bd : Nat
 bo : Nat
 bk : Nat
 bn : Nat
 bf : Nat
def rowI (l : List Int) : List Value := l.map (Value.int .i64)
/-- the desk: its blocks are all of S -/
structure DkX (w : World) (S : Nat → Prop) (q : Dkb) (c : Nat) (R : Int) (d : Dk) (vf : Int → Value) : Prop where
 st : w.heap[q.bd]? = some (.cells #[.map (some q.bo), .map (some q.bk), .map (some q.bn), .map (some q.bf), .int .i64 d.vs, .int .i64 d.mm] 191)
 mo : MapH KyI w q.bo c (fun x => (d.of x).map (Value.int .i64))
 mky : MapH KyK w q.bk c (fun x => (d.ky x).map (Value.int .i64))
 mn : MapH KyI w q.bn c (fun x => (d.num x).map (Value.int .u32))
 mf : MapH KyI w q.bf c (fun v => if d.fs v = [] then none else some (vf v))
 row : ∀ v, d.fs v ≠ [] → w.ownsRow 0 3 1 (vf v) (d.fs v).length (rowI (d.fs v))
 ap : ∀ v u, d.fs v ≠ [] → d.fs u ≠ [] → v ≠ u → (vf v).ownBlock ≠ (vf u).ownBlock
 fl : ∀ v, (d.fs v).length ≤ c
 fr : ∀ v, ∀ r ∈ d.fs v, 0 ≤ r ∧ r < R
 B : DkB R d
 Rb : R ≤ 1000000
 vs : d.vs ≤ (c : Int)
 mm : 0 ≤ d.mm ∧ d.mm ≤ (c : Int)
 n1 : q.bo ≠ q.bk ∧ q.bo ≠ q.bn ∧ q.bo ≠ q.bf ∧ q.bk ≠ q.bn ∧ q.bk ≠ q.bf ∧ q.bn ≠ q.bf
 s1 : S q.bd ∧ S q.bo ∧ S q.bk ∧ S q.bn ∧ S q.bf
 s2 : ∀ v g, d.fs v ≠ [] → (vf v).ownBlock = some g → S g
 sl : ∀ b, S b → b < w.heap.size
def DkM (w : World) (S : Nat → Prop) (q : Dkb) (c : Nat) (R : Int) (d : Dk) : Prop := ∃ vf, DkX w S q c R d vf
/-- only blocks of S have turned; the blocks of S' are those of S or new ones -/
structure Stp (S : Nat → Prop) (w w' : World) (S' : Nat → Prop) : Prop where
 os : w'.os = w.os
 tape : w'.tape = w.tape
 output : w'.output = w.output
 size : w.heap.size ≤ w'.heap.size
 keep : ∀ b, b < w.heap.size → ¬ S b → w'.heap[b]? = w.heap[b]?
 sub : ∀ b, S' b → S b ∨ w.heap.size ≤ b
theorem Stp.refl (S : Nat → Prop) (w : World) : Stp S w w S := ⟨rfl, rfl, rfl, Nat.le_refl _, fun _ _ _ => rfl, fun _ h => .inl h⟩
theorem Stp.trans {S S' S'' : Nat → Prop} {a b c : World} (h : Stp S a b S') (k : Stp S' b c S'') : Stp S a c S'' := by
 refine ⟨k.os.trans h.os, k.tape.trans h.tape, k.output.trans h.output, Nat.le_trans h.size k.size, fun x hx hn => ?_, fun x hx => ?_⟩
 ·refine (k.keep x (Nat.lt_of_lt_of_le hx h.size) fun e => ?_).trans (h.keep x hx hn)
  rcases h.sub x e with e2 | e2
  ·exact hn e2
  ·omega
 ·rcases k.sub x hx with e | e
  ·exact h.sub x e
  ·have := h.size; exact .inr (by omega)
theorem Stp.of_below {S : Nat → Prop} {w w' : World} (h : Below w.heap.size w w') : Stp S w w' S := ⟨h.os, h.tape, h.output, h.size, fun b hb _ => h.block b hb, fun b hb => .inl hb⟩
theorem Stp.below {S S' : Nat → Prop} {w w' : World} (h : Stp S w w' S') {B : Nat} (hB : B ≤ w.heap.size) (hS : ∀ b, S b → B ≤ b) : Below B w w' := ⟨h.os, h.tape, h.output, h.size, fun k hk => h.keep k (by omega) (fun e => by have := hS k e; omega)⟩
theorem Stp.base {S S' : Nat → Prop} {w w' : World} (h : Stp S w w' S') {B : Nat} (hB : B ≤ w.heap.size) (hS : ∀ b, S b → B ≤ b) : ∀ b, S' b → B ≤ b := fun b hb => by
 rcases h.sub b hb with e | e
 ·exact hS b e
 ·omega
theorem Stp.away {S S' : Nat → Prop} {w w' : World} (h : Stp S w w' S') {b : Nat} (hb : b < w.heap.size) (hn : ¬ S b) : ¬ S' b := fun e => by
 rcases h.sub b e with e | e
 ·exact hn e
 ·omega
theorem ow_same {w w' : World} {B s n : Nat} {e : TypeId} {v : Value} {xs : List Value} (h : w.ownsRow B e s v n xs) (hb : ∀ g, v.ownBlock = some g → w'.heap[g]? = w.heap[g]?) : w'.ownsRow B e s v n xs := by
 obtain ⟨h1, h2 | ⟨g, cap, cur, rfl, h2, h3, h4⟩⟩ := h
 ·exact ⟨h1, .inl h2⟩
 ·exact ⟨h1, .inr ⟨g, cap, cur, rfl, h2, (hb g rfl).trans h3, h4⟩⟩
section
variable {w w' : World} {S : Nat → Prop} {q : Dkb} {c : Nat} {R : Int} {d : Dk} {vf : Int → Value}
theorem DkX.same (h : DkX w S q c R d vf) (hs : w.heap.size ≤ w'.heap.size) (hb : ∀ b, S b → w'.heap[b]? = w.heap[b]?) : DkX w' S q c R d vf :=
 ⟨(hb _ h.s1.1).trans h.st, h.mo.same (hb _ h.s1.2.1), h.mky.same (hb _ h.s1.2.2.1), h.mn.same (hb _ h.s1.2.2.2.1), h.mf.same (hb _ h.s1.2.2.2.2), fun v hv => ow_same (h.row v hv) fun g hg => hb g (h.s2 v g hv hg), h.ap, h.fl, h.fr, h.B, h.Rb, h.vs, h.mm, h.n1, h.s1, h.s2, fun b hb => Nat.lt_of_lt_of_le (h.sl b hb) hs⟩
theorem DkX.mono (h : DkX w S q c R d vf) {c' : Nat} (hc : c ≤ c') : DkX w S q c' R d vf :=
 ⟨h.st, h.mo.mono hc, h.mky.mono hc, h.mn.mono hc, h.mf.mono hc, h.row, h.ap, fun v => Nat.le_trans (h.fl v) hc, h.fr, h.B, h.Rb, by have := h.vs; omega, by have := h.mm; omega, h.n1, h.s1, h.s2, h.sl⟩
theorem DkM.same (h : DkM w S q c R d) (hs : w.heap.size ≤ w'.heap.size) (hb : ∀ b, S b → w'.heap[b]? = w.heap[b]?) : DkM w' S q c R d := let ⟨vf, h⟩ := h; ⟨vf, h.same hs hb⟩
theorem DkM.mono (h : DkM w S q c R d) {c' : Nat} (hc : c ≤ c') : DkM w S q c' R d := let ⟨vf, h⟩ := h; ⟨vf, h.mono hc⟩
theorem DkM.below (h : DkM w S q c R d) (hb : Below w.heap.size w w') : DkM w' S q c R d := let ⟨vf, h⟩ := h; ⟨vf, h.same hb.size fun b hs => hb.block b (h.sl b hs)⟩
/-- .. while a block that is not of S turns -/
theorem DkM.but {g : Nat} (h : DkM w S q c R d) (hb : But g w w') (hg : ¬ S g) : DkM w' S q c R d := let ⟨vf, h⟩ := h; ⟨vf, h.same hb.size fun b hs => hb.block b (h.sl b hs) (fun e => hg (e ▸ hs))⟩
theorem DkM.lt (h : DkM w S q c R d) {b : Nat} (hb : S b) : b < w.heap.size := let ⟨vf, h⟩ := h; h.sl b hb
theorem DkM.st (h : DkM w S q c R d) : w.heap[q.bd]? = some (.cells #[.map (some q.bo), .map (some q.bk), .map (some q.bn), .map (some q.bf), .int .i64 d.vs, .int .i64 d.mm] 191) := let ⟨vf, h⟩ := h; h.st
theorem DkM.B (h : DkM w S q c R d) : DkB R d := let ⟨vf, h⟩ := h; h.B
theorem DkM.bd (h : DkM w S q c R d) : (0 ≤ d.vs ∧ d.vs ≤ (c : Int)) ∧ (0 ≤ d.mm ∧ d.mm ≤ (c : Int)) ∧ R ≤ 1000000 := let ⟨vf, h⟩ := h; ⟨⟨h.B.vs, h.vs⟩, h.mm, h.Rb⟩
/-- the desk's own block is no map and no row -/
theorem DkX.apart (h : DkX w S q c R d vf) : q.bd ≠ q.bo ∧ q.bd ≠ q.bk ∧ q.bd ≠ q.bn ∧ q.bd ≠ q.bf ∧ ∀ v, d.fs v ≠ [] → (vf v).ownBlock ≠ some q.bd ∧ (vf v).ownBlock ≠ some q.bo ∧ (vf v).ownBlock ≠ some q.bk ∧ (vf v).ownBlock ≠ some q.bn ∧ (vf v).ownBlock ≠ some q.bf := by
 have key : ∀ {b : Nat} {es : Array MapEntry} {cl : Nat}, w.heap[b]? = some (.map es cl) → q.bd ≠ b ∧ ∀ v, d.fs v ≠ [] → (vf v).ownBlock ≠ some b := fun {b es cl} hb => by
  refine ⟨fun e => ?_, fun v hv e => ?_⟩
  ·rw [← e, h.st] at hb; cases hb
  ·obtain ⟨-, ⟨e1, -⟩ | ⟨g, cap, cur, e1, -, h3, -⟩⟩ := h.row v hv
   ·rw [e1] at e; cases e
   ·rw [e1] at e
    simp only [Value.ownBlock, Option.some.injEq] at e
    subst e
    rw [h3] at hb; cases hb
 obtain ⟨_, _, e1⟩ := h.mo.isMap
 obtain ⟨_, _, e2⟩ := h.mky.isMap
 obtain ⟨_, _, e3⟩ := h.mn.isMap
 obtain ⟨_, _, e4⟩ := h.mf.isMap
 exact ⟨(key e1).1, (key e2).1, (key e3).1, (key e4).1, fun v hv => ⟨row_not (h.row v hv) h.st (by decide), (key e1).2 v hv, (key e2).2 v hv, (key e3).2 v hv, (key e4).2 v hv⟩⟩
end
def DkQ (S : Nat → Prop) (q : Dkb) (c : Nat) (R : Int) (r : Value) (d : Dk) (w : World) (e : Ending) (w' : World) : Prop := e = .returned r ∧ ∃ S', DkM w' S' q c R d ∧ Stp S w w' S'
/-- a cell of the desk's own block is written -/
theorem DkX.own {w w' : World} {S : Nat → Prop} {q : Dkb} {c c' : Nat} {R : Int} {d d' : Dk} {vf : Int → Value} (h : DkX w S q c R d vf) (hb : But q.bd w w') (hst : w'.heap[q.bd]? = some (.cells #[.map (some q.bo), .map (some q.bk), .map (some q.bn), .map (some q.bf), .int .i64 d'.vs, .int .i64 d'.mm] 191))
  (hc : c ≤ c') (e1 : d'.of = d.of) (e2 : d'.ky = d.ky) (e3 : d'.num = d.num) (e4 : d'.fs = d.fs) (hB : DkB R d') (hv : d'.vs ≤ (c' : Int)) (hm : 0 ≤ d'.mm ∧ d'.mm ≤ (c' : Int)) : DkX w' S q c' R d' vf := by
 obtain ⟨a1, a2, a3, a4, a5⟩ := h.apart
 have keep : ∀ b, S b → q.bd ≠ b → w'.heap[b]? = w.heap[b]? := fun b hs hn => hb.block b (h.sl b hs) (Ne.symm hn)
 obtain ⟨of', ky', num', fs', vs', mm'⟩ := d'
 dsimp only at e1 e2 e3 e4
 subst e1 e2 e3 e4
 exact ⟨hst, (h.mo.same (keep _ h.s1.2.1 a1)).mono hc, (h.mky.same (keep _ h.s1.2.2.1 a2)).mono hc, (h.mn.same (keep _ h.s1.2.2.2.1 a3)).mono hc, (h.mf.same (keep _ h.s1.2.2.2.2 a4)).mono hc, fun v hv => ow_same (h.row v hv) fun g hg => keep g (h.s2 v g hv hg) (fun e => (a5 v hv).1 (e ▸ hg)), h.ap, fun v => Nat.le_trans (h.fl v) hc, h.fr, hB, h.Rb, hv, hm, h.n1, h.s1, h.s2, fun b hs => Nat.lt_of_lt_of_le (h.sl b hs) hb.size⟩
theorem fresh_c (w : World) (S : Nat → Prop) (q : Dkb) (c : Nat) (R : Int) (d : Dk) (h : DkM w S q c R d) (hc : c ≤ 1000000000) :
  Calls Try.prog 152 #[.pointer (some ⟨q.bd, 0, none⟩)] w (DkQ S q (c + 1) R (.int .i64 (d.vs + 1)) (freshD d) w) := by
 obtain ⟨vf, h⟩ := h
 have HS := Lib.hid h.st
 obtain ⟨y0, y1, y2, y3, y4, y5, l0⟩ := cl6 HS.out
 have f4 := frozen_of_heap HS.out 4
 have hv0 := h.B.vs
 have hv1 := h.vs
 have hbut := But.setCell q.bd 4 w (.int .i64 (d.vs + 1))
 have H' : Hid (DkX (w.setCell ⟨q.bd, 4, none⟩ (.int .i64 (d.vs + 1))) S q (c + 1) R (freshD d) vf) := by
  refine h.own hbut ?_ (by omega) rfl rfl rfl rfl h.B.fresh (by show d.vs + 1 ≤ _; omega) (by have := h.mm; show 0 ≤ d.mm ∧ d.mm ≤ _; omega)
  rw [heap_setCell_same _ _ _ _ _ _ HS.out]; rfl
 have HP : Hid (Stp S w (w.setCell ⟨q.bd, 4, none⟩ (.int .i64 (d.vs + 1))) S) := ⟨hbut.os, hbut.tape, hbut.output, hbut.size, fun b hb hn => hbut.block b hb (fun e => hn (e ▸ h.s1.1)), fun b hb => .inl hb⟩
 clear h hbut
 go_enter Try.func152, Try.ntmps152
 go_wp2_with fail
 go_ret
 exact ⟨rfl, S, ⟨vf, H'.out⟩, HP.out⟩
end Go.Proofs.Ytkhfddodmjnecaa
