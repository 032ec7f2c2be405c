/-
 The document's answer for alias: rows of bools that are made anew (join, with).; The document's answer for alias: the struct All in memory while it is reckoned.; The document's answer for alias: how many things all lists have.; The document's answer for alias: what an instruction adds.; The document's answer for alias: what a call adds.; The document's answer for alias: instructions that add nothing; any instruction.; The document's exact places: the walk of Exact.; The document's Exact, whatever the register.; The document's answer for alias: Of.; The document's answer for alias, plain: when the count stays nothing was added.; The document's answer for alias: Of, the walk.; (As module J, but whole addresses are kept.) Regions that draw their order, with calls that make new memory: such a call may stand at any place, since all that follows is shown for every world that has grown out of the one at hand.; The document's answer for alias: may two loads or stores meet (Meet)?; Outcomes compared; the worked example of layer 14.; The page's example of layer 21 answers yes.
-/
import Derived.Test.YtmcddolkpcgddaaZHazardMarks02
import Derived.Test.YtmcddolkpcgddaaZHazardMarks14
import Derived.Test.YtmcddolkpcgddaaZHazardMarks09
import Derived.Test.YtmcddolkpcgddaaZHazardMarks04
import Derived.Test.YtmcddolkpcgddaaZHazardMarks18
import Derived.Test.YtmcddolkpcgddaaZHazardMarks10
import Derived.Test.YtmcddolkpcgddaaZHazardMarks11
import Derived.Test.YtmcddolkpcgddaaZHazardMarks12
import Derived.Test.YtmcddolkpcgddaaZHazardMarks01
import Derived.Test.YtmcddolkpcgddaaZHazardMarks21
import Derived.Test.YtmcddolkpcgddaaZHazardMarks15
import Derived.Test.YtmcddolkpcgddaaZHazardMarks13
import Derived.Test.YtmcddolkpcgddaaZHazardMarks00
import Derived.Test.YtmcddolkpcgddaaZHazardMarks40
import Derived.Test.YtmcddolkpcgddaaZHazardMarks25
import Derived.Test.YtmcddolkpcgddaaZHazardMarks44
import Derived.Test.YtmcddolkpcgddaaZHazardMarks41

set_option linter.all false
namespace Go.Proofs.Ytmcddolkpcgddaa
open Go.ChangeShapes Go.WideShapes Go.ChangeAt Go.RowKit
set_option maxHeartbeats 4000000
set_option maxRecDepth 100000
set_option linter.unusedVariables false

end Go.Proofs.Ytmcddolkpcgddaa

set_option linter.all false
namespace Go.Proofs.Ytmcddolkpcgddaa
open Go.ChangeShapes Go.WideShapes Go.ChangeAt Go.RowKit
set_option maxHeartbeats 4000000
set_option maxRecDepth 100000
set_option linter.unusedVariables false

structure AlK where
 bx : Nat
 vr : Value
 rs : List (Nat × Nat)
 ro : Nat × Nat
 T : Nat
 n : Nat
def AlK.setO (k : AlK) (g c : Nat) : AlK := ⟨k.bx, k.vr, k.rs, (g, c), k.T, k.n⟩
structure AlM (w0 w : World) (k : AlK) (x : AR) : Prop where
 bx : w0.heap.size ≤ k.bx
 hv : w.heap[k.bx]? = some (.cells #[k.vr, rowV k.ro.1 k.T k.ro.2] 96)
 tab : TabV w w0.heap.size k.vr (k.rs.map fun r => rowV r.1 k.T r.2)
 rl : k.rs.length = k.n
 row : ∀ r, r < k.n → RowB w (k.rs.getD r (0, 0)).1 k.T (k.rs.getD r (0, 0)).2 (x.regs.getD r [])
 out : RowB w k.ro.1 k.T k.ro.2 x.out
 ok : x.Ok k.n k.T
 below : Below w0.heap.size w0 w
theorem AlM.grow {w0 w w' : World} {k : AlK} {x : AR} (h : AlM w0 w k x) (hb : Below w.heap.size w w') : AlM w0 w' k x :=
 ⟨h.bx, (hb.block _ (Array.getElem?_eq_some_iff.1 h.hv).1).trans h.hv, h.tab.below hb, h.rl, fun r hr => (h.row r hr).below hb, h.out.below hb, h.ok, h.below.trans (hb.mono h.below.size)⟩
theorem AlM.lt {w0 w : World} {k : AlK} {x : AR} (h : AlM w0 w k x) : k.bx < w.heap.size := (Array.getElem?_eq_some_iff.1 h.hv).1
theorem RowB.set_other {w : World} {g n c : Nat} {l : List Bool} (h : RowB w g n c l) {b i : Nat} (v : Value) (hb : b ≠ g) : RowB (w.setCell ⟨b, i, none⟩ v) g n c l := by
 obtain ⟨h1, h2 | ⟨g', cap, cur, h3, h4, h5, r⟩⟩ := h
 ·exact ⟨h1, .inl h2⟩
 ·refine ⟨h1, .inr ⟨g', cap, cur, h3, h4, (Below.heap_setCell w ⟨b, i, none⟩ v g' ?_).trans h5, r⟩⟩
  simp only [Value.slice.injEq, Option.some.injEq, Addr.mk.injEq] at h3
  intro e
  have : g' = b := e
  omega
theorem TabV.set_other {w : World} {B : Nat} {tv : Value} {L : List Value} (h : TabV w B tv L) {b i : Nat} (v : Value) (hb : tv.ownBlock ≠ some b) : TabV (w.setCell ⟨b, i, none⟩ v) B tv L := by
 obtain ⟨h1, h2 | ⟨g', cap, cur, rfl, h4, h5, r⟩⟩ := h
 ·exact ⟨h1, .inl h2⟩
 ·refine ⟨h1, .inr ⟨g', cap, cur, rfl, h4, (Below.heap_setCell w ⟨b, i, none⟩ v g' ?_).trans h5, r⟩⟩
  intro e
  exact hb (by simp only [Value.ownBlock, Option.some.injEq]; exact e)
theorem AlM.bx_ne_row {w0 w : World} {k : AlK} {x : AR} (h : AlM w0 w k x) {g n c : Nat} {l : List Bool} (hr : RowB w g n c l) : k.bx ≠ g := by
 intro e
 obtain ⟨cur, h2⟩ := hr.heap
 have := h.hv
 rw [e, h2] at this
 simp at this
theorem AlM.bx_ne_tab {w0 w : World} {k : AlK} {x : AR} (h : AlM w0 w k x) : k.vr.ownBlock ≠ some k.bx := by
 intro e
 obtain ⟨cur, h2⟩ := h.tab.heap e
 have := h.hv
 rw [h2] at this
 simp at this
theorem AlM.setO {w0 w : World} {k : AlK} {x : AR} (h : AlM w0 w k x) {g c : Nat} {l : List Bool} (hr : RowB w g k.T c l) (hl : l.length = k.T) : AlM w0 (w.setCell ⟨k.bx, 1, none⟩ (rowV g k.T c)) (k.setO g c) ⟨x.regs, l⟩ := by
 refine ⟨h.bx, ?_, h.tab.set_other _ h.bx_ne_tab, h.rl, fun r hr' => (h.row r hr').set_other _ (h.bx_ne_row (h.row r hr')), hr.set_other _ (h.bx_ne_row hr), ⟨h.ok.rows, h.ok.row, hl⟩, ?_⟩
 ·exact heap_setCell_same _ _ 1 _ _ _ h.hv
 ·exact ⟨h.below.os, h.below.tape, h.below.output, by simpa [World.setCell] using h.below.size, fun j hj => (Below.heap_setCell w ⟨k.bx, 1, none⟩ _ j (by have := h.bx; show j ≠ k.bx; omega)).trans (h.below.block j hj)⟩
/-- the table's cells -/
theorem AlM.at {w0 w : World} {k : AlK} {x : AR} (h : AlM w0 w k x) {d : Nat} (hd : d < k.n) : ∃ br cp, k.vr = .slice (some ⟨br, 0, none⟩) k.n cp ∧ k.n ≤ cp ∧ cp ≤ maxLen ∧ br < w.heap.size ∧ w0.heap.size ≤ br ∧ (∀ r, r < k.n → w.cell? ⟨br, r, none⟩ = some (rowV (k.rs.getD r (0, 0)).1 k.T (k.rs.getD r (0, 0)).2)) ∧ (∀ r, w.frozen? ⟨br, r, none⟩ = false) := by
 have hT := h.tab
 obtain ⟨-, ⟨hv, h0⟩ | ⟨g, cap, cur, hv, hb, hh, hn, hc, -⟩⟩ := h.tab
 ·rw [List.length_map, h.rl] at h0; omega
 ·have hT2 := hT
  rw [List.length_map, h.rl] at hv hn
  unfold TabV at hT2
  rw [hv, List.length_map] at hT2
  have R := own_rows (f := fun r : Nat × Nat => rowV r.1 k.T r.2) (0, 0) hT2
  rw [h.rl] at hT2
  have hf := World.ownsRow.frozenAt hT2
  obtain ⟨a', c', e, -, -, R⟩ := R
  simp only [Value.slice.injEq] at e
  obtain ⟨e, -, -⟩ := e
  refine ⟨g, cap, hv, hn, hc, (Array.getElem?_eq_some_iff.1 hh).1, hb, fun r hr => ?_, hf⟩
  obtain ⟨b, o, e2, hcell⟩ := R r (by rw [h.rl]; exact hr)
  rw [← e] at e2
  simp only [Option.some.injEq, Addr.mk.injEq] at e2
  obtain ⟨rfl, rfl, -⟩ := e2
  simpa using hcell
end Go.Proofs.Ytmcddolkpcgddaa

set_option linter.all false
namespace Go.Proofs.Ytmcddolkpcgddaa
open Go.ChangeShapes Go.WideShapes Go.ChangeAt Go.RowKit
set_option maxHeartbeats 4000000
set_option maxRecDepth 100000
set_option linter.unusedVariables false

end Go.Proofs.Ytmcddolkpcgddaa

set_option linter.all false
namespace Go.Proofs.Ytmcddolkpcgddaa
open Go.ChangeShapes Go.WideShapes Go.ChangeAt Go.RowKit
set_option maxHeartbeats 4000000
set_option maxRecDepth 100000
set_option linter.unusedVariables false

end Go.Proofs.Ytmcddolkpcgddaa

set_option linter.all false
namespace Go.Proofs.Ytmcddolkpcgddaa
open Go.ChangeShapes Go.WideShapes Go.ChangeAt Go.RowKit
set_option maxHeartbeats 4000000
set_option maxRecDepth 100000
set_option linter.unusedVariables false

end Go.Proofs.Ytmcddolkpcgddaa

set_option linter.all false
namespace Go.Proofs.Ytmcddolkpcgddaa
open Go.ChangeShapes Go.WideShapes Go.ChangeAt Go.RowKit
set_option maxHeartbeats 4000000
set_option maxRecDepth 100000
set_option linter.unusedVariables false

end Go.Proofs.Ytmcddolkpcgddaa

set_option linter.all false
namespace Go.Proofs.Ytmcddolkpcgddaa
open Go.ChangeShapes Go.WideShapes Go.ChangeAt Go.RowKit
set_option maxHeartbeats 4000000
set_option maxRecDepth 100000
set_option linter.unusedVariables false

end Go.Proofs.Ytmcddolkpcgddaa

set_option linter.all false
namespace Go.Proofs.Ytmcddolkpcgddaa
open Go.ChangeShapes Go.WideShapes Go.ChangeAt Go.RowKit
set_option linter.unusedVariables false

/-- one more register's row in the table (ref21.Of's second loop) -/
theorem AlM.push {w0 w w1 : World} {k : AlK} {x : AR} (h : AlM w0 w k x) {g c : Nat} {l : List Bool} (hr : RowB w g k.T c l) (hl : l.length = k.T) {v' : Value} (ht : TabV w1 w0.heap.size v' (k.rs.map (fun r => rowV r.1 k.T r.2) ++ [rowV g k.T c])) (hg : w.grownBy w1 k.vr.ownBlock) :
  AlM w0 (w1.setCell ⟨k.bx, 0, none⟩ v') ⟨k.bx, v', k.rs ++ [(g, c)], k.ro, k.T, k.n + 1⟩ ⟨x.regs ++ [l], x.out⟩ := by
 have hv1 : w1.heap[k.bx]? = some (.cells #[k.vr, rowV k.ro.1 k.T k.ro.2] 96) := (hg.block k.bx h.lt (fun e => h.bx_ne_tab e.symm)).trans h.hv
 have keep : ∀ {g c : Nat} {l : List Bool}, RowB w g k.T c l → RowB (w1.setCell ⟨k.bx, 0, none⟩ v') g k.T c l := fun hr => (hr.grown hg (tab_ne_row h.tab hr)).set_other _ (h.bx_ne_row hr)
 refine ⟨h.bx, heap_setCell_same _ _ 0 _ _ _ hv1, ?_, by simp [h.rl], fun r hr' => ?_, keep h.out, ⟨by simp [h.ok.rows], ?_, h.ok.out⟩, ?_⟩
 ·have hne : v'.ownBlock ≠ some k.bx := by
   intro e
   obtain ⟨cur, h2⟩ := ht.heap e
   rw [h2] at hv1
   simp at hv1
  have := ht.set_other (b := k.bx) (i := 0) v' hne
  simpa using this
 ·show RowB _ ((k.rs ++ [(g, c)]).getD r (0, 0)).1 k.T ((k.rs ++ [(g, c)]).getD r (0, 0)).2 ((x.regs ++ [l]).getD r [])
  have hr' : r < k.n + 1 := hr'
  by_cases e : r < k.n
  ·have e1 : (k.rs ++ [(g, c)]).getD r (0, 0) = k.rs.getD r (0, 0) := by simp [List.getD, List.getElem?_append, h.rl, e]
   have e2 : (x.regs ++ [l]).getD r [] = x.regs.getD r [] := by simp [List.getD, List.getElem?_append, h.ok.rows, e]
   rw [e1, e2]
   exact keep (h.row r e)
  ·obtain rfl : r = k.n := by omega
   have e1 : (k.rs ++ [(g, c)]).getD k.n (0, 0) = (g, c) := by simp [List.getD, List.getElem?_append, h.rl]
   have e2 : (x.regs ++ [l]).getD k.n [] = l := by simp [List.getD, List.getElem?_append, h.ok.rows]
   rw [e1, e2]
   exact keep hr
 ·intro l' hl'
  rcases List.mem_append.1 hl' with h1 | h1
  ·exact h.ok.row l' h1
  ·rw [List.mem_singleton] at h1
   rw [h1]; exact hl
 ·have hb := below_grown h.below hg h.below.size fun b hb => (World.ownsRow.lt h.tab b hb).1
  exact ⟨hb.os, hb.tape, hb.output, by simpa [World.setCell] using hb.size, fun j hj => (Below.heap_setCell w1 ⟨k.bx, 0, none⟩ _ j (by have := h.bx; show j ≠ k.bx; omega)).trans (hb.block j hj)⟩
end Go.Proofs.Ytmcddolkpcgddaa

set_option linter.all false
namespace Go.Proofs.Ytmcddolkpcgddaa
open Go.ChangeShapes Go.WideShapes Go.ChangeAt Go.RowKit
set_option maxHeartbeats 4000000
set_option maxRecDepth 100000
set_option linter.unusedVariables false

end Go.Proofs.Ytmcddolkpcgddaa

set_option linter.all false
namespace Go.Proofs.Ytmcddolkpcgddaa
set_option linter.unusedVariables false

theorem AR.End.start (p : Pr) (T : Nat) : (AR.start p T).End p T := ⟨AR.start_ok p T, fun _ _ _ h => h, fun S _ h2 o t ho ht => h2 o t ho ht⟩
/-- what a right procedure's blocks ask -/
structure ConsOk (p : Pr) (T : Nat) : Prop where
 inn : ∀ c ∈ conP p, c.inn p.regs.toNat
 thing : ∀ c ∈ conP p, c.thing T
theorem ConsOk.r_inn {p : Pr} {T : Nat} (h : ConsOk p T) : ∀ c ∈ conPR p, c.inn p.regs.toNat := fun c hc => h.inn c ((mem_conPR p c).1 hc)
theorem ConsOk.r_thing {p : Pr} {T : Nat} (h : ConsOk p T) : ∀ c ∈ conPR p, c.thing T := fun c hc => h.thing c ((mem_conPR p c).1 hc)
theorem AR.End.pass {p : Pr} {T : Nat} {x : AR} (h : x.End p T) (hc : ConsOk p T) : (x.pass (conPR p)).End p T :=
 ⟨h.ok.pass hc.r_inn, fun o t ho hs => AR.pass_up h.ok hc.r_inn hc.r_thing o t ho (h.up o t ho hs), fun S h1 h2 => AR.pass_in h.ok hc.r_inn hc.r_thing (fun c hcc => h1 c ((mem_conPR p c).1 hcc)) (h.lo S h1 h2)⟩
end Go.Proofs.Ytmcddolkpcgddaa

set_option linter.all false
namespace Go.Proofs.Ytmcddolkpcgddaa
open Go.ChangeShapes Go.WideShapes Go.ChangeAt Go.RowKit
set_option maxHeartbeats 4000000
set_option maxRecDepth 100000
set_option linter.unusedVariables false

structure OfB (w w3 wr : World) (T : Nat) (l : List Bool) : Prop where
 h3 : RowB wr (w.heap.size + 1 + 1 + 1) T T l
 h4 : wr.heap[w.heap.size + 1 + 1 + 1 + 1]? = some (.cells #[.slice none 0 0, .slice (some ⟨w.heap.size + 1 + 1 + 1, 0, none⟩) T T] 96)
 hz : w3.heap.size = w.heap.size + 1 + 1 + 1
 below : Below w3.heap.size w3 wr
theorem OfB.set {w w3 wr : World} {T : Nat} {l : List Bool} (h : OfB w w3 wr T l) (t : Nat) : OfB w w3 (wr.setCell ⟨w.heap.size + 1 + 1 + 1, t, none⟩ (.bool true)) T (l.set t true) :=
 ⟨OwnB.set h.h3 t true, (Below.heap_setCell _ ⟨_, t, none⟩ _ _ (by dsimp only; omega)).trans h.h4, h.hz, h.below.setCell (p := ⟨w.heap.size + 1 + 1 + 1, t, none⟩) (by dsimp only; have := h.hz; omega) _⟩
theorem OfB.al {w w3 wr : World} {T : Nat} {l : List Bool} (h : OfB w w3 wr T l) (hl : l.length = T) : AlM w3 wr ⟨w.heap.size + 1 + 1 + 1 + 1, .slice none 0 0, [], (w.heap.size + 1 + 1 + 1, T), T, 0⟩ ⟨[], l⟩ :=
 ⟨by dsimp only; have := h.hz; omega, h.h4, World.ownsRow_nil _ _ _ _, rfl, fun r hr => absurd hr (Nat.not_lt_zero r), h.h3, ⟨rfl, fun l' h' => absurd h' List.not_mem_nil, hl⟩, h.below⟩
theorem AlM.base {w0 w w' : World} {k : AlK} {x : AR} (h : AlM w0 w' k x) (hb : Below w.heap.size w w0) : AlM w w' k x :=
 ⟨Nat.le_trans hb.size h.bx, h.hv, h.tab.base hb.size, h.rl, h.row, h.out, h.ok, hb.trans (h.below.mono hb.size)⟩
/-- another box of the same kind is written -/
theorem AlM.other {w0 w : World} {k : AlK} {x : AR} (h : AlM w0 w k x) {b i : Nat} (v : Value) (hb : w0.heap.size ≤ b) (hne : k.bx ≠ b) {cc : Array Value} (hh : w.heap[b]? = some (.cells cc 96)) : AlM w0 (w.setCell ⟨b, i, none⟩ v) k x := by
 have hrow : ∀ {g n c : Nat} {l : List Bool}, RowB w g n c l → b ≠ g := fun hr e => by
  obtain ⟨cur, h2⟩ := hr.heap
  rw [e, h2] at hh
  simp at hh
 refine ⟨h.bx, (Below.heap_setCell w ⟨b, i, none⟩ v k.bx hne).trans h.hv, h.tab.set_other _ ?_, h.rl, fun r hr => (h.row r hr).set_other _ (hrow (h.row r hr)), h.out.set_other _ (hrow h.out), h.ok, ?_⟩
 ·intro e
  obtain ⟨cur, h2⟩ := h.tab.heap e
  rw [h2] at hh
  simp at hh
 ·exact ⟨h.below.os, h.below.tape, h.below.output, by simpa [World.setCell] using h.below.size, fun j hj => (Below.heap_setCell w ⟨b, i, none⟩ _ j (by show j ≠ b; omega)).trans (h.below.block j hj)⟩
/-- the loops' state: the struct stands, the procedure's box too -/
structure OfW (w w3 wr : World) (T n : Nat) (vr : Value) (x : AR) : Prop where
 al : ∃ rs ro, AlM w3 wr ⟨w.heap.size + 1 + 1 + 1 + 1, vr, rs, ro, T, n⟩ x
theorem OfW.below {w w3 wr : World} {T n : Nat} {vr : Value} {x : AR} (h : OfW w w3 wr T n vr x) : Below w3.heap.size w3 wr := by
 obtain ⟨rs, ro, h⟩ := h.al
 exact h.below
theorem OfW.lt {w w3 wr : World} {T n : Nat} {vr : Value} {x : AR} (h : OfW w w3 wr T n vr x) : w.heap.size + 1 + 1 + 1 + 1 < wr.heap.size := by
 obtain ⟨rs, ro, h⟩ := h.al
 exact h.lt
theorem OfW.grow {w w3 wr w' : World} {T n : Nat} {vr : Value} {x : AR} (h : OfW w w3 wr T n vr x) (hb : Below wr.heap.size wr w') : OfW w w3 w' T n vr x := by
 obtain ⟨rs, ro, h⟩ := h.al
 exact ⟨rs, ro, h.grow hb⟩

end Go.Proofs.Ytmcddolkpcgddaa

set_option linter.all false
namespace Go.Proofs.Ytmcddolkpcgddaa
open Go Go.RowKit
set_option linter.unusedVariables false

/-- what can be read in the blocks of S stays -/
def KeepY (S : Nat → Prop) (w w' : World) : Prop := ∀ a v, S a.block → w.cell? a = some v → w'.cell? a = some v
theorem KeepY.refl (S : Nat → Prop) (w : World) : KeepY S w w := fun _ _ _ h => h
theorem KeepY.trans {S : Nat → Prop} {a b c : World} (h : KeepY S a b) (k : KeepY S b c) : KeepY S a c := fun x v hx hv => k x v hx (h x v hx hv)
theorem KeepY.below {S : Nat → Prop} {w w' : World} (h : Below w.heap.size w w') : KeepY S w w' := fun a v _ hv => (h.cell (p := a) (World.block_lt_of_cell? w a hv)).trans hv
open Classical in
/-- a world that keeps what can be read in the blocks of S -/
noncomputable def ky (S : Nat → Prop) (w x : World) : World := if KeepY S w x then x else w
theorem ky_keep (S : Nat → Prop) (w x : World) : KeepY S w (ky S w x) := by
 unfold ky; split
 ·assumption
 ·exact KeepY.refl _ _
noncomputable def kyRest (S : Nat → Prop) (w x : World) (a : Addr) : Option Value := (ky S w x).cell? a
theorem cell?_ky {S : Nat → Prop} {w x : World} {b o : Nat} (h : S b) : (ky S w x).cell? ⟨b, o, none⟩ = (w.cell? ⟨b, o, none⟩).or (kyRest S w x ⟨b, o, none⟩) := by
 unfold kyRest
 cases hc : w.cell? ⟨b, o, none⟩ with
 | none => simp
 | some v => rw [ky_keep S w x ⟨b, o, none⟩ v h hc]; rfl
attribute [go_sem] cell?_ky

section
variable {P : Program} {ops : Array Oper} {Q : Act → World → Prop} {S : Nat → Prop}

/-- the operation yields one value and may make new memory, now and in every world that keeps what this one has -/
def YieldsY (S : Nat → Prop) (P : Program) (ops : Array Oper) (w : World) (o : Oper) (v : Value) (a : Act) : Prop :=
 (Region.wanted o (yielded ops a.tmps) = true ∧ ∀ w', KeepY S w w' → o.wp P a w' (fun a' w'' => a' = a.put o.dst v ∧ Below w'.heap.size w' w'') never) ∨
 (Region.wanted o (yielded ops a.tmps) = false ∧ v = undef)
theorem YieldsY.keep {o : Oper} {v : Value} {a : Act} {w w1 : World} (hy : YieldsY S P ops w o v a) (hb : KeepY S w w1) : YieldsY S P ops w1 o v a := by
 rcases hy with ⟨h, k⟩ | h
 ·exact .inl ⟨h, fun w' h' => k w' (hb.trans h')⟩
 ·exact .inr h
end
/-- blocks that were there keep all: what was told of memory stays true -/
theorem KeepY.set {S : Nat → Prop} {w w' : World} (h : KeepY S w w') {p : Addr} (u : Value) (hp : ¬ S p.block) : KeepY S w (w'.setCell p u) := fun a v ha hv => by
 have h1 := h a v ha hv
 have hne : a.block ≠ p.block := fun e => hp (e ▸ ha)
 unfold World.cell? at h1 ⊢
 have e : (w'.setCell p u).heap[a.block]? = w'.heap[a.block]? := heap_setCell_other w' p a.block u hne
 rw [e]
 exact h1
/-- .. so what stood in a world that all this began with stands -/
theorem KeepY.ext {n : Nat} {w0 w w' : World} (h : KeepY (fun z => z < n) w w') (h0 : Ext w0 w) (hn : w0.heap.size ≤ n) : Ext w0 w' := fun a v hv => h a v (Nat.lt_of_lt_of_le (World.block_lt_of_cell? w0 a hv) hn) (h0 a v hv)
end Go.Proofs.Ytmcddolkpcgddaa

set_option linter.all false
namespace Go.Proofs.Ytmcddolkpcgddaa
open Go.ChangeShapes Go.WideShapes Go.ChangeAt Go.RowKit
set_option maxHeartbeats 4000000
set_option maxRecDepth 100000
set_option linter.unusedVariables false

def anyB (a b : List Bool) (t : Nat) : Bool := (List.range t).any fun i => a.getD i false && b.getD i false
def AccR (n : Nat) (a : In) : Prop := (0 ≤ a.a ∧ a.a < (n : Int)) ∧ (-100000 ≤ a.off ∧ a.off ≤ 100000) ∧ 1 ≤ a.size ∧ a.size ≤ 4
theorem cl2 {w : World} {b : Nat} {t : TypeId} {c0 c1 : Value} (h : w.heap[b]? = some (.cells #[c0, c1] t (0, 0))) :
  w.cell? ⟨b, 0, none⟩ = some c0 ∧ w.cell? ⟨b, 1, none⟩ = some c1 ∧ b < w.heap.size := ⟨cell_of_heap h 0, cell_of_heap h 1, (Array.getElem?_eq_some_iff.1 h).1⟩
end Go.Proofs.Ytmcddolkpcgddaa

set_option linter.all false
namespace Go.Proofs.Ytmcddolkpcgddaa
open Go.ChangeShapes Go.WideShapes Go.ChangeAt Go.RowKit
set_option maxHeartbeats 8000000
set_option linter.unusedVariables false
set_option maxRecDepth 100000

end Go.Proofs.Ytmcddolkpcgddaa

set_option linter.all false
namespace Go.Proofs.Ytmcddolkpcgddaa
open Go.ChangeShapes Go.WideShapes Go.ChangeAt Go.RowKit
set_option maxHeartbeats 4000000
set_option maxRecDepth 100000
set_option linter.unusedVariables false

theorem exV_exF {k : VwK} {sp : List Sp} {P : Pr} (hbl : k.bs.length = P.regs.toNat) (h0 : 0 ≤ P.regs) (hsp : ∀ r, r < P.regs.toNat → sp.getD r default = spP P r) (r : Int) : exV k sp r = exF P r := by
 unfold exV exF
 by_cases h : 0 ≤ r ∧ r < P.regs
 ·rw [if_pos (by rw [hbl]; omega), if_pos h, hsp r.toNat (by omega)]
 ·rw [if_neg (by rw [hbl]; omega), if_neg h]
end Go.Proofs.Ytmcddolkpcgddaa
