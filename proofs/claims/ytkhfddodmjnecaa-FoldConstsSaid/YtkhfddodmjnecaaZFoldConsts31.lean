/-
 The document's answer for alias, plain: when the count stays nothing was added.; The document's answer for alias: Of, the walk.; A range over a function: drawn regions in a round; the statement where the iterator writes to memory of its own between two rounds.; Contracts of flow's Each: the function that it hands back, for whatever stands in the loop.; A range over flow's Each: what the callers share.; alias: spread.; alias: spread, the other operations; all of them.; alias: spot.; alias: spread of any instruction; what holds of a procedure's numbers.; alias: each goes through a procedure's instructions and ends.; alias: what New comes to, plain parts.; alias: reg, list, Things, Out, Exact, memory; the statements' rising.; alias: Things, Out, Exact, memory; the statements' rising.; The document's answer for alias: may two loads or stores meet (Meet)?
-/
import Derived.Test.YtkhfddodmjnecaaZFoldConsts30
import Derived.Test.YtkhfddodmjnecaaZFoldConsts20
import Derived.Test.YtkhfddodmjnecaaZFoldConsts09
import Derived.Test.YtkhfddodmjnecaaZFoldConsts12
import Derived.Test.YtkhfddodmjnecaaZFoldConsts28
import Derived.Test.YtkhfddodmjnecaaZFoldConsts07
import Derived.RangeFuncNested
import Derived.RangeFuncBound
import Derived.RangeFuncCalls
import Derived.RangeFuncLeaves
import Derived.Shelf.RegionOpen
import Derived.WalkKit
import Derived.OwnWalkIn
import Derived.TacticsInMore
import Derived.LoopNIn
import Derived.LoopIn
import Derived.Test.YtkhfddodmjnecaaZFoldConsts06
import Derived.Test.YtkhfddodmjnecaaZFoldConsts04
import Derived.Test.YtkhfddodmjnecaaZFoldConsts24
import Derived.Test.YtkhfddodmjnecaaZFoldConsts01
import Derived.Test.YtkhfddodmjnecaaZFoldConsts29

set_option linter.all false
namespace Go.Proofs.Ytkhfddodmjnecaa
set_option linter.unusedVariables false

theorem cntL_up : ∀ {a b : List Bool}, a.length = b.length → (∀ i : Nat, a.getD i false = true → b.getD i false = true) → cntL a ≤ cntL b ∧ (cntL a = cntL b → a = b)
 | [], [], _, _ => ⟨Nat.le_refl _, fun _ => rfl⟩
 | [], _ :: _, h, _ => by simp at h
 | _ :: _, [], h, _ => by simp at h
 | x :: a, y :: b, h, hu => by
  have ih := cntL_up (a := a) (b := b) (by simpa using h) fun i hi => by have := hu (i + 1); simp only [List.getD_cons_succ] at this; exact this hi
  have h0 := hu 0
  simp only [List.getD_cons_zero] at h0
  unfold cntL at ih ⊢
  simp only [List.countP_cons, id]
  cases x <;> cases y
  ·simp only [Bool.false_eq_true, if_false, Nat.add_zero]
   exact ⟨ih.1, fun e => by rw [ih.2 e]⟩
  ·simp only [Bool.false_eq_true, if_false, Nat.add_zero, if_true]
   exact ⟨by omega, fun e => by omega⟩
  ·exact absurd (h0 rfl) (by decide)
  ·simp only [if_true]
   exact ⟨by omega, fun e => by rw [ih.2 (by omega)]⟩
theorem cnts_up : ∀ {a b : List (List Bool)}, a.length = b.length → (∀ r : Nat, r < a.length → (a.getD r []).length = (b.getD r []).length) → (∀ r i : Nat, r < a.length → (a.getD r []).getD i false = true → (b.getD r []).getD i false = true) → (a.map cntL).sum ≤ (b.map cntL).sum ∧ ((a.map cntL).sum = (b.map cntL).sum → a = b)
 | [], [], _, _, _ => ⟨Nat.le_refl _, fun _ => rfl⟩
 | [], _ :: _, h, _, _ => by simp at h
 | _ :: _, [], h, _, _ => by simp at h
 | x :: a, y :: b, h, hl, hu => by
  have ih := cnts_up (a := a) (b := b) (by simpa using h) (fun r hr => by have := hl (r + 1) (by simpa using hr); simpa only [List.getD_cons_succ] using this) fun r i hr hi => by have := hu (r + 1) i (by simpa using hr); simp only [List.getD_cons_succ] at this; exact this hi
  have h0 := cntL_up (a := x) (b := y) (by have := hl 0 (by simp); simpa using this) fun i hi => by have := hu 0 i (by simp); simp only [List.getD_cons_zero] at this; exact this hi
  simp only [List.map_cons, List.sum_cons]
  exact ⟨by omega, fun e => by rw [h0.2 (by omega), ih.2 (by omega)]⟩
theorem AR.count_up {x y : AR} {n T : Nat} (hx : x.Ok n T) (hy : y.Ok n T) (h : ∀ o t, (∀ r, o = some r → r < n) → x.sem o t → y.sem o t) : x.count ≤ y.count ∧ (x.count = y.count → x = y) := by
 obtain ⟨xr, xo⟩ := x
 obtain ⟨yr, yo⟩ := y
 have hxr : xr.length = n := hx.rows
 have hyr : yr.length = n := hy.rows
 have h1 := cnts_up (a := xr) (b := yr) (by rw [hxr, hyr]) (fun r hr => by
  rw [hxr] at hr
  have a1 := hx.get (some r) fun q e => by cases e; exact hr
  have a2 := hy.get (some r) fun q e => by cases e; exact hr
  exact a1.trans a2.symm) fun r i hr hi => h (some r) i (fun q e => by cases e; rw [hxr] at hr; exact hr) hi
 have h2 := cntL_up (a := xo) (b := yo) (hx.out.trans hy.out.symm) fun i hi => h none i (fun q e => by cases e) hi
 unfold AR.count
 dsimp only
 exact ⟨by omega, fun e => by rw [h1.2 (by omega), h2.2 (by omega)]⟩
theorem AR.End.start (p : Pr) (T : Nat) : (AR.start p T).End p T := ⟨AR.start_ok p T, fun _ _ _ h => h, fun S _ h2 o t ho ht => h2 o t ho ht⟩
/-- what a right procedure's blocks ask -/
structure ConsOk (p : Pr) (T : Nat) : Prop where
 inn : ∀ c ∈ conP p, c.inn p.regs.toNat
 thing : ∀ c ∈ conP p, c.thing T
theorem ConsOk.r_inn {p : Pr} {T : Nat} (h : ConsOk p T) : ∀ c ∈ conPR p, c.inn p.regs.toNat := fun c hc => h.inn c ((mem_conPR p c).1 hc)
theorem ConsOk.r_thing {p : Pr} {T : Nat} (h : ConsOk p T) : ∀ c ∈ conPR p, c.thing T := fun c hc => h.thing c ((mem_conPR p c).1 hc)
theorem AR.End.pass {p : Pr} {T : Nat} {x : AR} (h : x.End p T) (hc : ConsOk p T) : (x.pass (conPR p)).End p T :=
 ⟨h.ok.pass hc.r_inn, fun o t ho hs => AR.pass_up h.ok hc.r_inn hc.r_thing o t ho (h.up o t ho hs), fun S h1 h2 => AR.pass_in h.ok hc.r_inn hc.r_thing (fun c hcc => h1 c ((mem_conPR p c).1 hcc)) (h.lo S h1 h2)⟩
theorem AR.End.rest {p : Pr} {T : Nat} {x : AR} (h : x.End p T) (hc : ConsOk p T) (e : (x.pass (conPR p)).count = x.count) : x.pass (conPR p) = x ∧ ∀ c ∈ conP p, c.holds fun o t => (∀ r, o = some r → r < p.regs.toNat) ∧ x.sem o t := by
 have h1 := (AR.count_up h.ok (h.pass hc).ok fun o t ho hs => AR.pass_up h.ok hc.r_inn hc.r_thing o t ho hs).2 e.symm
 refine ⟨h1.symm, fun c hcc => ?_⟩
 exact AR.pass_no h.ok hc.r_inn hc.r_thing (fun o t ho hs => by rw [← h1] at hs; exact hs) c ((mem_conPR p c).2 hcc)
end Go.Proofs.Ytkhfddodmjnecaa

set_option linter.all false
namespace Go.Proofs.Ytkhfddodmjnecaa
open Go.ChangeShapes Go.WideShapes Go.ChangeAt Go.RowKit
set_option maxHeartbeats 4000000
set_option maxRecDepth 100000
set_option linter.unusedVariables false

structure OfB (w w3 wr : World) (T : Nat) (l : List Bool) : Prop where
 h3 : RowB wr (w.heap.size + 1 + 1 + 1) T T l
 h4 : wr.heap[w.heap.size + 1 + 1 + 1 + 1]? = some (.cells #[.slice none 0 0, .slice (some ⟨w.heap.size + 1 + 1 + 1, 0, none⟩) T T] 47)
 hz : w3.heap.size = w.heap.size + 1 + 1 + 1
 below : Below w3.heap.size w3 wr
theorem OfB.set {w w3 wr : World} {T : Nat} {l : List Bool} (h : OfB w w3 wr T l) (t : Nat) : OfB w w3 (wr.setCell ⟨w.heap.size + 1 + 1 + 1, t, none⟩ (.bool true)) T (l.set t true) :=
 ⟨OwnB.set h.h3 t true, (Below.heap_setCell _ ⟨_, t, none⟩ _ _ (by dsimp only; omega)).trans h.h4, h.hz, h.below.setCell (p := ⟨w.heap.size + 1 + 1 + 1, t, none⟩) (by dsimp only; have := h.hz; omega) _⟩
theorem OfB.al {w w3 wr : World} {T : Nat} {l : List Bool} (h : OfB w w3 wr T l) (hl : l.length = T) : AlM w3 wr ⟨w.heap.size + 1 + 1 + 1 + 1, .slice none 0 0, [], (w.heap.size + 1 + 1 + 1, T), T, 0⟩ ⟨[], l⟩ :=
 ⟨by dsimp only; have := h.hz; omega, h.h4, World.ownsRow_nil _ _ _ _, rfl, fun r hr => absurd hr (Nat.not_lt_zero r), h.h3, ⟨rfl, fun l' h' => absurd h' List.not_mem_nil, hl⟩, h.below⟩
theorem AlM.base {w0 w w' : World} {k : AlK} {x : AR} (h : AlM w0 w' k x) (hb : Below w.heap.size w w0) : AlM w w' k x :=
 ⟨Nat.le_trans hb.size h.bx, h.hv, h.tab.base hb.size, h.rl, h.row, h.out, h.ok, hb.trans (h.below.mono hb.size)⟩
/-- another box of the same kind is written -/
theorem AlM.other {w0 w : World} {k : AlK} {x : AR} (h : AlM w0 w k x) {b i : Nat} (v : Value) (hb : w0.heap.size ≤ b) (hne : k.bx ≠ b) {cc : Array Value} (hh : w.heap[b]? = some (.cells cc 47)) : AlM w0 (w.setCell ⟨b, i, none⟩ v) k x := by
 have hrow : ∀ {g n c : Nat} {l : List Bool}, RowB w g n c l → b ≠ g := fun hr e => by
  obtain ⟨cur, h2⟩ := hr.heap
  rw [e, h2] at hh
  simp at hh
 refine ⟨h.bx, (Below.heap_setCell w ⟨b, i, none⟩ v k.bx hne).trans h.hv, h.tab.set_other _ ?_, h.rl, fun r hr => (h.row r hr).set_other _ (hrow (h.row r hr)), h.out.set_other _ (hrow h.out), h.ok, ?_⟩
 ·intro e
  obtain ⟨cur, h2⟩ := h.tab.heap e
  rw [h2] at hh
  simp at hh
 ·exact ⟨h.below.os, h.below.tape, h.below.output, by simpa [World.setCell] using h.below.size, fun j hj => (Below.heap_setCell w ⟨b, i, none⟩ _ j (by show j ≠ b; omega)).trans (h.below.block j hj)⟩
theorem rowT_form {w : World} {B n sz : Nat} {e : TypeId} {v : Value} {xs : List Value} (h : w.ownsRow B e sz v n xs) : ∃ a c, v = .slice a n c := by
 obtain ⟨-, ⟨rfl, rfl⟩ | ⟨g, cap, cur, rfl, -⟩⟩ := h
 ·exact ⟨_, _, rfl⟩
 ·exact ⟨_, _, rfl⟩
theorem set2_heap {w : World} {b : Nat} {x0 x1 : Value} {t : TypeId} (h : w.heap[b]? = some (.cells #[x0, x1] t)) (u v : Value) : ((w.setCell ⟨b, 0, none⟩ u).setCell ⟨b, 1, none⟩ v).heap[b]? = some (.cells #[u, v] t) := heap_setCell_same _ _ 1 _ _ _ (heap_setCell_same _ _ 0 _ _ _ h)
/-- the loops' state: the struct stands, the procedure's box too -/
structure OfW (w w3 wr : World) (T n : Nat) (vr : Value) (x : AR) : Prop where
 al : ∃ rs ro, AlM w3 wr ⟨w.heap.size + 1 + 1 + 1 + 1, vr, rs, ro, T, n⟩ x
theorem OfW.below {w w3 wr : World} {T n : Nat} {vr : Value} {x : AR} (h : OfW w w3 wr T n vr x) : Below w3.heap.size w3 wr := by
 obtain ⟨rs, ro, h⟩ := h.al
 exact h.below
theorem OfW.lt {w w3 wr : World} {T n : Nat} {vr : Value} {x : AR} (h : OfW w w3 wr T n vr x) : w.heap.size + 1 + 1 + 1 + 1 < wr.heap.size := by
 obtain ⟨rs, ro, h⟩ := h.al
 exact h.lt
theorem OfW.grow {w w3 wr w' : World} {T n : Nat} {vr : Value} {x : AR} (h : OfW w w3 wr T n vr x) (hb : Below wr.heap.size wr w') : OfW w w3 w' T n vr x := by
 obtain ⟨rs, ro, h⟩ := h.al
 exact ⟨rs, ro, h.grow hb⟩

end Go.Proofs.Ytkhfddodmjnecaa

set_option linter.all false
namespace Go.Proofs.Ytkhfddodmjnecaa
open Go Go.RowKit

theorem wide_fn (f : FuncId) : Fence.wide.fn f = True := rfl
theorem wide_depth : Fence.wide.depth.isSome = false := rfl
theorem wideR_fn (l : Nat) (f : FuncId) : (Fence.wide.inRound l).fn f = True := rfl
theorem wideR_depth (l : Nat) : (Fence.wide.inRound l).depth.isSome = false := rfl
attribute [go_sem] wide_fn wide_depth wideR_fn wideR_depth
section
variable {P : Program} {ops : Array Oper} {Q : Act → World → Prop} {S : Nat → Prop}
end

end Go.Proofs.Ytkhfddodmjnecaa

set_option linter.all false
namespace Go.Proofs.Ytkhfddodmjnecaa
open Go.ChangeShapes Go.WideShapes Go.ChangeAt Go.RowKit
set_option maxHeartbeats 4000000
set_option maxRecDepth 100000
attribute [local go_sem] Oper.semAt_some

/-- what a round is handed: the place of the instruction, and the row of marks: its block and how many it may hold -/
structure EX where
 i : Nat
 g : Nat
 c : Nat
/-- what the iterator turns between two rounds -/
def StE (H : Nat) (s : List EX) (A B : World) : Prop :=
 match s with
 | [] => Below A.heap.size A B
 | x :: _ => H ≤ x.g ∧ But x.g A B
/-- what a round keeps -/
structure KpE (W0 : World) (x : EX) (A B : World) : Prop where
 below : Below W0.heap.size A B
 row : B.heap[x.g]? = A.heap[x.g]?
/-- what a round may build on -/
structure PrE (W0 : World) (H : Nat) (L : List In) (lo : List Bool) (R : Nat) (pre : List EX) (x : EX) (W : World) : Prop where
 len : pre.length < L.length
 i : x.i = L.length - 1 - pre.length
 g : H ≤ x.g
 row : RowB W x.g R x.c (backK lo (L.drop (x.i + 1)))
 same : ∀ y ∈ pre, y.g = x.g
 below : Below W0.heap.size W0 W
theorem RowB.of_block {w w' : World} {g n c : Nat} {l : List Bool} (h : RowB w g n c l) (e : w'.heap[g]? = w.heap[g]?) : RowB w' g n c l := by
 obtain ⟨h1, h2 | ⟨g', cap, cur, h3, h4, h5, r⟩⟩ := h
 ·exact ⟨h1, .inl h2⟩
 ·have h3' := h3
  simp only [Value.slice.injEq, Option.some.injEq, Addr.mk.injEq] at h3'
  exact ⟨h1, .inr ⟨g', cap, cur, h3, h4, by rw [← h3'.1.1, e, h3'.1.1]; exact h5, r⟩⟩
theorem below_put {n : Nat} (W : World) {l : Nat} (o : Obj) (h : n ≤ l) : Below n W (W.putObj l o) :=
 ⟨rfl, rfl, rfl, by simp, fun k hk => World.putObj_heap_other (by omega)⟩
end Go.Proofs.Ytkhfddodmjnecaa

set_option linter.all false
namespace Go.Proofs.Ytkhfddodmjnecaa
open Go.ChangeShapes Go.WideShapes Go.ChangeAt Go.RowKit
set_option maxHeartbeats 4000000
set_option maxRecDepth 100000
set_option linter.unusedVariables false

/-- the three boxes of Each -/
structure BnE (w : World) (k : Int) (p : Pr) (nm : ByteArray) (vo vb o : Value) (w' : World) : Prop where
 b0 : w'.heap[w.heap.size]? = some (.cells #[.string nm, .bool p.void, .int .i64 p.params, .int .i64 p.regs, vo, vb] 32)
 b1 : w'.heap[w.heap.size + 1]? = some (.cells #[.int .i64 k] 3)
 b2 : w'.heap[w.heap.size + 2]? = some (.cells #[o] 45)
 below : Below w.heap.size w w'
theorem BnE.new (w : World) (k : Int) (p : Pr) (nm : ByteArray) (vo vb o : Value) : BnE w k p nm vo vb o (((w.alloc (.cells #[.string nm, .bool p.void, .int .i64 p.params, .int .i64 p.regs, vo, vb] 32)).alloc (.cells #[.int .i64 k] 3)).alloc (.cells #[o] 45)) := by
 have b0 := heap_alloc_new w (.cells #[.string nm, .bool p.void, .int .i64 p.params, .int .i64 p.regs, vo, vb] 32)
 have b1 := heap_alloc_new (w.alloc (.cells #[.string nm, .bool p.void, .int .i64 p.params, .int .i64 p.regs, vo, vb] 32)) (.cells #[.int .i64 k] 3)
 have b2 := heap_alloc_new ((w.alloc (.cells #[.string nm, .bool p.void, .int .i64 p.params, .int .i64 p.regs, vo, vb] 32)).alloc (.cells #[.int .i64 k] 3)) (.cells #[o] 45)
 simp only [World.size_alloc] at b1 b2
 exact ⟨((below_alloc _ _).block _ (by simp; try omega)).trans (((below_alloc _ _).block _ (by simp; try omega)).trans b0), ((below_alloc _ _).block _ (by simp; try omega)).trans b1, b2, ((below_alloc w _).alloc (by simp; try omega) _).alloc (by simp; try omega) _⟩
theorem StE.rest {H : Nat} {s : List EX} {A B : World} (h : StE H s A B) : B.os = A.os ∧ B.tape = A.tape ∧ B.output = A.output ∧ A.heap.size ≤ B.heap.size := by
 cases s with
 | nil => exact ⟨Below.os h, Below.tape h, Below.output h, Below.size h⟩
 | cons x l => exact ⟨h.2.os, h.2.tape, h.2.output, h.2.size⟩
theorem KpE.trans {W0 : World} {x : EX} {A B C : World} (h : KpE W0 x A B) (k : KpE W0 x B C) : KpE W0 x A C := ⟨h.below.trans k.below, k.row.trans h.row⟩
theorem KpE.put {W0 : World} {x : EX} (A : World) {l : Nat} (o : Obj) (h : W0.heap.size ≤ l) (hx : x.g ≠ l) : KpE W0 x A (A.putObj l o) := ⟨below_put A o h, World.putObj_heap_other hx⟩
theorem PrE.put {W0 : World} {H : Nat} {L : List In} {lo : List Bool} {R : Nat} {pre : List EX} {x : EX} {W : World} {l : Nat} (o : Obj) (h : PrE W0 H L lo R pre x W) (hl : W0.heap.size ≤ l) (hH : l < H) : PrE W0 H L lo R pre x (W.putObj l o) :=
 ⟨h.len, h.i, h.g, h.row.of_block (World.putObj_heap_other (by have := h.g; omega)), h.same, h.below.trans (below_put W o hl)⟩
end Go.Proofs.Ytkhfddodmjnecaa

set_option linter.all false
namespace Go.Proofs.Ytkhfddodmjnecaa
open Go.ChangeShapes Go.WideShapes Go.ChangeAt Go.RowKit
set_option maxHeartbeats 4000000
set_option maxRecDepth 100000
set_option linter.unusedVariables false

end Go.Proofs.Ytkhfddodmjnecaa

set_option linter.all false
namespace Go.Proofs.Ytkhfddodmjnecaa
open Go.ChangeShapes Go.WideShapes Go.ChangeAt Go.RowKit
set_option maxHeartbeats 4000000
set_option maxRecDepth 100000
set_option linter.unusedVariables false

end Go.Proofs.Ytkhfddodmjnecaa

set_option linter.all false
namespace Go.Proofs.Ytkhfddodmjnecaa
open Go.ChangeShapes Go.WideShapes Go.ChangeAt Go.RowKit
set_option maxHeartbeats 4000000
set_option maxRecDepth 100000
set_option linter.unusedVariables false

end Go.Proofs.Ytkhfddodmjnecaa

set_option linter.all false
namespace Go.Proofs.Ytkhfddodmjnecaa
open Go.ChangeShapes Go.WideShapes Go.ChangeAt Go.RowKit
set_option maxHeartbeats 1000000
set_option linter.unusedVariables false

end Go.Proofs.Ytkhfddodmjnecaa

set_option linter.all false
namespace Go.Proofs.Ytkhfddodmjnecaa
open Go.ChangeShapes Go.WideShapes Go.ChangeAt Go.RowKit
set_option maxHeartbeats 4000000
set_option maxRecDepth 100000
set_option linter.unusedVariables false

def cB (c : In → List Con) (b : Bk) : List Con := b.ins.flatMap c ++ conE b
/-- what an answer and a view are behind some instructions -/
structure EaS (w0 w : World) (k : VwK) (x : AS) (sp : List Sp) (f : List Sp → In → List Sp) (l : List Con) (li : List In) (wr : World) (b : Bool) : Prop where
 b : b = (x.pass l).2
 v : VwM w0 wr k (x.pass l).1 (li.foldl f sp)
 k : KpW k w wr
theorem EaS.step {w0 w wr w' : World} {k : VwK} {x : AS} {sp : List Sp} {f : List Sp → In → List Sp} {l c : List Con} {li : List In} {i : List In} {b : Bool} (h : EaS w0 w k x sp f l li wr b) (hv : VwM w0 w' k ((x.pass l).1.pass c).1 (i.foldl f (li.foldl f sp))) (hk : KpW k wr w') : EaS w0 w k x sp f (l ++ c) (li ++ i) w' (((x.pass l).1.pass c).2 || b) :=
 ⟨by rw [AS.pass_append, h.b], by rw [AS.pass_append, List.foldl_append]; exact hv, h.k.trans hk⟩
theorem EaS.grow {w0 w wr w' : World} {k : VwK} {x : AS} {sp : List Sp} {f : List Sp → In → List Sp} {l : List Con} {li : List In} {b : Bool} (h : EaS w0 w k x sp f l li wr b) (hb : Below wr.heap.size wr w') : EaS w0 w k x sp f l li w' b :=
 ⟨h.b, h.v.grow hb, h.k.trans (KpW.of_below hb)⟩
end Go.Proofs.Ytkhfddodmjnecaa

set_option linter.all false
namespace Go.Proofs.Ytkhfddodmjnecaa
set_option linter.unusedVariables false

theorem AS.End.start (p : Pr) (T : Nat) : (AS.start p T).End p T := ⟨start_len p T, fun _ _ h => h, fun S _ h => h⟩
theorem AS.End.pass {p : Pr} {T : Nat} {x : AS} {l : List Con} (hx : x.End p T) (hl : ∀ c ∈ l, c ∈ conP p) (hok : ∀ c ∈ conP p, c.inn p.regs.toNat) : (x.pass l).1.End p T := by
 have hi : ∀ c ∈ l, c.inn x.regs.length := fun c hc => by rw [hx.len]; exact hok c (hl c hc)
 refine ⟨by rw [AS.pass_len]; exact hx.len, fun o t h => AS.pass_up hi o t (hx.up o t h), fun S hS h0 => AS.pass_in hi (fun c hc => hS c (hl c hc)) (hx.lo S hS h0)⟩
end Go.Proofs.Ytkhfddodmjnecaa

set_option linter.all false
namespace Go.Proofs.Ytkhfddodmjnecaa
open Go.ChangeShapes Go.WideShapes Go.ChangeAt Go.RowKit
set_option maxHeartbeats 4000000
set_option maxRecDepth 100000
set_option linter.unusedVariables false

end Go.Proofs.Ytkhfddodmjnecaa

set_option linter.all false
namespace Go.Proofs.Ytkhfddodmjnecaa
open Go.ChangeShapes Go.WideShapes Go.ChangeAt Go.RowKit
set_option maxHeartbeats 4000000
set_option maxRecDepth 100000
set_option linter.unusedVariables false

end Go.Proofs.Ytkhfddodmjnecaa

set_option linter.all false
namespace Go.Proofs.Ytkhfddodmjnecaa
open Go.ChangeShapes Go.WideShapes Go.ChangeAt Go.RowKit
set_option maxHeartbeats 4000000
set_option maxRecDepth 100000
set_option linter.unusedVariables false

theorem cl2 {w : World} {b : Nat} {t : TypeId} {c0 c1 : Value} (h : w.heap[b]? = some (.cells #[c0, c1] t (0, 0))) :
  w.cell? ⟨b, 0, none⟩ = some c0 ∧ w.cell? ⟨b, 1, none⟩ = some c1 ∧ b < w.heap.size := ⟨cell_of_heap h 0, cell_of_heap h 1, (Array.getElem?_eq_some_iff.1 h).1⟩
theorem cl3 {w : World} {b : Nat} {t : TypeId} {c0 c1 c2 : Value} (h : w.heap[b]? = some (.cells #[c0, c1, c2] t (0, 0))) :
  w.cell? ⟨b, 0, none⟩ = some c0 ∧ w.cell? ⟨b, 1, none⟩ = some c1 ∧ w.cell? ⟨b, 2, none⟩ = some c2 ∧ b < w.heap.size := ⟨cell_of_heap h 0, cell_of_heap h 1, cell_of_heap h 2, (Array.getElem?_eq_some_iff.1 h).1⟩
end Go.Proofs.Ytkhfddodmjnecaa
