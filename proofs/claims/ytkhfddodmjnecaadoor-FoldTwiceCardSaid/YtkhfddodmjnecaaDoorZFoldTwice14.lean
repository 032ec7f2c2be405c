/-
 Instructions, blocks, procedures and modules written out in the text: how they lie in memory.; Which numbers registers have: rows as plain data and in memory; what a register has (row.at).; The document's answer for alias: rows of bools that are made anew (join, with).; The document's answer for alias: the struct All in memory while it is reckoned.; The document's answer for alias: how many things all lists have.; The document's answer for alias: what an instruction adds.; The document's answer for alias: what a call adds.; The document's answer for alias: instructions that add nothing; any instruction.; The document's exact places: the walk of Exact.; The document's Exact, whatever the register.; The document's answer for alias: Of.; The document's answer for alias, plain: when the count stays nothing was added.; What stands in procedures that are right; rows of numbers, one by one.; A call's frame in memory beside the runner; what an instruction leaves as it was.; Contracts of (*irrun.runner).ins, operation by operation (but calls).; Contracts of (*irrun.runner).ins: loads, stores, places, what is put out and taken.; Contracts of (*irrun.runner).ins: places of objects and globals, what is put out and taken, marks.; A call within a run: what it must do, against the machine of single steps; the contract of into.; The contract of (*irrun.runner).into, given what calls with less fuel do.; The contract of (*irrun.runner).ins: any instruction that is right.
-/
import Derived.Test.YtkhfddodmjnecaaDoorZFoldTwice00
import Derived.Test.YtkhfddodmjnecaaDoorZFoldTwice10
import Derived.Test.YtkhfddodmjnecaaDoorZFoldTwice13
import Derived.Test.YtkhfddodmjnecaaDoorZFoldTwice01
import Derived.Test.YtkhfddodmjnecaaDoorZFoldTwice07
import Derived.Test.YtkhfddodmjnecaaDoorZFoldTwice03
import Derived.Test.YtkhfddodmjnecaaDoorZFoldTwice08
import Derived.Test.YtkhfddodmjnecaaDoorZFoldTwice09
import Derived.IntWalk

set_option linter.all false
namespace Go.Proofs.YtkhfddodmjnecaaDoor
open Go.ChangeShapes Go.WideShapes Go.ChangeAt Go.RowKit
set_option maxHeartbeats 1000000
set_option linter.unusedVariables false
set_option maxRecDepth 20000

def rowOf' (b n : Nat) : Value := .slice (some ⟨b, 0, none⟩) n n
def inCells (x : In × Value) : List Value := [.int .i64 x.1.op, .int .i64 x.1.d, .int .i64 x.1.a, .int .i64 x.1.b, .int .i64 x.1.fn, .int .i64 x.1.obj, .int .i64 x.1.off, .int .i64 x.1.size, .int .u32 x.1.num, x.2, .bool x.1.log]
def bkCells (x : Bk × Value) : List Value := [x.2, .int .i64 x.1.fin, .int .i64 x.1.a, .int .i64 x.1.to, .int .i64 x.1.els]
theorem RdW.lit {w : World} {g : Nat} {e : TypeId} (L : List Int) (hp : L.length ≤ 1000000) (h : w.heap[g]? = some (.cells (L.map (Value.int .u32)).toArray e (0, 0))) : RdW w (rowOf' g L.length) L := by
 refine own_rows (B := 0) (e := e) 0 ⟨by simp, .inr ⟨g, L.length, _, rfl, Nat.zero_le _, h, Nat.le_refl _, by unfold maxLen; omega, by simp, ?_⟩⟩
 rw [Nat.mul_one, List.toList_toArray]; exact List.take_of_length_le (by simp)
theorem RdI.lit {w : World} {g : Nat} {e : TypeId} (L : List Int) (hp : L.length ≤ 1000000) (h : w.heap[g]? = some (.cells (L.map (Value.int .i64)).toArray e (0, 0))) : RdI w (rowOf' g L.length) L := by
 refine own_rows (B := 0) (e := e) 0 ⟨by simp, .inr ⟨g, L.length, _, rfl, Nat.zero_le _, h, Nat.le_refl _, by unfold maxLen; omega, by simp, ?_⟩⟩
 rw [Nat.mul_one, List.toList_toArray]; exact List.take_of_length_le (by simp)
theorem heap_of_alloc (w : World) (c : Array Value) (t : TypeId) {W0 : World} (h : W0 = w.alloc (.cells c t)) : W0.heap[w.heap.size]? = some (.cells c t (0, 0)) := by subst h; exact heap_alloc_new w _
/-- blocks made one behind the other -/
def allocs (w : World) (l : List Obj) : World := l.foldl World.alloc w
theorem allocs_below : ∀ (l : List Obj) (w : World), Below w.heap.size w (allocs w l)
 | [], w => Below.refl _ _
 | o :: l, w => ((Below.refl _ _).alloc (Nat.le_refl _) o).trans ((allocs_below l (w.alloc o)).mono (by simp))
theorem allocs_size : ∀ (l : List Obj) (w : World), (allocs w l).heap.size = w.heap.size + l.length
 | [], w => rfl
 | o :: l, w => by
  show (allocs (w.alloc o) l).heap.size = _
  rw [allocs_size l (w.alloc o)]; simp; omega
theorem allocs_heap : ∀ (l : List Obj) (w : World) (i : Nat), i < l.length → (allocs w l).heap[w.heap.size + i]? = l[i]?
 | [], _, _, h => absurd h (Nat.not_lt_zero _)
 | o :: l, w, 0, _ => by
  show (allocs (w.alloc o) l).heap[w.heap.size]? = some o
  rw [(allocs_below l (w.alloc o)).block w.heap.size (by simp)]
  exact heap_alloc_new w o
 | o :: l, w, i + 1, h => by
  have := allocs_heap l (w.alloc o) i (by simpa using h)
  show (allocs (w.alloc o) l).heap[w.heap.size + (i + 1)]? = l[i]?
  rw [← this]
  congr 1
  simp; omega
end Go.Proofs.YtkhfddodmjnecaaDoor

set_option linter.all false
namespace Go.Proofs.YtkhfddodmjnecaaDoor
open Go.ChangeShapes Go.WideShapes Go.ChangeAt Go.RowKit
set_option maxHeartbeats 4000000
set_option maxRecDepth 100000
set_option linter.unusedVariables false

/-- a register has a number, or it is not known; of all registers -/
abbrev Ro := List (Option Int)
def cAt (t : Ro) (r : Int) : Option Int := if 0 ≤ r ∧ r < (t.length : Int) then t.getD r.toNat none else none
def numC (t : Ro) (i : In) : Option Int :=
 if i.op = 1 then some i.num else if i.op = 2 then cAt t i.a
 else if i.op = 4 then (cAt t i.a).map fun x => fnF i.fn x 0
 else if i.op = 3 then (cAt t i.a).bind fun x => (cAt t i.b).map fun y => fnF i.fn x y
 else none
def behC (t : Ro) (i : In) : Ro := if defI i = -1 then t else t.set (defI i).toNat (numC t i)
def thrC (t : Ro) (l : List In) : Ro := l.foldl behC t
def meetC (a b : Ro) : Ro := (List.range a.length).map fun i => if a.getD i none = b.getD i none then a.getD i none else none
/-- numbers are words -/
def RoOk (t : Ro) : Prop := ∀ r x, t.getD r none = some x → 0 ≤ x ∧ x < 4294967296
theorem RoOk.at {t : Ro} (h : RoOk t) (r x : Int) (e : cAt t r = some x) : 0 ≤ x ∧ x < 4294967296 := by
 unfold cAt at e
 split at e
 ·exact h _ _ e
 ·cases e
theorem behC_len (t : Ro) (i : In) : (behC t i).length = t.length := by unfold behC; split <;> simp
theorem thrC_len (l : List In) : ∀ t : Ro, (thrC t l).length = t.length := by
 induction l with
 | nil => intro t; rfl
 | cons i l ih => intro t; show (thrC (behC t i) l).length = _; rw [ih, behC_len]
theorem numC_ok {t : Ro} (h : RoOk t) {i : In} (hn : 0 ≤ i.num ∧ i.num < 4294967296) (x : Int) (e : numC t i = some x) : 0 ≤ x ∧ x < 4294967296 := by
 unfold numC at e
 split at e
 ·cases e; exact hn
 ·split at e
  ·exact h.at _ _ e
  ·split at e
   ·cases ha : cAt t i.a with
    | none => rw [ha] at e; cases e
    | some y =>
     rw [ha] at e
     simp only [Option.map_some, Option.some.injEq] at e
     rw [← e]
     have := h.at _ _ ha
     exact fnF_bd _ _ _ this.1 this.2 (by decide) (by decide)
   ·split at e
    ·cases ha : cAt t i.a with
     | none => rw [ha] at e; cases e
     | some y =>
      cases hb : cAt t i.b with
      | none => rw [ha, hb] at e; cases e
      | some z =>
       rw [ha, hb] at e
       simp only [Option.bind_some, Option.map_some, Option.some.injEq] at e
       rw [← e]
       have h1 := h.at _ _ ha
       have h2 := h.at _ _ hb
       exact fnF_bd _ _ _ h1.1 h1.2 h2.1 h2.2
    ·cases e
theorem behC_ok {t : Ro} (h : RoOk t) {i : In} (hn : 0 ≤ i.num ∧ i.num < 4294967296) : RoOk (behC t i) := by
 unfold behC
 split
 ·exact h
 ·intro r x e
  by_cases er : (defI i).toNat = r
  ·subst er
   by_cases hl : (defI i).toNat < t.length
   ·simp only [List.getD, List.getElem?_set, hl, if_true, Option.getD_some] at e
    exact numC_ok h hn x e
   ·have : (t.set (defI i).toNat (numC t i))[(defI i).toNat]? = none := List.getElem?_eq_none (by simp; omega)
    rw [List.getD_eq_getElem?_getD, this] at e
    cases e
  ·simp only [List.getD, List.getElem?_set, if_neg er] at e
   exact h r x (by simpa [List.getD] using e)

def cellC (o : Option Int) : List Value := [.bool o.isSome, .int .u32 (o.getD 0)]
def cellV (o : Option Int) : Value := .agg #[.bool o.isSome, .int .u32 (o.getD 0)]
/-- a row in memory -/
def RowQ (w : World) (g c : Nat) (t : Ro) : Prop := w.ownsRow 0 54 2 (.slice (some ⟨g, 0, none⟩) t.length c) t.length (t.flatMap cellC)
theorem RowQ.below {w w' : World} {g c : Nat} {t : Ro} (h : RowQ w g c t) (hb : Below w.heap.size w w') : RowQ w' g c t := own_below h hb
theorem RowQ.at {w : World} {g c : Nat} {t : Ro} (h : RowQ w g c t) : t.length ≤ c ∧ c ≤ maxLen ∧ (∀ r, r < t.length → w.cell? ⟨g, r * 2, none⟩ = some (.bool (t.getD r none).isSome) ∧ w.cell? ⟨g, r * 2 + 1, none⟩ = some (.int .u32 ((t.getD r none).getD 0))) ∧ (0 < t.length → (∀ o, w.frozen? ⟨g, o, none⟩ = false) ∧ g < w.heap.size) := by
 have h' := h
 unfold RowQ at h
 obtain ⟨h1, ⟨h2, h3⟩ | ⟨g', cap, cur, h2, hb, hg, hn, hc, hcs, ht⟩⟩ := h
 ·simp at h2
 ·simp only [Value.slice.injEq, Option.some.injEq, Addr.mk.injEq, and_true, true_and] at h2
  obtain ⟨rfl, rfl⟩ := h2
  refine ⟨hn, hc, fun r hr => ?_, fun _ => ⟨fun o => frozen_of_heap hg o, (Array.getElem?_eq_some_iff.1 hg).1⟩⟩
  have f0 := flat_at cellC 2 (fun _ => rfl) t r 0 hr (by decide)
  have f1 := flat_at cellC 2 (fun _ => rfl) t r 1 hr (by decide)
  have hd : t.getD r default = t.getD r none := rfl
  rw [hd] at f0 f1
  exact ⟨(World.ownsRow.cellAt h' (r * 2 + 0) (by omega)).trans f0, (World.ownsRow.cellAt h' (r * 2 + 1) (by omega)).trans f1⟩
/-- a row as it can be read -/
structure RdRo (w : World) (g c : Nat) (t : Ro) : Prop where
 le : t.length ≤ c
 mx : c ≤ maxLen
 cell : ∀ r, r < t.length → w.cell? ⟨g, r * 2, none⟩ = some (.bool (t.getD r none).isSome) ∧ w.cell? ⟨g, r * 2 + 1, none⟩ = some (.int .u32 ((t.getD r none).getD 0))
theorem RdRo.ext {w w' : World} {g c : Nat} {t : Ro} (h : RdRo w g c t) (he : Ext w w') : RdRo w' g c t := ⟨h.le, h.mx, fun r hr => ⟨he _ _ (h.cell r hr).1, he _ _ (h.cell r hr).2⟩⟩
theorem RowQ.rd {w : World} {g c : Nat} {t : Ro} (h : RowQ w g c t) : RdRo w g c t := ⟨h.at.1, h.at.2.1, h.at.2.2.1⟩
theorem atC_c (g c : Nat) (t : Ro) (r : Int) (w : World) (h : RdRo w g c t) :
  Calls Tryd.prog 17 #[.slice (some ⟨g, 0, none⟩) t.length c, .int .i64 r] w fun e w' => e = .returned (cellV (cAt t r)) ∧ Below w.heap.size w w' := by
 obtain ⟨h1, h2, h3⟩ := h
 unfold maxLen at h2
 by_cases hr : 0 ≤ r ∧ r < (t.length : Int)
 ·obtain ⟨q, rfl⟩ := Int.eq_ofNat_of_zero_le hr.1
  have hq : q < t.length := by omega
  obtain ⟨c0, c1⟩ := h3 q hq
  have HC : Hid (cAt t (q : Int) = t.getD q none) := by
   show _ = _
   unfold cAt; rw [if_pos hr]; rfl
  have lg := World.block_lt_of_cell? _ _ c0
  have g1 : decide ((q : Int) < 0) = false := decide_eq_false (by omega)
  have g2 : decide ((q : Int) ≥ (t.length : Int)) = false := decide_eq_false (by omega)
  have g3 : decide ((t.length : Int) ≤ (q : Int)) = false := decide_eq_false (by omega)
  have g4 : decide (t.length ≤ q) = false := decide_eq_false (by omega)
  have g5 : decide (q < t.length) = true := decide_eq_true hq
  have g6 : decide ((q : Int) < (t.length : Int)) = true := decide_eq_true (by omega)
  rw [HC.out]
  clear HC h3 hr
  generalize t.getD q none = o at *
  generalize t.length = n at *
  obtain ⟨S, hS⟩ : ∃ S, o.isSome = S := ⟨_, rfl⟩
  obtain ⟨X, hX⟩ : ∃ X, o.getD 0 = X := ⟨_, rfl⟩
  unfold cellV
  rw [hS] at c0 ⊢
  rw [hX] at c1 ⊢
  clear hS hX
  go_enter Tryd.func17, Tryd.ntmps17
  go_wp2_with fail
  refine bodyPost_ret (v := .agg #[.bool S, .int .u32 X]) (by simp [results, Tryd.results17, go_sem]) rfl ?_
  exact ⟨rfl, below_alloc _ _⟩
 ·have HC : Hid (cAt t r = none) := by
   show _ = _
   unfold cAt; rw [if_neg hr]
  rw [HC.out]
  clear HC h3
  unfold cellV
  generalize t.length = n at *
  by_cases h0 : r < 0
  ·have g1 : decide (r < 0) = true := decide_eq_true h0
   go_enter Tryd.func17, Tryd.ntmps17
   go_wp2_with fail
   refine bodyPost_ret (v := .agg #[.bool false, .int .u32 0]) (by simp [results, Tryd.results17, go_sem]) rfl ?_
   exact ⟨rfl, below_alloc _ _⟩
  ·have g1 : decide (r < 0) = false := decide_eq_false h0
   have g2 : decide (r ≥ (n : Int)) = true := decide_eq_true (by omega)
   have g3 : decide ((n : Int) ≤ r) = true := decide_eq_true (by omega)
   go_enter Tryd.func17, Tryd.ntmps17
   go_wp2_with fail
   refine bodyPost_ret (v := .agg #[.bool false, .int .u32 0]) (by simp [results, Tryd.results17, go_sem]) rfl ?_
   exact ⟨rfl, below_alloc _ _⟩
end Go.Proofs.YtkhfddodmjnecaaDoor

set_option linter.all false
namespace Go.Proofs.YtkhfddodmjnecaaDoor
open Go.ChangeShapes Go.WideShapes Go.ChangeAt Go.RowKit
set_option maxHeartbeats 4000000
set_option maxRecDepth 100000
set_option linter.unusedVariables false

end Go.Proofs.YtkhfddodmjnecaaDoor

set_option linter.all false
namespace Go.Proofs.YtkhfddodmjnecaaDoor
open Go.ChangeShapes Go.WideShapes Go.ChangeAt Go.RowKit
set_option maxHeartbeats 4000000
set_option maxRecDepth 100000
set_option linter.unusedVariables false

end Go.Proofs.YtkhfddodmjnecaaDoor

set_option linter.all false
namespace Go.Proofs.YtkhfddodmjnecaaDoor
open Go.ChangeShapes Go.WideShapes Go.ChangeAt Go.RowKit
set_option maxHeartbeats 4000000
set_option maxRecDepth 100000
set_option linter.unusedVariables false

end Go.Proofs.YtkhfddodmjnecaaDoor

set_option linter.all false
namespace Go.Proofs.YtkhfddodmjnecaaDoor
open Go.ChangeShapes Go.WideShapes Go.ChangeAt Go.RowKit
set_option maxHeartbeats 4000000
set_option maxRecDepth 100000
set_option linter.unusedVariables false

end Go.Proofs.YtkhfddodmjnecaaDoor

set_option linter.all false
namespace Go.Proofs.YtkhfddodmjnecaaDoor
open Go.ChangeShapes Go.WideShapes Go.ChangeAt Go.RowKit
set_option maxHeartbeats 4000000
set_option maxRecDepth 100000
set_option linter.unusedVariables false

end Go.Proofs.YtkhfddodmjnecaaDoor

set_option linter.all false
namespace Go.Proofs.YtkhfddodmjnecaaDoor
open Go.ChangeShapes Go.WideShapes Go.ChangeAt Go.RowKit
set_option maxHeartbeats 4000000
set_option maxRecDepth 100000
set_option linter.unusedVariables false

end Go.Proofs.YtkhfddodmjnecaaDoor

set_option linter.all false
namespace Go.Proofs.YtkhfddodmjnecaaDoor
open Go.ChangeShapes Go.WideShapes Go.ChangeAt Go.RowKit
set_option maxHeartbeats 4000000
set_option maxRecDepth 100000
set_option linter.unusedVariables false

end Go.Proofs.YtkhfddodmjnecaaDoor

set_option linter.all false
namespace Go.Proofs.YtkhfddodmjnecaaDoor
open Go.ChangeShapes Go.WideShapes Go.ChangeAt Go.RowKit
set_option linter.unusedVariables false

end Go.Proofs.YtkhfddodmjnecaaDoor

set_option linter.all false
namespace Go.Proofs.YtkhfddodmjnecaaDoor
open Go.ChangeShapes Go.WideShapes Go.ChangeAt Go.RowKit
set_option maxHeartbeats 4000000
set_option maxRecDepth 100000
set_option linter.unusedVariables false

end Go.Proofs.YtkhfddodmjnecaaDoor

set_option linter.all false
namespace Go.Proofs.YtkhfddodmjnecaaDoor
set_option linter.unusedVariables false

end Go.Proofs.YtkhfddodmjnecaaDoor

set_option linter.all false
namespace Go.Proofs.YtkhfddodmjnecaaDoor
open Go Go.RowKit
set_option linter.unusedVariables false

end Go.Proofs.YtkhfddodmjnecaaDoor

set_option linter.all false
namespace Go.Proofs.YtkhfddodmjnecaaDoor
open Go.ChangeShapes Go.WideShapes Go.ChangeAt Go.RowKit
set_option maxHeartbeats 1000000
set_option linter.unusedVariables false
set_option maxRecDepth 20000

section
variable {k : RK} {p : Pr} {bf bg c : Nat} {nm : ByteArray} {vob vbl vat : Value} {low : Int} {w w' : World} {vo vo' : Value} {regs : List Int} {s s' : RS}
end
end Go.Proofs.YtkhfddodmjnecaaDoor

set_option linter.all false
namespace Go.Proofs.YtkhfddodmjnecaaDoor
open Go.ChangeShapes Go.WideShapes Go.ChangeAt Go.RowKit
set_option maxHeartbeats 2000000
set_option linter.unusedVariables false
set_option maxRecDepth 20000

section
variable {k : RK} {p : Pr} {bf bg c : Nat} {nm : ByteArray} {vob vbl vat : Value} {low : Int} {w w' : World} {vo vo' : Value} {regs : List Int} {s s' : RS}
end
end Go.Proofs.YtkhfddodmjnecaaDoor

set_option linter.all false
namespace Go.Proofs.YtkhfddodmjnecaaDoor
open Go.ChangeShapes Go.WideShapes Go.ChangeAt Go.RowKit
set_option maxHeartbeats 4000000
set_option linter.unusedVariables false
set_option maxRecDepth 20000

section
variable {k : RK} {p : Pr} {bf bg c : Nat} {nm : ByteArray} {vob vbl vat : Value} {low : Int} {w w' : World} {vo vo' : Value} {regs : List Int} {s s' : RS}
end
end Go.Proofs.YtkhfddodmjnecaaDoor

set_option linter.all false
namespace Go.Proofs.YtkhfddodmjnecaaDoor
open Go.ChangeShapes Go.WideShapes Go.ChangeAt Go.RowKit
set_option maxHeartbeats 4000000
set_option linter.unusedVariables false
set_option maxRecDepth 20000

section
variable {k : RK} {p : Pr} {bf bg c : Nat} {nm : ByteArray} {vob vbl vat : Value} {low : Int} {w w' : World} {vo vo' : Value} {regs : List Int} {s s' : RS}
end
end Go.Proofs.YtkhfddodmjnecaaDoor

set_option linter.all false
namespace Go.Proofs.YtkhfddodmjnecaaDoor
open Go.ChangeShapes Go.WideShapes Go.ChangeAt Go.RowKit
set_option maxHeartbeats 4000000
set_option linter.unusedVariables false
set_option maxRecDepth 20000

end Go.Proofs.YtkhfddodmjnecaaDoor

set_option linter.all false
namespace Go.Proofs.YtkhfddodmjnecaaDoor
open Go.ChangeShapes Go.WideShapes Go.ChangeAt Go.RowKit
set_option maxHeartbeats 4000000
set_option linter.unusedVariables false
set_option maxRecDepth 20000

section
variable {k : RK} {p : Pr} {bf bg c : Nat} {nm : ByteArray} {vob vbl vat : Value} {low : Int} {w w' : World} {vo vo' : Value} {regs : List Int} {s s' : RS}
end
end Go.Proofs.YtkhfddodmjnecaaDoor

set_option linter.all false
namespace Go.Proofs.YtkhfddodmjnecaaDoor
open Go.ChangeShapes Go.WideShapes Go.ChangeAt Go.RowKit
set_option maxHeartbeats 4000000
set_option linter.unusedVariables false
set_option maxRecDepth 20000

section
variable {k : RK} {p : Pr} {bf bg c : Nat} {nm : ByteArray} {vob vbl vat : Value} {low : Int} {w w' : World} {vo vo' : Value} {regs : List Int} {s s' : RS}
end
end Go.Proofs.YtkhfddodmjnecaaDoor
