/-
 Contracts of (*irrun.runner).ins, operation by operation (but calls).; Contracts of (*irrun.runner).ins: loads, stores, places, what is put out and taken.; Contracts of (*irrun.runner).ins: places of objects and globals, what is put out and taken, marks.; A call within a run: what it must do, against the machine of single steps; the contract of into.; What stands in procedures that are right; rows of numbers, one by one.; The contract of (*irrun.runner).into, given what calls with less fuel do.; The contract of (*irrun.runner).ins: any instruction that is right.
-/
import Derived.Test.YtobfpfjdkpaeiaaZHazardWrites19
import Derived.Test.YtobfpfjdkpaeiaaZHazardWrites14
import Derived.IntWalk
import Derived.Test.YtobfpfjdkpaeiaaZHazardWrites15
import Derived.Test.YtobfpfjdkpaeiaaZHazardWrites12

set_option linter.all false
namespace Go.Proofs.Ytobfpfjdkpaeiaa
open Go.ChangeShapes Go.WideShapes Go.ChangeAt Go.RowKit
set_option maxHeartbeats 2000000
set_option linter.unusedVariables false
set_option maxRecDepth 20000

section
variable {k : RK} {p : Pr} {bf bg c : Nat} {nm : ByteArray} {vob vbl vat : Value} {low : Int} {w w' : World} {vo vo' : Value} {regs : List Int} {s s' : RS}
end
end Go.Proofs.Ytobfpfjdkpaeiaa

set_option linter.all false
namespace Go.Proofs.Ytobfpfjdkpaeiaa
open Go.ChangeShapes Go.WideShapes Go.ChangeAt Go.RowKit
set_option maxHeartbeats 4000000
set_option linter.unusedVariables false
set_option maxRecDepth 20000

section
variable {k : RK} {p : Pr} {bf bg c : Nat} {nm : ByteArray} {vob vbl vat : Value} {low : Int} {w w' : World} {vo vo' : Value} {regs : List Int} {s s' : RS}
end
end Go.Proofs.Ytobfpfjdkpaeiaa

set_option linter.all false
namespace Go.Proofs.Ytobfpfjdkpaeiaa
open Go.ChangeShapes Go.WideShapes Go.ChangeAt Go.RowKit
set_option maxHeartbeats 4000000
set_option linter.unusedVariables false
set_option maxRecDepth 20000

section
variable {k : RK} {p : Pr} {bf bg c : Nat} {nm : ByteArray} {vob vbl vat : Value} {low : Int} {w w' : World} {vo vo' : Value} {regs : List Int} {s s' : RS}
end
end Go.Proofs.Ytobfpfjdkpaeiaa

set_option linter.all false
namespace Go.Proofs.Ytobfpfjdkpaeiaa
open Go.ChangeShapes Go.WideShapes Go.ChangeAt Go.RowKit
set_option maxHeartbeats 4000000
set_option linter.unusedVariables false
set_option maxRecDepth 20000

/-- a run's numbers are such as never leave their kinds -/
structure Gd (s : RS) : Prop where
 mem : MemOk s.mem
 i0 : 0 ≤ s.ins
 i1 : s.ins + s.fuel ≤ 10000000
 o1 : (s.out.length : Int) + s.fuel ≤ 10000000
 f0 : 0 ≤ s.fuel
 d0 : 0 ≤ s.deep
 d1 : s.deep ≤ 5000
theorem rg_words {regs : List Int} (h : ∀ x ∈ regs, 0 ≤ x ∧ x < 4294967296) (n : Int) : 0 ≤ rg regs n ∧ rg regs n < 4294967296 := by
 unfold rg
 by_cases hn : n.toNat < regs.length
 ·have : regs.getD n.toNat 0 ∈ regs := by simp [List.getD, hn]
  exact h _ this
 ·have : regs.getD n.toNat 0 = 0 := by simp [List.getD, Nat.le_of_not_lt hn]
  omega
theorem memOk_set {mem : List Int} (h : MemOk mem) (n : Nat) (x : Int) (hx : 0 ≤ x ∧ x < 256) : MemOk (mem.set n x) := by
 intro j
 rcases Nat.lt_or_ge j mem.length with hl | hl
 ·by_cases e : n = j
  ·subst e; simp [List.getD, hl, hx]
  ·have e3 : (mem.set n x).getD j 0 = mem.getD j 0 := by simp [List.getD, List.getElem?_set_ne e]
   rw [e3]; exact h j
 ·have : (mem.set n x).getD j 0 = 0 := by simp [List.getD, hl]
  omega
theorem memOk_store {mem : List Int} (h : MemOk mem) (n : Nat) (v : Int) : ∀ i, MemOk (storeP mem n v i)
 | 0 => h
 | i + 1 => memOk_set (memOk_store h n v i) _ _ ⟨Int.emod_nonneg _ (by decide), Int.emod_lt_of_pos _ (by decide)⟩
def GoodI (regs : List Int) (s : Oc) (o : Option (List Int × Oc)) : Prop := ∀ r, o = some r → MemOk r.2.mem ∧ s.ins ≤ r.2.ins ∧ r.2.ins ≤ s.ins + 1 ∧ r.2.out.length ≤ s.out.length + 1 ∧ r.1.length = regs.length
theorem good_ite {regs : List Int} {s : Oc} {q : Prop} [Decidable q] {a b : Option (List Int × Oc)} (h : GoodI regs s a) (h' : GoodI regs s b) : GoodI regs s (if q then a else b) := by split <;> assumption
theorem good_none {regs : List Int} {s : Oc} : GoodI regs s none := fun _ h => by cases h
theorem good_some {regs : List Int} {s : Oc} {x : List Int} {y : Oc} (h : MemOk y.mem ∧ s.ins ≤ y.ins ∧ y.ins ≤ s.ins + 1 ∧ y.out.length ≤ s.out.length + 1 ∧ x.length = regs.length) : GoodI regs s (some (x, y)) := fun _ h2 => by cases h2; exact h
/-- an instruction keeps a run's numbers in their bounds -/
theorem insM_good {m : Md} {inp : List Int} {p : Pr} {low : Int} {i : In} {regs : List Int} {s : Oc} (hm : MemOk s.mem) : GoodI regs s (insM m inp p low i regs s) := by
 unfold insM
 repeat' apply good_ite
 all_goals first
  | exact good_none
  | (apply good_some
     first
     | exact ⟨hm, Int.le_refl _, by omega, by omega, by simp⟩
     | exact ⟨memOk_store hm _ _ _, Int.le_refl _, by dsimp only; omega, by dsimp only; omega, by simp⟩
     | exact ⟨hm, Int.le_refl _, by dsimp only; omega, by simp, by simp⟩
     | exact ⟨hm, by dsimp only; omega, Int.le_refl _, by dsimp only; omega, by simp⟩)
end Go.Proofs.Ytobfpfjdkpaeiaa

set_option linter.all false
namespace Go.Proofs.Ytobfpfjdkpaeiaa
open Go Go.RowKit
set_option linter.unusedVariables false

structure Head (p : Pr) : Prop where
 p0 : 0 ≤ p.params
 p6 : p.params ≤ 6
 pr : p.params ≤ p.regs
 r8 : p.regs ≤ 8000
 ol : p.objs.length ≤ 400
 b1 : 1 ≤ p.blks.length
 b4 : p.blks.length ≤ 4000
 sl : p.objs.all slotF = true
theorem okP_head {m : Md} {p : Pr} (h : okP m p = true) : Head p := by
 unfold okP okHead at h
 simp only [Bool.and_eq_true, decide_eq_true_eq] at h
 obtain ⟨⟨h1, h2, h3, h4, h5, h6, h7, h8, h9⟩, -⟩ := h
 exact ⟨h1, h2, h3, h4, h5, h6, h7, h8⟩
theorem okP_blk {m : Md} {p : Pr} (h : okP m p = true) {b : Nat} (hb : b < p.blks.length) : okB m p (p.blks.getD b default) = true := by
 unfold okP at h
 simp only [Bool.and_eq_true] at h
 have h2 := h.2
 rw [List.all_eq_true] at h2
 exact h2 _ (by simp [List.getD, hb])
theorem okB_ins {m : Md} {p : Pr} {b : Bk} (h : okB m p b = true) {i : Nat} (hi : i < b.ins.length) : okI m p (b.ins.getD i default) = true := by
 unfold okB at h
 simp only [Bool.and_eq_true] at h
 have h2 := h.1
 rw [List.all_eq_true] at h2
 exact h2 _ (by simp [List.getD, hi])
theorem okB_end {m : Md} {p : Pr} {b : Bk} (h : okB m p b = true) : endF p b = true := by
 unfold okB at h
 simp only [Bool.and_eq_true] at h
 exact h.2
theorem RdI.at' {w : World} {a : Option Addr} {n c : Nat} {l : List Int} (h : RdI w (.slice a n c) l) : n = l.length ∧ ∀ k, k < l.length → ∃ b o, a = some ⟨b, o, none⟩ ∧ w.cell? ⟨b, o + k, none⟩ = some (.int .i64 (l.getD k 0)) := by
 obtain ⟨a', c', e, h1, h2, hc⟩ := h
 simp only [Value.slice.injEq] at e
 obtain ⟨rfl, rfl, rfl⟩ := e
 refine ⟨rfl, fun k hk => ?_⟩
 obtain ⟨b, o, rfl, h0⟩ := hc k hk
 exact ⟨b, o, rfl, by simpa using h0⟩
end Go.Proofs.Ytobfpfjdkpaeiaa

set_option linter.all false
namespace Go.Proofs.Ytobfpfjdkpaeiaa
open Go.ChangeShapes Go.WideShapes Go.ChangeAt Go.RowKit
set_option maxHeartbeats 4000000
set_option linter.unusedVariables false
set_option maxRecDepth 20000

section
variable {k : RK} {p : Pr} {bf bg c : Nat} {nm : ByteArray} {vob vbl vat : Value} {low : Int} {w w' : World} {vo vo' : Value} {regs : List Int} {s s' : RS}
end
end Go.Proofs.Ytobfpfjdkpaeiaa

set_option linter.all false
namespace Go.Proofs.Ytobfpfjdkpaeiaa
open Go.ChangeShapes Go.WideShapes Go.ChangeAt Go.RowKit
set_option maxHeartbeats 4000000
set_option linter.unusedVariables false
set_option maxRecDepth 20000

theorem okM_proc {m : Md} (h : okM m = true) {n : Nat} (hn : n < m.procs.length) : okP m (pk m n) = true := by
 unfold okM at h
 simp only [Bool.and_eq_true] at h
 have h2 := h.2.2.2
 rw [List.all_eq_true] at h2
 exact h2 _ (by unfold pk; simp [List.getD, hn])
theorem slot_sizes {l : List Sl} (h : l.all slotF = true) : ∀ i, i < l.length → 0 ≤ (l.getD i default).size ∧ (l.getD i default).size ≤ 40000 := fun i hi => by
 rw [List.all_eq_true] at h
 have := h (l.getD i default) (by simp [List.getD, hi])
 unfold slotF at this
 simp only [Bool.and_eq_true, decide_eq_true_eq] at this
 omega
theorem slE_small {l : List Sl} (h : l.all slotF = true) (hl : l.length ≤ 400) : ∀ j : Nat, j ≤ l.length → 0 ≤ slE l j ∧ slE l j ≤ 20000000 := fun j hj => by
 have := slE_bd l (slot_sizes h) j hj
 have h2 : (j : Int) ≤ 400 := by omega
 omega
theorem okM_globs {m : Md} (h : okM m = true) : m.globs.all slotF = true ∧ m.globs.length ≤ 200 ∧ m.data.length = m.globs.length := by
 unfold okM okHeadM at h
 simp only [Bool.and_eq_true, decide_eq_true_eq] at h
 exact ⟨h.1.2.2.1, h.1.2.1, h.1.1⟩
theorem regF_yes {p : Pr} {r : Int} (h : regF p r true = true) : 0 ≤ r ∧ r < p.regs := by
 unfold regF at h; simpa using h
theorem regF_no {p : Pr} {r : Int} (h : regF p r false = true) : r = -1 := by
 unfold regF at h; simpa using h
section
variable {k : RK} {p : Pr} {bf bg c : Nat} {nm : ByteArray} {vob vbl vat : Value} {low : Int} {w w' : World} {vo vo' : Value} {regs : List Int} {s s' : RS}
end
end Go.Proofs.Ytobfpfjdkpaeiaa
