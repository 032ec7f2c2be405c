/-
 The contract of irrun.Run.; Two machines of single steps side by side: if one follows the other, runs that end have the same outcome; what holds of a machine's calls. Plain.; A module with another procedure in the place of one: if that follows the old one, runs that end have the same outcome. Plain.; What an instruction reads, sets and stores, in plain data.; alias: what New comes to, plain parts.; alias: reg, list, Things, Out, Exact, memory; the statements' rising.; alias: Things, Out, Exact, memory; the statements' rising.; The document's answer for alias: may two loads or stores meet (Meet)?
-/
import Derived.Test.YtkhfddodmjnecaaDoorZFoldTwice17
import Derived.Test.YtkhfddodmjnecaaDoorZFoldTwice20
import Derived.Test.YtkhfddodmjnecaaDoorZFoldTwice10
import Derived.Test.YtkhfddodmjnecaaDoorZFoldTwice06
import Derived.Test.YtkhfddodmjnecaaDoorZFoldTwice00
import Derived.Test.YtkhfddodmjnecaaDoorZFoldTwice08
import Derived.Test.YtkhfddodmjnecaaDoorZFoldTwice13
import Derived.Test.YtkhfddodmjnecaaDoorZFoldTwice14

set_option linter.all false
namespace Go.Proofs.YtkhfddodmjnecaaDoor
open Go.ChangeShapes Go.WideShapes Go.ChangeAt Go.RowKit
set_option maxHeartbeats 8000000
set_option linter.unusedVariables false
set_option maxRecDepth 100000

section
variable {m : Md} {w W6 wr w1 w3 : World} {br bm : Nat} {vg vd vp vi vat v' : Value} {en fuel : Int} {ja jm : Nat}
end
end Go.Proofs.YtkhfddodmjnecaaDoor

set_option linter.all false
namespace Go.Proofs.YtkhfddodmjnecaaDoor
set_option linter.unusedVariables false

theorem okI_call {m : Md} {p : Pr} {i : In} (h : okI m p i = true) (h9 : i.op = 9) : 0 ≤ i.obj ∧ i.obj < (m.procs.length : Int) ∧ (i.args.length : Int) = (pk m i.obj.toNat).params ∧ regF p i.d (!(pk m i.obj.toNat).void) = true ∧ (i.args.all fun r => regF p r true) = true := by
 unfold okI at h
 simp only [Bool.and_eq_true] at h
 have h := h.2
 rw [if_pos h9] at h
 simp only [callF, Bool.and_eq_true, decide_eq_true_eq] at h
 exact ⟨h.1.1, h.1.2.1, h.1.2.2.1, h.1.2.2.2.1, h.1.2.2.2.2⟩
end Go.Proofs.YtkhfddodmjnecaaDoor

set_option linter.all false
namespace Go.Proofs.YtkhfddodmjnecaaDoor
set_option linter.unusedVariables false

section
variable {m : Md} {inp : List Int} {n0 : Nat} {q : Pr} {S : Fr → Fr → Prop} {T : Fr → Fr → Oc → Oc → Prop} {c : Nat}
end
end Go.Proofs.YtkhfddodmjnecaaDoor

set_option linter.all false
namespace Go.Proofs.YtkhfddodmjnecaaDoor
set_option linter.unusedVariables false

theorem ops12 {m : Md} {p : Pr} {i : In} (h : okI m p i = true) : 1 ≤ i.op ∧ i.op ≤ 12 := by
 unfold okI at h
 simp only [Bool.and_eq_true, decide_eq_true_eq] at h
 exact ⟨h.1.1, h.1.2.1⟩
theorem okI_regs {m : Md} {p : Pr} {i : In} (h : okI m p i = true) (h9 : i.op ≠ 9) : regF p i.d (i.op != 6 && (i.op != 10 && i.op != 12)) = true ∧ regF p i.a (readsA i.op) = true ∧ regF p i.b (readsB i.op) = true ∧ moreF m p i = true := by
 unfold okI at h
 simp only [Bool.and_eq_true] at h
 have h := h.2
 rw [if_neg h9] at h
 simp only [Bool.and_eq_true] at h
 exact ⟨h.1.1, h.1.2.1, h.1.2.2, h.2⟩
theorem regF_in {p : Pr} {r : Int} (h : regF p r true = true) : 0 ≤ r ∧ r < p.regs := by unfold regF at h; simpa using h
theorem regF_may {p : Pr} {r : Int} {b : Bool} (h : regF p r b = true) : r = -1 ∨ 0 ≤ r ∧ r < p.regs := by
 cases b
 ·left; unfold regF at h; simpa using h
 ·exact .inr (regF_in h)
/-- what it sets is in its place -/
theorem okI_d {m : Md} {p : Pr} {i : In} (h : okI m p i = true) (hd : i.op ≠ 6 ∧ i.op ≠ 10 ∧ i.op ≠ 12 ∧ i.op ≠ 9) : 0 ≤ i.d ∧ i.d < p.regs := by
 have h1 := (okI_regs h (by omega)).1
 have e : (i.op != 6 && (i.op != 10 && i.op != 12)) = true := by simp; omega
 rw [e] at h1
 exact regF_in h1
end Go.Proofs.YtkhfddodmjnecaaDoor

set_option linter.all false
namespace Go.Proofs.YtkhfddodmjnecaaDoor
set_option linter.unusedVariables false

end Go.Proofs.YtkhfddodmjnecaaDoor

set_option linter.all false
namespace Go.Proofs.YtkhfddodmjnecaaDoor
open Go.ChangeShapes Go.WideShapes Go.ChangeAt Go.RowKit
set_option maxHeartbeats 4000000
set_option maxRecDepth 100000
set_option linter.unusedVariables false

end Go.Proofs.YtkhfddodmjnecaaDoor

set_option linter.all false
namespace Go.Proofs.YtkhfddodmjnecaaDoor
open Go.ChangeShapes Go.WideShapes Go.ChangeAt Go.RowKit
set_option maxHeartbeats 4000000
set_option maxRecDepth 100000
set_option linter.unusedVariables false

end Go.Proofs.YtkhfddodmjnecaaDoor

set_option linter.all false
namespace Go.Proofs.YtkhfddodmjnecaaDoor
open Go.ChangeShapes Go.WideShapes Go.ChangeAt Go.RowKit
set_option maxHeartbeats 4000000
set_option maxRecDepth 100000
set_option linter.unusedVariables false

theorem cl2 {w : World} {b : Nat} {t : TypeId} {c0 c1 : Value} (h : w.heap[b]? = some (.cells #[c0, c1] t (0, 0))) :
  w.cell? ⟨b, 0, none⟩ = some c0 ∧ w.cell? ⟨b, 1, none⟩ = some c1 ∧ b < w.heap.size := ⟨cell_of_heap h 0, cell_of_heap h 1, (Array.getElem?_eq_some_iff.1 h).1⟩
end Go.Proofs.YtkhfddodmjnecaaDoor
