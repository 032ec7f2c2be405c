/-
  Contracts of the reference's functions that tell of one instruction and one block.
-/
import Derived.Test.YtedihiodmgnlpaaF3
set_option linter.all false
namespace Go.Proofs.Ytedihiodmgnlpaa
open Go.ChangeShapes Go.WideShapes Go.ChangeAt Go.RowKit
set_option maxHeartbeats 1000000
set_option maxRecDepth 20000

theorem bcell' {B : Nat} {W w1 : World} (hb : Below B W w1) : (∀ b o, b < B → w1.cell? ⟨b, o, none⟩ = W.cell? ⟨b, o, none⟩) ∧ (∀ b o, b < B → w1.frozen? ⟨b, o, none⟩ = W.frozen? ⟨b, o, none⟩) :=
  ⟨fun b o h => hb.cell (p := ⟨b, o, none⟩) h, fun b o h => hb.frozen (p := ⟨b, o, none⟩) h⟩
theorem fld_facts (op : Int) (h1 : 1 ≤ op) (h2 : op ≤ 12) : fld op 0 = decide (op ≠ 6 ∧ op ≠ 10 ∧ op ≠ 12) ∧ fld op 1 = readsA op ∧ fld op 2 = readsB op ∧ fld op 3 = decide (op = 3 ∨ op = 4) ∧
    fld op 4 = decide (op = 7 ∨ op = 8 ∨ op = 9) ∧ fld op 5 = decide (5 ≤ op ∧ op ≤ 8) ∧ fld op 6 = decide (op = 5 ∨ op = 6) ∧ fld op 7 = decide (op = 1) ∧ fld op 8 = decide (op = 9) ∧ fld op 9 = decide (op ≠ 10 ∧ op ≠ 12) := by
  obtain ⟨k, rfl⟩ := Int.eq_ofNat_of_zero_le (show 0 ≤ op by omega)
  obtain ⟨a0, a1, a2, a3, a4, a5, a6, a7, a8, a9⟩ := fld_all ⟨k, by omega⟩
  simp only [] at a0 a1 a2 a3 a4 a5 a6 a7 a8 a9
  refine ⟨(a0 (by omega)).trans ?_, a1, a2, a3.trans ?_, a4.trans ?_, a5.trans ?_, a6.trans ?_, a7.trans ?_, a8.trans ?_, (a9 (by omega)).trans ?_⟩ <;> (congr 1; apply propext; omega)
theorem defI_0 (i : In) (h : i.op < 1 ∨ 12 < i.op) : defI i = -1 := by unfold defI; rw [if_neg (by omega)]
theorem defI_y (i : In) (h1 : 1 ≤ i.op) (h2 : i.op ≤ 12) (h : fld i.op 0 = true) : defI i = i.d := by
  rw [(fld_facts i.op h1 h2).1] at h; simp at h; unfold defI; rw [if_pos (by omega)]
theorem defI_n (i : In) (h1 : 1 ≤ i.op) (h2 : i.op ≤ 12) (h : fld i.op 0 = false) : defI i = -1 := by
  rw [(fld_facts i.op h1 h2).1] at h; simp at h; unfold defI; rw [if_neg (by omega)]
theorem usesI_in (i : In) (h1 : 1 ≤ i.op) (h2 : i.op ≤ 12) : usesI i = (if fld i.op 1 && i.a != -1 then [i.a] else []) ++ (if fld i.op 2 && i.b != -1 then [i.b] else []) ++ (if fld i.op 8 then i.args.filter (· != -1) else []) := by
  obtain ⟨_, a1, a2, _, _, _, _, _, a8, _⟩ := fld_facts i.op h1 h2
  unfold usesI
  rw [a1, a2, a8]
  simp
end Go.Proofs.Ytedihiodmgnlpaa
