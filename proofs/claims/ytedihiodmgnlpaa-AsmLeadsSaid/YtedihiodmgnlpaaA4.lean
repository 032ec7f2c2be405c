/-
  The document's Right for items.
  Conditions: numbers lie within 64 bits.
-/
import Derived.Test.YtedihiodmgnlpaaA3
set_option linter.all false
namespace Go.Proofs.Ytedihiodmgnlpaa
open Go.ChangeShapes Go.WideShapes Go.ChangeAt Go.RowKit
set_option maxHeartbeats 1000000
set_option linter.unusedVariables false
set_option maxRecDepth 20000

theorem contrF_ne (op : Int) : contrF op ≠ 0 ↔ 5 ≤ op ∧ op ≤ 10 := by unfold contrF; split <;> (try split) <;> omega
theorem aritem_c (x : It) (w : World) :
    Calls Try.prog 19 #[x.v] w fun e w' => e = .returned (.bool (itemF x)) ∧ Below w.heap.size w w' := by
  obtain ⟨kind, ⟨op, rd, rs1, rs2, imm⟩, label⟩ := x
  have HN := Lib.hid (contrF_ne op)
  show Calls _ _ #[.agg #[.int .i64 kind, .int .i64 op, .int .i64 rd, .int .i64 rs1, .int .i64 rs2, .int .i64 imm, .int .i64 label]] _ _
  go_enter Try.func19, Try.ntmps19
  go_wp2_with (first | (go_at_call 50; refine (rright_c' _ _ _ _ _ _).mono ?_; rintro e w1 ⟨rfl, hb1⟩; obtain ⟨hc1, hf1⟩ := bcell hb1; have hz1 := hb1.size; (try simp at hz1); have hy1 : w.heap.size < w1.heap.size := (by omega); have hy2 : w.heap.size + 1 < w1.heap.size := (by omega)) | (go_at_call 51; refine (rbranch_c _ _).mono ?_; rintro e w2 ⟨rfl, rfl⟩))
  all_goals
    go_ret
    refine ⟨retB ?_, ?_⟩
    rotate_left
    · first | exact below_a2 _ _ _ | exact below_a3 _ _ _ _ | exact (below_a2 _ _ _).trans (hb1.mono (by simp; omega))
    · simp only [itemF, IN.ok]
      (try clear hb1 hc1 hf1 hz1 hy1 hy2)
      have HN := HN.out
      simp only [beq_iff_eq, beq_eq_false_iff_ne, ne_eq] at *
      first | (simp_all [labF]; done) | (simp_all [labF]; omega) | (simp_all [labF]; (repeat' split) <;> (try intros) <;> omega) | (simp_all [labF]; rw [Bool.eq_iff_iff]; simp [*]; omega)
end Go.Proofs.Ytedihiodmgnlpaa
