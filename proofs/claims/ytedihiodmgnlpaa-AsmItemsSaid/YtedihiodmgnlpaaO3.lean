/-
  Arguments opened: four numbers in a row.
-/
import Derived.Test.YtedihiodmgnlpaaO
import Derived.Laws.IdiomArrays
set_option linter.all false
namespace Go.Proofs.Ytedihiodmgnlpaa
open Go Go.RowKit Go.ChangeShapes Go.WideShapes Go.Deep
set_option maxRecDepth 100000

section
variable {H : Type} {enc : TypeId × Value → H} {w : World} {base : Nat} {spare : Nat → Bool} {held : Bool}
variable {v : Value} {r : Reach} {b0 : Nat} {d : DataW H} {ps : List MemPlace}
theorem open_Arr4V (hv : Value.okWide Try.prog w r b0 42 v) (h : DataW.Trod enc Try.prog w base spare held 42 v d ps) :
    ∃ q : Int × Int × Int × Int, (I64 q.1 ∧ I64 q.2.1 ∧ I64 q.2.2.1 ∧ I64 q.2.2.2) ∧ v = .agg #[.int .i64 q.1, .int .i64 q.2.1, .int .i64 q.2.2.1, .int .i64 q.2.2.2] := by
  have e4 : Try.prog.cellsOf 42 = 4 := by kernel_rfl
  unfold Value.okWide at hv
  simp only [Try.underlying42] at hv
  obtain ⟨cs, rfl, hsz, -⟩ := hv
  obtain ⟨l⟩ := cs
  obtain ⟨n, h⟩ := h
  have hl : l.length = 4 := by simpa [e4] using hsz
  match l, hl with
  | [c0, c1, c2, c3], _ =>
    obtain ⟨y0, y1, y2, y3, m, -, k0, k1, k2, k3⟩ := trod_array4 Try.underlying42 (by kernel_rfl) (by simpa [Value.cells] using h)
    obtain ⟨a0, rfl, b0⟩ := open_i k0
    obtain ⟨a1, rfl, b1⟩ := open_i k1
    obtain ⟨a2, rfl, b2⟩ := open_i k2
    obtain ⟨a3, rfl, b3⟩ := open_i k3
    exact ⟨(a0, a1, a2, a3), ⟨b0, b1, b2, b3⟩, rfl⟩
end
end Go.Proofs.Ytedihiodmgnlpaa
