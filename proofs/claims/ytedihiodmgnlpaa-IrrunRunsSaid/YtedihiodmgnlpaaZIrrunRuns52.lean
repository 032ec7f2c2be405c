/-
 Arguments opened: words in a row, two numbers.
-/
import Derived.Test.YtedihiodmgnlpaaZIrrunRuns51
import Derived.Laws.IdiomArrays
set_option linter.all false
namespace Go.Proofs.Ytedihiodmgnlpaa
open Go Go.RowKit Go.ChangeShapes Go.WideShapes Go.Deep
set_option maxRecDepth 100000

section
variable {H : Type} {enc : TypeId × Value → H} {w : World} {base : Nat} {spare : Nat → Bool} {held : Bool}
variable {v : Value} {r : Reach} {b0 : Nat} {d : DataW H} {ps : List MemPlace}
theorem open_WV (hv : Value.okWide Try.prog w r b0 25 v) (h : DataW.Trod enc Try.prog w base spare held 25 v d ps) : ∃ l : List Int, (∀ x ∈ l, 0 ≤ x ∧ x < 4294967296) ∧ RdW w v l := by
 obtain ⟨n, h⟩ := h
 obtain ⟨a, len, cap, rfl⟩ := okWide_slice Try.underlying25 hv
 exact open_W h
theorem open_SlsV (hv : Value.okWide Try.prog w r b0 62 v) (h : DataW.Trod enc Try.prog w base spare held 62 v d ps) : ∃ l : List Sl, (∀ s ∈ l, SlOk s) ∧ RdSls w v l := by
 obtain ⟨n, h⟩ := h
 obtain ⟨a, len, cap, rfl⟩ := okWide_slice Try.underlying62 hv
 exact open_Sls h
theorem trod_two {P : Program} {t e : TypeId} {fuel : Nat} {c0 c1 : Value} {x : DataW H × List MemPlace} (ht : P.underlying t = some (.array 2 e)) (hce : P.cellsOf e = 1)
  (h : DataW.trod enc P w base spare held fuel t [c0, c1] = some x) :
  ∃ y0 y1 n, DataW.trod enc P w base spare held n e [c0] = some y0 ∧ DataW.trod enc P w base spare held n e [c1] = some y1 := by
 cases fuel with
 | zero => simp [DataW.trod] at h
 | succ n =>
  unfold DataW.trod at h
  rw [ht] at h
  have r2 : List.range 2 = [0, 1] := rfl
  simp [r2, hce] at h
  obtain ⟨_, h⟩ := h
  cases h0 : DataW.trod enc P w base spare held n e [c0] with
  | none => simp [h0] at h
  | some y0 =>
   cases h1 : DataW.trod enc P w base spare held n e [c1] with
   | none => simp [h0, h1] at h
   | some y1 => exact ⟨y0, y1, n, h0, h1⟩
theorem open_Arr2V (hv : Value.okWide Try.prog w r b0 80 v) (h : DataW.Trod enc Try.prog w base spare held 80 v d ps) :
  ∃ q : Int × Int, (I64 q.1 ∧ I64 q.2) ∧ v = .agg #[.int .i64 q.1, .int .i64 q.2] := by
 have e2 : Try.prog.cellsOf 80 = 2 := by kernel_rfl
 unfold Value.okWide at hv
 simp only [Try.underlying80] at hv
 obtain ⟨cs, rfl, hsz, -⟩ := hv
 obtain ⟨l⟩ := cs
 obtain ⟨n, h⟩ := h
 have hl : l.length = 2 := by simpa [e2] using hsz
 match l, hl with
 | [c0, c1], _ =>
  obtain ⟨y0, y1, m, k0, k1⟩ := trod_two Try.underlying80 (by kernel_rfl) (by simpa [Value.cells] using h)
  obtain ⟨a0, rfl, b0⟩ := open_i k0
  obtain ⟨a1, rfl, b1⟩ := open_i k1
  exact ⟨(a0, a1), ⟨b0, b1⟩, rfl⟩
end
end Go.Proofs.Ytedihiodmgnlpaa
