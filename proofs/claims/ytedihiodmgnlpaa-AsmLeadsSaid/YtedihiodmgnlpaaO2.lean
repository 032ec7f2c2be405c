/-
  Arguments opened: items of assembly, and four numbers in a row.
-/
import Derived.Test.YtedihiodmgnlpaaO
import Derived.Test.YtedihiodmgnlpaaA5
import Derived.OpenShut
set_option linter.all false
namespace Go.Proofs.Ytedihiodmgnlpaa
open Go Go.RowKit Go.ChangeShapes Go.WideShapes Go.Deep
set_option maxRecDepth 100000

/-- an item's numbers lie within 64 bits -/
structure ItOk (x : It) : Prop where
  kind : I64 x.kind
  op : I64 x.i.op
  rd : I64 x.i.rd
  rs1 : I64 x.i.rs1
  rs2 : I64 x.i.rs2
  imm : I64 x.i.imm
  label : I64 x.label
section
variable {H : Type} {enc : TypeId × Value → H} {w : World} {base : Nat} {spare : Nat → Bool} {held : Bool}
variable {n : Nat} {v : Value} {cs : List Value} {y : DataW H × List MemPlace}
theorem open_It (h : DataW.trod enc Try.prog w base spare held n 41 cs = some y) : ∃ x : It, ItOk x ∧ ItC (fun j => cs[j]?) x := by
  obtain ⟨ys, m, -, -, hlen, hyl, hf⟩ := DataW.trod_struct Try.underlying41 h
  have hlen : cs.length = 7 := hlen
  have hyl : ys.length = 3 := hyl
  match cs, hlen with
  | [c0, c1, c2, c3, c4, c5, c6], _ =>
    match ys, hyl with
    | [y0, y1, y2], _ =>
      have k0 : DataW.trod enc Try.prog w base spare held m 3 [c0] = some y0 := hf 0 _ rfl
      have k1 : DataW.trod enc Try.prog w base spare held m 39 [c1, c2, c3, c4, c5] = some y1 := hf 1 _ rfl
      have k2 : DataW.trod enc Try.prog w base spare held m 3 [c6] = some y2 := hf 2 _ rfl
      obtain ⟨m', F⟩ := flds Try.underlying39 (by kernel_rfl) (by kernel_rfl) k1
      obtain ⟨v1, z1, e1, j1⟩ := F 0 _ rfl
      obtain ⟨v2, z2, e2, j2⟩ := F 1 _ rfl
      obtain ⟨v3, z3, e3, j3⟩ := F 2 _ rfl
      obtain ⟨v4, z4, e4, j4⟩ := F 3 _ rfl
      obtain ⟨v5, z5, e5, j5⟩ := F 4 _ rfl
      obtain ⟨a0, rfl, b0⟩ := open_i k0
      obtain ⟨a1, rfl, b1⟩ := open_i j1
      obtain ⟨a2, rfl, b2⟩ := open_i j2
      obtain ⟨a3, rfl, b3⟩ := open_i j3
      obtain ⟨a4, rfl, b4⟩ := open_i j4
      obtain ⟨a5, rfl, b5⟩ := open_i j5
      obtain ⟨a6, rfl, b6⟩ := open_i k2
      simp at e1 e2 e3 e4 e5
      subst e1 e2 e3 e4 e5
      exact ⟨⟨a0, ⟨a1, a2, a3, a4, a5⟩, a6⟩, ⟨b0, b1, b2, b3, b4, b5, b6⟩, ⟨rfl, rfl, rfl, rfl, rfl, rfl, rfl⟩⟩
theorem open_Its (h : DataW.trod enc Try.prog w base spare held n 22 [v] = some y) : ∃ l : List It, (∀ i, i < l.length → ItOk (l.getD i default)) ∧ RdT w v l := by
  obtain ⟨l, h1, h2⟩ := open_rows (k := 6) ItOk (fun x c => ItC c x) Try.underlying22 (by kernel_rfl) h (fun n cs z hz => open_It hz) (fun a c c' hs h => h.sub hs)
  exact ⟨l, h1, h2⟩
variable {r : Reach} {b0 : Nat} {d : DataW H} {ps : List MemPlace}
theorem open_ItsV (hv : Value.okWide Try.prog w r b0 22 v) (h : DataW.Trod enc Try.prog w base spare held 22 v d ps) : ∃ l : List It, (∀ i, i < l.length → ItOk (l.getD i default)) ∧ RdT w v l := by
  obtain ⟨n, h⟩ := h
  obtain ⟨a, len, cap, rfl⟩ := okWide_slice Try.underlying22 hv
  exact open_Its h
theorem open_ItV (hv : Value.okWide Try.prog w r b0 41 v) (h : DataW.Trod enc Try.prog w base spare held 41 v d ps) : ∃ x : It, ItOk x ∧ v = x.v := by
  obtain ⟨cs, rfl, hsz⟩ := okWide_struct Try.underlying41 hv
  obtain ⟨l⟩ := cs
  obtain ⟨n, h⟩ := h
  have e7 : Try.prog.cellsOf 41 = 7 := by kernel_rfl
  have hl : l.length = 7 := by simpa [e7] using hsz
  obtain ⟨x, hx, hc⟩ := open_It (cs := l) (by simpa [Value.cells] using h)
  refine ⟨x, hx, ?_⟩
  match l, hl with
  | [c0, c1, c2, c3, c4, c5, c6], _ =>
    have e0 := hc.kind
    have e1 := hc.op
    have e2 := hc.rd
    have e3 := hc.rs1
    have e4 := hc.rs2
    have e5 := hc.imm
    have e6 := hc.label
    simp at e0 e1 e2 e3 e4 e5 e6
    subst e0 e1 e2 e3 e4 e5 e6
    rfl
end
end Go.Proofs.Ytedihiodmgnlpaa
