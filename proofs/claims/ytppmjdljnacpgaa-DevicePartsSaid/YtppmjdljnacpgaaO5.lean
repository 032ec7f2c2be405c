/-
  A case of the device's statements, opened.
-/
import Derived.Test.YtppmjdljnacpgaaO
import Derived.Test.YtppmjdljnacpgaaV15
set_option linter.all false
namespace Go.Proofs.Ytppmjdljnacpgaa
open Go Go.RowKit Go.ChangeShapes Go.WideShapes Go.Deep
set_option maxRecDepth 100000

/-- a case -/
structure Cs where
  code : List Int
  data : List Int
  inp : List Int
  fails : List Int
  n : Int
structure CsOk (x : Cs) : Prop where
  code : ∀ j, 0 ≤ x.code.getD j 0 ∧ x.code.getD j 0 < 4294967296
  data : ∀ j, 0 ≤ x.data.getD j 0 ∧ x.data.getD j 0 < 256
  inp : ∀ j, 0 ≤ x.inp.getD j 0 ∧ x.inp.getD j 0 < 4294967296
  n : I64 x.n
def CsV (w : World) (v : Value) (x : Cs) : Prop := ∃ vc vd vi vf, v = .agg #[vc, vd, vi, vf, .int .i64 x.n] ∧ Src w vc x.code.length (x.code.map (Value.int .u32)) ∧ Src w vd x.data.length (x.data.map (Value.int .u8)) ∧ Src w vi x.inp.length (x.inp.map (Value.int .u32)) ∧ (∃ fb, FV w fb vf x.fails ∧ (x.fails ≠ [] → fb < w.heap.size)) ∧
  (∃ a c, vc = .slice a x.code.length c) ∧ (∃ a c, vd = .slice a x.data.length c) ∧ (∃ a c, vi = .slice a x.inp.length c) ∧ (∃ a c, vf = .slice a x.fails.length c)
theorem src_of_rows {w : World} {v : Value} {l : List Int} {kd : IntKind} (h : Rows' w v 1 l.length fun i c => c 0 = some (.int kd (l.getD i 0))) : Src w v l.length (l.map (Value.int kd)) := by
  obtain ⟨a, c, rfl, h1, h2, h3⟩ := h
  cases a with
  | none =>
    have h0 : l.length = 0 := by
      by_cases e : l.length = 0
      · exact e
      · obtain ⟨b, o, e1, -⟩ := h3 0 (by omega); cases e1
    have : l = [] := List.eq_nil_of_length_eq_zero h0
    subst this
    exact .inl ⟨⟨c, rfl⟩, rfl, rfl⟩
  | some ad =>
    refine .inr ⟨ad, c, rfl, fun j u hj => ?_⟩
    have hlt : j < l.length := by have := (List.getElem?_eq_some_iff.1 hj).1; simpa using this
    obtain ⟨b, o, e1, e2⟩ := h3 j hlt
    simp only [Option.some.injEq] at e1
    refine ⟨b, o, e1, ?_⟩
    simp only [Nat.mul_one, Nat.add_zero] at e2
    rw [e2, ← hj]; simp [List.getD, hlt]
theorem fv_of_rows {w : World} {v : Value} {l : List Int} (h : RdI w v l) : ∃ fb, FV w fb v l ∧ (l ≠ [] → fb < w.heap.size) := by
  obtain ⟨a, c, rfl, h1, h2, h3⟩ := h
  cases l with
  | nil => exact ⟨0, .inl ⟨⟨a, c, rfl⟩, rfl⟩, fun h => absurd rfl h⟩
  | cons x l =>
    obtain ⟨b, o, rfl, e2⟩ := h3 0 (by simp)
    refine ⟨b, .inr ⟨o, c, rfl, h1, h2, fun j hj => ?_⟩, fun _ => World.block_lt_of_cell? w _ e2⟩
    obtain ⟨b', o', e3, e4⟩ := h3 j hj
    simp only [Option.some.injEq, Addr.mk.injEq, and_true] at e3
    obtain ⟨rfl, rfl⟩ := e3
    simpa using e4
theorem rows_form {w : World} {v : Value} {k n : Nat} {R : Nat → (Nat → Option Value) → Prop} (h : Rows' w v k n R) : ∃ a c, v = .slice a n c := by
  obtain ⟨a, c, e, -⟩ := h
  exact ⟨a, c, e⟩
theorem bd_of {l : List Int} {P : Int → Prop} (h : ∀ x ∈ l, P x) (h0 : P 0) (j : Nat) : P (l.getD j 0) := by
  by_cases hj : j < l.length
  · exact h _ (by simp [List.getD, hj])
  · rw [show l.getD j 0 = 0 by simp [List.getD, List.getElem?_eq_none (by omega : l.length ≤ j)]]; exact h0
section
variable {H : Type} {enc : TypeId × Value → H} {w : World} {base : Nat} {spare : Nat → Bool} {held : Bool}
variable {v : Value} {r : Reach} {b0 : Nat} {d : DataW H} {ps : List MemPlace}
theorem open_CsV (hv : Value.okWide Try.prog w r b0 43 v) (h : DataW.Trod enc Try.prog w base spare held 43 v d ps) : ∃ x : Cs, CsOk x ∧ CsV w v x := by
  obtain ⟨l, hl, rfl, n, h⟩ := agg_cells Try.underlying43 (by kernel_rfl) (by kernel_rfl) hv h
  obtain ⟨m, F⟩ := flds Try.underlying43 (by kernel_rfl) (by kernel_rfl) h
  obtain ⟨v0, y0, e0, k0⟩ := F 0 _ rfl
  obtain ⟨v1, y1, e1, k1⟩ := F 1 _ rfl
  obtain ⟨v2, y2, e2, k2⟩ := F 2 _ rfl
  obtain ⟨v3, y3, e3, k3⟩ := F 3 _ rfl
  obtain ⟨v4, y4, e4, k4⟩ := F 4 _ rfl
  obtain ⟨l0, h0, r0⟩ := open_W k0
  obtain ⟨l1, h1, r1⟩ := open_Y k1
  obtain ⟨l2, h2, r2⟩ := open_W k2
  obtain ⟨l3, h3, r3⟩ := open_I k3
  obtain ⟨a4, rfl, b4⟩ := open_i k4
  rw [len5 hl e0 e1 e2 e3 e4]
  exact ⟨⟨l0, l1, l2, l3, a4⟩, ⟨bd_of h0 (by decide), bd_of h1 (by decide), bd_of h2 (by decide), b4⟩, v0, v1, v2, v3, rfl, src_of_rows r0, src_of_rows r1, src_of_rows r2, fv_of_rows r3, rows_form r0, rows_form r1, rows_form r2, rows_form r3⟩
def BsV (w : World) (v : Value) (l : List Bool) : Prop := RdB w v l
end
end Go.Proofs.Ytppmjdljnacpgaa
