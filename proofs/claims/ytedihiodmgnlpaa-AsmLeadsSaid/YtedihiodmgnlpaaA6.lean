/-
  The contracts of the sheet's size and way.
-/
import Derived.Test.YtedihiodmgnlpaaA5
import Derived.BigQuiet
set_option linter.all false
namespace Go.Proofs.Ytedihiodmgnlpaa
open Go.ChangeShapes Go.WideShapes Go.ChangeAt Go.RowKit
set_option maxHeartbeats 1000000
set_option linter.unusedVariables false
set_option maxRecDepth 20000

def szF (x : It) (f : Bool) : Int := if x.kind = 2 then 0 else if x.kind = 5 then 4 * ((constL x.i.rd (x.i.imm % 4294967296)).length : Int) else if f = true then 8 else 4
theorem constL_len (rd n : Int) : (constL rd n).length ≤ 2 := by unfold constL; (repeat' split) <;> simp
section
variable {wp w : World} {bs bf ba bl : Nat} {vi : Value} {L : List It} {far : List Bool} {at' lab : List Int}
theorem size_c (h : Sh wp w bs bf ba bl vi L far at' lab) (k : Nat) (hk : k < L.length) :
    Calls Try.prog 120 #[.pointer (some ⟨bs, 0, none⟩), .int .i64 (k : Int)] w fun e w' => e = .returned (.int .i64 (szF (L.getD k default) (far.getD k false))) ∧ Below w.heap.size w w' := by
  have c0 := h.c0
  have c1 := h.c1
  have cf := h.cf hk
  obtain ⟨ai, ci, rfl, hit⟩ := h.it
  obtain ⟨b, o, rfl, hb, hc⟩ := hit k hk
  have y0 := hc.kind
  have y1 := hc.op
  have y2 := hc.rd
  have y3 := hc.rs1
  have y4 := hc.rs2
  have y5 := hc.imm
  have y6 := hc.label
  simp only [Nat.add_zero] at y0
  have hn := h.most
  have lbs : bs < w.heap.size := World.block_lt_of_cell? w _ c0
  have lbf : bf < w.heap.size := World.block_lt_of_cell? w _ cf
  have lb : b < w.heap.size := World.block_lt_of_cell? w _ y0
  have HN := Lib.hid (constL_len (L.getD k default).i.rd ((L.getD k default).i.imm % 4294967296))
  clear h hit hc hb
  generalize L.getD k default = X at *
  generalize far.getD k false = f at *
  generalize L.length = n at *
  obtain ⟨kind, ⟨op, rd, rs1, rs2, imm⟩, label⟩ := X
  dsimp only at y0 y1 y2 y3 y4 y5 y6
  have HS : Hid (szF ⟨kind, ⟨op, rd, rs1, rs2, imm⟩, label⟩ f = if kind = 2 then 0 else if kind = 5 then 4 * ((constL rd (imm % 4294967296)).length : Int) else if f = true then 8 else 4) := rfl
  have HC : Hid (∀ w, Calls Try.prog 81 #[.int .i64 rd, .int .u32 (imm % 4294967296)] w fun e w' => ∃ v, e = .returned v ∧ RdN w' v (constL rd (imm % 4294967296)) ∧ FrV w v ∧ Below w.heap.size w w') := fun w => consts_c rd (imm % 4294967296) w (by omega) (by omega)
  have HN : Hid ((constL rd (imm % 4294967296)).length ≤ 2) := HN.out
  by_cases h2 : kind = 2
  · subst h2
    rw [if_pos rfl] at HS
    go_enter Try.func120, Try.ntmps120
    go_wp2
    go_ret
    exact ⟨retI HS.out.symm, below_a1 _ _⟩
  · rw [if_neg h2] at HS
    have h2' : (kind == 2) = false := beq_eq_false_iff_ne.2 h2
    clear h2
    by_cases h5 : kind = 5
    · subst h5
      rw [if_pos rfl] at HS
      go_enter Try.func120, Try.ntmps120
      go_wp2_with (go_at_call 81; refine (HC.out _).mono ?_; rintro e w1 ⟨v, rfl, hv, -, hb1⟩; obtain ⟨va, vc, rfl, hv1, hv2, -⟩ := hv)
      go_ret
      refine ⟨retI ?_, (below_a1 _ _).trans (hb1.mono (by simp))⟩
      rw [HS.out]
      have := HN.out
      rw [wrap64_in _ (by omega) (by omega)]
    · rw [if_neg h5] at HS
      have h5' : (kind == 5) = false := beq_eq_false_iff_ne.2 h5
      clear h5
      cases f
      · rw [if_neg (by decide)] at HS
        go_enter Try.func120, Try.ntmps120
        go_wp2
        go_ret
        exact ⟨retI HS.out.symm, below_a1 _ _⟩
      · rw [if_pos rfl] at HS
        go_enter Try.func120, Try.ntmps120
        go_wp2
        go_ret
        exact ⟨retI HS.out.symm, below_a1 _ _⟩
theorem way_c (h : Sh wp w bs bf ba bl vi L far at' lab) (k : Nat) (hk : k < L.length) (l : Nat) (hl : (L.getD k default).label = (l : Int)) (hl' : l < lab.length) (from' d : Int) (hd : lab.getD l 0 - from' = d) (hd1 : -9223372036854775808 ≤ d) (hd2 : d < 9223372036854775808) :
    Calls Try.prog 80 #[.pointer (some ⟨bs, 0, none⟩), .int .i64 (k : Int), .int .i64 from'] w fun e w' => e = .returned (.int .i64 d) ∧ ∃ m, w.drewN m = w' := by
  have c0 := h.c0
  have c3 := h.c3
  have cl := h.cl hl'
  obtain ⟨ai, ci, rfl, hit⟩ := h.it
  obtain ⟨b, o, rfl, hb, hc⟩ := hit k hk
  have y6 := hc.label
  rw [hl] at y6
  have hn := h.most
  have hm := h.lmost
  have lbs : bs < w.heap.size := World.block_lt_of_cell? w _ c0
  have lbl : bl < w.heap.size := World.block_lt_of_cell? w _ cl
  have lb : b < w.heap.size := World.block_lt_of_cell? w _ y6
  clear h hit hc hb hl
  generalize L.length = n at *
  generalize lab.getD l 0 = p at *
  generalize lab.length = m at *
  have HD := Lib.hid hd
  clear hd
  go_enter Try.func80, Try.ntmps80
  go_wp2_with fail
  go_quiet (fail)
  go_wp2
  go_ret
  exact ⟨retI (by first | exact HD.out | (rw [HD.out]; exact wrap64_in _ hd1 hd2)), _, rfl⟩
end
end Go.Proofs.Ytedihiodmgnlpaa
