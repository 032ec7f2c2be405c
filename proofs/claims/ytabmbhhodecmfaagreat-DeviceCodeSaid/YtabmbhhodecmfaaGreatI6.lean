/-
  Contracts of Form, Name, Right and fits of inst.
  Conditions: the numbers of an instruction lie within 64 bits, words between 0 and 2^32 - 1.
-/
import Derived.Test.YtabmbhhodecmfaaGreatI5
set_option linter.all false
namespace Go.Proofs.YtabmbhhodecmfaaGreat
open Go.ChangeShapes Go.WideShapes Go.ChangeAt Go.RowKit
set_option maxHeartbeats 400000
set_option linter.unusedVariables false
attribute [local go_sem] u32_m7

theorem below_drewN (B : Nat) (w : World) (n : Nat) : Below B w (w.drewN n) := ⟨rfl, rfl, rfl, Nat.le_refl _, fun _ _ => rfl⟩
theorem below_drewN' {B : Nat} {a w : World} (h : Below B a w) (n : Nat) : Below B a (w.drewN n) := ⟨h.os, h.tape, h.output, h.size, h.block⟩
theorem bcell {W w1 : World} (hb : Below W.heap.size W w1) : (∀ b o, b < W.heap.size → w1.cell? ⟨b, o, none⟩ = W.cell? ⟨b, o, none⟩) ∧ (∀ b o, b < W.heap.size → w1.frozen? ⟨b, o, none⟩ = W.frozen? ⟨b, o, none⟩) :=
  ⟨fun b o h => hb.cell (p := ⟨b, o, none⟩) h, fun b o h => hb.frozen (p := ⟨b, o, none⟩) h⟩
theorem field_name (a b c d e : Value) (w : World) : (Instr.field 91 (.agg #[a, b, c, d, e]) 0).run Tryz.prog w = .ok a w := by kernel_rfl
theorem field_form (a b c d e : Value) (w : World) : (Instr.field 91 (.agg #[a, b, c, d, e]) 1).run Tryz.prog w = .ok b w := by kernel_rfl
attribute [local go_sem] field_name field_form
/-- an instruction as a value -/
def instV (op rd rs1 rs2 imm : Int) : Value := .agg #[.int .i64 op, .int .i64 rd, .int .i64 rs1, .int .i64 rs2, .int .i64 imm]

theorem right_eq (op rd rs1 rs2 imm f : Int) (b1 b2 b3 : Bool) (hf : fmI op = f) (h0 : f ≠ 0) (h1 : hasRd f = b1) (h2 : hasRs1 f = b2) (h3 : hasRs2 f = b3) :
    rightB op rd rs1 rs2 imm = (decide (RegP rd b1) && decide (RegP rs1 b2) && decide (RegP rs2 b3) && decide (ReachP f imm)) := by
  subst hf h1 h2 h3
  unfold rightB
  rw [Bool.eq_iff_iff]
  simp only [decide_eq_true_eq, Bool.and_eq_true]
  exact ⟨fun ⟨a, b, c, d, e⟩ => ⟨⟨⟨b, c⟩, d⟩, e⟩, fun ⟨⟨⟨b, c⟩, d⟩, e⟩ => ⟨h0, b, c, d, e⟩⟩
theorem fmI_forms (op : Int) : fmI op = 0 ∨ fmI op = 82 ∨ fmI op = 73 ∨ fmI op = 72 ∨ fmI op = 85 ∨ fmI op = 74 ∨ fmI op = 83 ∨ fmI op = 66 := by
  by_cases h : 0 ≤ op ∧ op < 46
  · unfold fmI; rw [if_pos h]
    have := fm_all ⟨op.toNat, by omega⟩
    simp at this; omega
  · left; exact fmI_out op (by omega)
theorem fits_R (k : Nat) (hk : k < 46) (a : Int) (w : World) (h : 0 ≤ a) (h' : a < 4294967296) (hf : fm k = 82) (nm : ByteArray) :
    Calls Tryz.prog 51 #[.agg #[.string nm, .int .u8 (fm k), .int .u32 (cd k), .int .u32 (th k), .int .u32 (sv k)], .int .u32 a] w fun e w' => e = .returned (.bool (decide (fitsP k a))) ∧ Below w.heap.size w w' := by
  have H : Hid (decide (fitsP k a) = decide (a % 128 = cd k ∧ a / 4096 % 8 = th k ∧ a / 33554432 = sv k)) := by
    exact decide_eq_decide.2 (by unfold fitsP; rw [hf]; simp)
  by_cases q0 : a % 128 = cd k <;> by_cases q1 : a / 4096 % 8 = th k <;> by_cases q2 : a / 33554432 = sv k
  all_goals
    go_enter Tryz.func51, Tryz.ntmps51
    go_wp2
    try (go_quiet ((go_at_call 54; exact Calls.quiet_of ((bits_12_3 _ _ (by omega) (by omega)).mono fun _ _ h => ⟨h.1, h.2.elim fun n hn => ⟨n, hn.symm⟩⟩))); go_wp2)
    go_ret
    refine ⟨ret_bool (by rw [H.out]; simp [*]), ?_⟩
    first
      | exact below_drewN' (Below.alloc (Below.refl _ _) (by simp) _) _
      | exact Below.alloc (Below.refl _ _) (by simp) _
theorem fits_I (k : Nat) (hk : k < 46) (a : Int) (w : World) (h : 0 ≤ a) (h' : a < 4294967296) (hf : fm k = 73) (nm : ByteArray) :
    Calls Tryz.prog 51 #[.agg #[.string nm, .int .u8 (fm k), .int .u32 (cd k), .int .u32 (th k), .int .u32 (sv k)], .int .u32 a] w fun e w' => e = .returned (.bool (decide (fitsP k a))) ∧ Below w.heap.size w w' := by
  have H : Hid (decide (fitsP k a) = decide (a % 128 = cd k ∧ a / 4096 % 8 = th k)) := by
    exact decide_eq_decide.2 (by unfold fitsP; rw [hf]; simp)
  by_cases q0 : a % 128 = cd k <;> by_cases q1 : a / 4096 % 8 = th k
  all_goals
    go_enter Tryz.func51, Tryz.ntmps51
    go_wp2
    try (go_quiet ((go_at_call 54; exact Calls.quiet_of ((bits_12_3 _ _ (by omega) (by omega)).mono fun _ _ h => ⟨h.1, h.2.elim fun n hn => ⟨n, hn.symm⟩⟩))); go_wp2)
    go_ret
    refine ⟨ret_bool (by rw [H.out]; simp [*]), ?_⟩
    first
      | exact below_drewN' (Below.alloc (Below.refl _ _) (by simp) _) _
      | exact Below.alloc (Below.refl _ _) (by simp) _
theorem fits_H (k : Nat) (hk : k < 46) (a : Int) (w : World) (h : 0 ≤ a) (h' : a < 4294967296) (hf : fm k = 72) (nm : ByteArray) :
    Calls Tryz.prog 51 #[.agg #[.string nm, .int .u8 (fm k), .int .u32 (cd k), .int .u32 (th k), .int .u32 (sv k)], .int .u32 a] w fun e w' => e = .returned (.bool (decide (fitsP k a))) ∧ Below w.heap.size w w' := by
  have H : Hid (decide (fitsP k a) = decide (a % 128 = cd k ∧ a / 4096 % 8 = th k ∧ a / 33554432 = sv k)) := by
    exact decide_eq_decide.2 (by unfold fitsP; rw [hf]; simp)
  by_cases q0 : a % 128 = cd k <;> by_cases q1 : a / 4096 % 8 = th k <;> by_cases q2 : a / 33554432 = sv k
  all_goals
    go_enter Tryz.func51, Tryz.ntmps51
    go_wp2
    try (go_quiet ((go_at_call 54; exact Calls.quiet_of ((bits_12_3 _ _ (by omega) (by omega)).mono fun _ _ h => ⟨h.1, h.2.elim fun n hn => ⟨n, hn.symm⟩⟩))); go_wp2)
    go_ret
    refine ⟨ret_bool (by rw [H.out]; simp [*]), ?_⟩
    first
      | exact below_drewN' (Below.alloc (Below.refl _ _) (by simp) _) _
      | exact Below.alloc (Below.refl _ _) (by simp) _
theorem fits_U (k : Nat) (hk : k < 46) (a : Int) (w : World) (h : 0 ≤ a) (h' : a < 4294967296) (hf : fm k = 85) (nm : ByteArray) :
    Calls Tryz.prog 51 #[.agg #[.string nm, .int .u8 (fm k), .int .u32 (cd k), .int .u32 (th k), .int .u32 (sv k)], .int .u32 a] w fun e w' => e = .returned (.bool (decide (fitsP k a))) ∧ Below w.heap.size w w' := by
  have H : Hid (decide (fitsP k a) = decide (a % 128 = cd k)) := by
    exact decide_eq_decide.2 (by unfold fitsP; rw [hf]; simp)
  by_cases q0 : a % 128 = cd k
  all_goals
    go_enter Tryz.func51, Tryz.ntmps51
    go_wp2
    
    go_ret
    refine ⟨ret_bool (by rw [H.out]; simp [*]), ?_⟩
    first
      | exact below_drewN' (Below.alloc (Below.refl _ _) (by simp) _) _
      | exact Below.alloc (Below.refl _ _) (by simp) _
theorem fits_J (k : Nat) (hk : k < 46) (a : Int) (w : World) (h : 0 ≤ a) (h' : a < 4294967296) (hf : fm k = 74) (nm : ByteArray) :
    Calls Tryz.prog 51 #[.agg #[.string nm, .int .u8 (fm k), .int .u32 (cd k), .int .u32 (th k), .int .u32 (sv k)], .int .u32 a] w fun e w' => e = .returned (.bool (decide (fitsP k a))) ∧ Below w.heap.size w w' := by
  have H : Hid (decide (fitsP k a) = decide (a % 128 = cd k)) := by
    exact decide_eq_decide.2 (by unfold fitsP; rw [hf]; simp)
  by_cases q0 : a % 128 = cd k
  all_goals
    go_enter Tryz.func51, Tryz.ntmps51
    go_wp2
    
    go_ret
    refine ⟨ret_bool (by rw [H.out]; simp [*]), ?_⟩
    first
      | exact below_drewN' (Below.alloc (Below.refl _ _) (by simp) _) _
      | exact Below.alloc (Below.refl _ _) (by simp) _
theorem fits_S (k : Nat) (hk : k < 46) (a : Int) (w : World) (h : 0 ≤ a) (h' : a < 4294967296) (hf : fm k = 83) (nm : ByteArray) :
    Calls Tryz.prog 51 #[.agg #[.string nm, .int .u8 (fm k), .int .u32 (cd k), .int .u32 (th k), .int .u32 (sv k)], .int .u32 a] w fun e w' => e = .returned (.bool (decide (fitsP k a))) ∧ Below w.heap.size w w' := by
  have H : Hid (decide (fitsP k a) = decide (a % 128 = cd k ∧ a / 4096 % 8 = th k)) := by
    exact decide_eq_decide.2 (by unfold fitsP; rw [hf]; simp)
  by_cases q0 : a % 128 = cd k <;> by_cases q1 : a / 4096 % 8 = th k
  all_goals
    go_enter Tryz.func51, Tryz.ntmps51
    go_wp2
    try (go_quiet ((go_at_call 54; exact Calls.quiet_of ((bits_12_3 _ _ (by omega) (by omega)).mono fun _ _ h => ⟨h.1, h.2.elim fun n hn => ⟨n, hn.symm⟩⟩))); go_wp2)
    go_ret
    refine ⟨ret_bool (by rw [H.out]; simp [*]), ?_⟩
    first
      | exact below_drewN' (Below.alloc (Below.refl _ _) (by simp) _) _
      | exact Below.alloc (Below.refl _ _) (by simp) _
theorem fits_B (k : Nat) (hk : k < 46) (a : Int) (w : World) (h : 0 ≤ a) (h' : a < 4294967296) (hf : fm k = 66) (nm : ByteArray) :
    Calls Tryz.prog 51 #[.agg #[.string nm, .int .u8 (fm k), .int .u32 (cd k), .int .u32 (th k), .int .u32 (sv k)], .int .u32 a] w fun e w' => e = .returned (.bool (decide (fitsP k a))) ∧ Below w.heap.size w w' := by
  have H : Hid (decide (fitsP k a) = decide (a % 128 = cd k ∧ a / 4096 % 8 = th k)) := by
    exact decide_eq_decide.2 (by unfold fitsP; rw [hf]; simp)
  by_cases q0 : a % 128 = cd k <;> by_cases q1 : a / 4096 % 8 = th k
  all_goals
    go_enter Tryz.func51, Tryz.ntmps51
    go_wp2
    try (go_quiet ((go_at_call 54; exact Calls.quiet_of ((bits_12_3 _ _ (by omega) (by omega)).mono fun _ _ h => ⟨h.1, h.2.elim fun n hn => ⟨n, hn.symm⟩⟩))); go_wp2)
    go_ret
    refine ⟨ret_bool (by rw [H.out]; simp [*]), ?_⟩
    first
      | exact below_drewN' (Below.alloc (Below.refl _ _) (by simp) _) _
      | exact Below.alloc (Below.refl _ _) (by simp) _
end Go.Proofs.YtabmbhhodecmfaaGreat
