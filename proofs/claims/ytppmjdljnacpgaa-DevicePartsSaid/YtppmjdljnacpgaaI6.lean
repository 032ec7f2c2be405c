/-
  Contracts of Form, Name, Right and fits of inst.
  Conditions: the numbers of an instruction lie within 64 bits, words between 0 and 2^32 - 1.
-/
import Derived.Test.YtppmjdljnacpgaaI5
set_option linter.all false
namespace Go.Proofs.Ytppmjdljnacpgaa
open Go.ChangeShapes Go.WideShapes Go.ChangeAt Go.RowKit
set_option maxHeartbeats 400000
set_option linter.unusedVariables false
attribute [local go_sem] u32_m7

theorem below_drewN (B : Nat) (w : World) (n : Nat) : Below B w (w.drewN n) := ⟨rfl, rfl, rfl, Nat.le_refl _, fun _ _ => rfl⟩
theorem below_drewN' {B : Nat} {a w : World} (h : Below B a w) (n : Nat) : Below B a (w.drewN n) := ⟨h.os, h.tape, h.output, h.size, h.block⟩
theorem bcell {W w1 : World} (hb : Below W.heap.size W w1) : (∀ b o, b < W.heap.size → w1.cell? ⟨b, o, none⟩ = W.cell? ⟨b, o, none⟩) ∧ (∀ b o, b < W.heap.size → w1.frozen? ⟨b, o, none⟩ = W.frozen? ⟨b, o, none⟩) :=
  ⟨fun b o h => hb.cell (p := ⟨b, o, none⟩) h, fun b o h => hb.frozen (p := ⟨b, o, none⟩) h⟩
theorem field_name (a b c d e : Value) (w : World) : (Instr.field 55 (.agg #[a, b, c, d, e]) 0).run Try.prog w = .ok a w := by kernel_rfl
theorem field_form (a b c d e : Value) (w : World) : (Instr.field 55 (.agg #[a, b, c, d, e]) 1).run Try.prog w = .ok b w := by kernel_rfl
attribute [local go_sem] field_name field_form
/-- an instruction as a value -/
def instV (op rd rs1 rs2 imm : Int) : Value := .agg #[.int .i64 op, .int .i64 rd, .int .i64 rs1, .int .i64 rs2, .int .i64 imm]

theorem form_c (op : Int) (w : World) :
    Calls Try.prog 28 #[.int .i64 op] w fun e w' => e = .returned (.int .u8 (fmI op)) ∧ Below w.heap.size w w' := by
  by_cases h : 0 ≤ op ∧ op < 46
  · obtain ⟨k, rfl⟩ := Int.eq_ofNat_of_zero_le h.1
    have hk : k < 46 := by omega
    have hf := Lib.hid (fmI_nat k hk)
    clear h
    go_enter Try.func28, Try.ntmps28
    go_wp2_with (go_at_call 25; refine (of_in k (by omega) _).mono ?_; rintro e w' ⟨rfl, hb⟩)
    go_ret
    exact ⟨ret_int hf.out.symm, hb⟩
  · have hf := Lib.hid (fmI_out op (by omega))
    have h' : op < 0 ∨ 46 ≤ op := by omega
    clear h
    go_enter Try.func28, Try.ntmps28
    go_wp2_with (go_at_call 25; refine (of_out _ (by omega) _).mono ?_; rintro e w' ⟨rfl, hb⟩)
    go_ret
    exact ⟨ret_int hf.out.symm, hb⟩
theorem right_eq (op rd rs1 rs2 imm f : Int) (b1 b2 b3 : Bool) (hf : fmI op = f) (h0 : f ≠ 0) (h1 : hasRd f = b1) (h2 : hasRs1 f = b2) (h3 : hasRs2 f = b3) :
    rightB op rd rs1 rs2 imm = (decide (RegP rd b1) && decide (RegP rs1 b2) && decide (RegP rs2 b3) && decide (ReachP f imm)) := by
  subst hf h1 h2 h3
  unfold rightB
  rw [Bool.eq_iff_iff]
  simp only [decide_eq_true_eq, Bool.and_eq_true]
  exact ⟨fun ⟨a, b, c, d, e⟩ => ⟨⟨⟨b, c⟩, d⟩, e⟩, fun ⟨⟨⟨b, c⟩, d⟩, e⟩ => ⟨h0, b, c, d, e⟩⟩
theorem right_R (op rd rs1 rs2 imm : Int) (w : World) (hf : fmI op = 82) :
    Calls Try.prog 11 #[.agg #[.int .i64 op, .int .i64 rd, .int .i64 rs1, .int .i64 rs2, .int .i64 imm]] w fun e w' => e = .returned (.bool (rightB op rd rs1 rs2 imm)) ∧ Below w.heap.size w w' := by
  have H := Lib.hid (right_eq op rd rs1 rs2 imm 82 true true true hf (by decide) rfl rfl rfl)
  have hc : decide (RegP rd true) = false ∨ (decide (RegP rd true) = true ∧ decide (RegP rs1 true) = false) ∨ (decide (RegP rd true) = true ∧ decide (RegP rs1 true) = true ∧ decide (RegP rs2 true) = false) ∨ (decide (RegP rd true) = true ∧ decide (RegP rs1 true) = true ∧ decide (RegP rs2 true) = true) := by
    cases decide (RegP rd true) <;> cases decide (RegP rs1 true) <;> cases decide (RegP rs2 true) <;> simp
  rcases hc with p1 | ⟨p1, p2⟩ | ⟨p1, p2, p3⟩ | ⟨p1, p2, p3⟩
  all_goals
    go_enter Try.func11, Try.ntmps11
    go_wp2_with (first | (go_at_call 28; refine (form_c _ _).mono ?_; rintro e w1 ⟨rfl, hb1⟩; obtain ⟨hc1, hf1⟩ := bcell hb1) | (go_at_call 29; refine (needs_R _).mono ?_; rintro e w' ⟨rfl, rfl⟩) | (go_at_call 30; refine (register_c _ _ _).mono ?_; rintro e w' ⟨rfl, rfl⟩) | (go_at_call 31; refine (reaches_R _ _).mono ?_; rintro e w' ⟨rfl, rfl⟩))
    go_ret
    refine ⟨ret_bool (by rw [H.out]; simp [*]), ?_⟩
    simp at hb1
    exact Below.trans (Below.alloc (Below.refl _ _) (by simp) _) (hb1.mono (by simp))
theorem right_I (op rd rs1 rs2 imm : Int) (w : World) (hf : fmI op = 73) :
    Calls Try.prog 11 #[.agg #[.int .i64 op, .int .i64 rd, .int .i64 rs1, .int .i64 rs2, .int .i64 imm]] w fun e w' => e = .returned (.bool (rightB op rd rs1 rs2 imm)) ∧ Below w.heap.size w w' := by
  have H := Lib.hid (right_eq op rd rs1 rs2 imm 73 true true false hf (by decide) rfl rfl rfl)
  have hc : decide (RegP rd true) = false ∨ (decide (RegP rd true) = true ∧ decide (RegP rs1 true) = false) ∨ (decide (RegP rd true) = true ∧ decide (RegP rs1 true) = true ∧ decide (RegP rs2 false) = false) ∨ (decide (RegP rd true) = true ∧ decide (RegP rs1 true) = true ∧ decide (RegP rs2 false) = true) := by
    cases decide (RegP rd true) <;> cases decide (RegP rs1 true) <;> cases decide (RegP rs2 false) <;> simp
  rcases hc with p1 | ⟨p1, p2⟩ | ⟨p1, p2, p3⟩ | ⟨p1, p2, p3⟩
  all_goals
    go_enter Try.func11, Try.ntmps11
    go_wp2_with (first | (go_at_call 28; refine (form_c _ _).mono ?_; rintro e w1 ⟨rfl, hb1⟩; obtain ⟨hc1, hf1⟩ := bcell hb1) | (go_at_call 29; refine (needs_I _).mono ?_; rintro e w' ⟨rfl, rfl⟩) | (go_at_call 30; refine (register_c _ _ _).mono ?_; rintro e w' ⟨rfl, rfl⟩) | (go_at_call 31; refine (reaches_I _ _).mono ?_; rintro e w' ⟨rfl, rfl⟩))
    go_ret
    refine ⟨ret_bool (by rw [H.out]; simp [*]), ?_⟩
    simp at hb1
    exact Below.trans (Below.alloc (Below.refl _ _) (by simp) _) (hb1.mono (by simp))
theorem right_H (op rd rs1 rs2 imm : Int) (w : World) (hf : fmI op = 72) :
    Calls Try.prog 11 #[.agg #[.int .i64 op, .int .i64 rd, .int .i64 rs1, .int .i64 rs2, .int .i64 imm]] w fun e w' => e = .returned (.bool (rightB op rd rs1 rs2 imm)) ∧ Below w.heap.size w w' := by
  have H := Lib.hid (right_eq op rd rs1 rs2 imm 72 true true false hf (by decide) rfl rfl rfl)
  have hc : decide (RegP rd true) = false ∨ (decide (RegP rd true) = true ∧ decide (RegP rs1 true) = false) ∨ (decide (RegP rd true) = true ∧ decide (RegP rs1 true) = true ∧ decide (RegP rs2 false) = false) ∨ (decide (RegP rd true) = true ∧ decide (RegP rs1 true) = true ∧ decide (RegP rs2 false) = true) := by
    cases decide (RegP rd true) <;> cases decide (RegP rs1 true) <;> cases decide (RegP rs2 false) <;> simp
  rcases hc with p1 | ⟨p1, p2⟩ | ⟨p1, p2, p3⟩ | ⟨p1, p2, p3⟩
  all_goals
    go_enter Try.func11, Try.ntmps11
    go_wp2_with (first | (go_at_call 28; refine (form_c _ _).mono ?_; rintro e w1 ⟨rfl, hb1⟩; obtain ⟨hc1, hf1⟩ := bcell hb1) | (go_at_call 29; refine (needs_H _).mono ?_; rintro e w' ⟨rfl, rfl⟩) | (go_at_call 30; refine (register_c _ _ _).mono ?_; rintro e w' ⟨rfl, rfl⟩) | (go_at_call 31; refine (reaches_H _ _).mono ?_; rintro e w' ⟨rfl, rfl⟩))
    go_ret
    refine ⟨ret_bool (by rw [H.out]; simp [*]), ?_⟩
    simp at hb1
    exact Below.trans (Below.alloc (Below.refl _ _) (by simp) _) (hb1.mono (by simp))
theorem right_U (op rd rs1 rs2 imm : Int) (w : World) (hf : fmI op = 85) :
    Calls Try.prog 11 #[.agg #[.int .i64 op, .int .i64 rd, .int .i64 rs1, .int .i64 rs2, .int .i64 imm]] w fun e w' => e = .returned (.bool (rightB op rd rs1 rs2 imm)) ∧ Below w.heap.size w w' := by
  have H := Lib.hid (right_eq op rd rs1 rs2 imm 85 true false false hf (by decide) rfl rfl rfl)
  have hc : decide (RegP rd true) = false ∨ (decide (RegP rd true) = true ∧ decide (RegP rs1 false) = false) ∨ (decide (RegP rd true) = true ∧ decide (RegP rs1 false) = true ∧ decide (RegP rs2 false) = false) ∨ (decide (RegP rd true) = true ∧ decide (RegP rs1 false) = true ∧ decide (RegP rs2 false) = true) := by
    cases decide (RegP rd true) <;> cases decide (RegP rs1 false) <;> cases decide (RegP rs2 false) <;> simp
  rcases hc with p1 | ⟨p1, p2⟩ | ⟨p1, p2, p3⟩ | ⟨p1, p2, p3⟩
  all_goals
    go_enter Try.func11, Try.ntmps11
    go_wp2_with (first | (go_at_call 28; refine (form_c _ _).mono ?_; rintro e w1 ⟨rfl, hb1⟩; obtain ⟨hc1, hf1⟩ := bcell hb1) | (go_at_call 29; refine (needs_U _).mono ?_; rintro e w' ⟨rfl, rfl⟩) | (go_at_call 30; refine (register_c _ _ _).mono ?_; rintro e w' ⟨rfl, rfl⟩) | (go_at_call 31; refine (reaches_U _ _).mono ?_; rintro e w' ⟨rfl, rfl⟩))
    go_ret
    refine ⟨ret_bool (by rw [H.out]; simp [*]), ?_⟩
    simp at hb1
    exact Below.trans (Below.alloc (Below.refl _ _) (by simp) _) (hb1.mono (by simp))
theorem right_J (op rd rs1 rs2 imm : Int) (w : World) (hf : fmI op = 74) :
    Calls Try.prog 11 #[.agg #[.int .i64 op, .int .i64 rd, .int .i64 rs1, .int .i64 rs2, .int .i64 imm]] w fun e w' => e = .returned (.bool (rightB op rd rs1 rs2 imm)) ∧ Below w.heap.size w w' := by
  have H := Lib.hid (right_eq op rd rs1 rs2 imm 74 true false false hf (by decide) rfl rfl rfl)
  have hc : decide (RegP rd true) = false ∨ (decide (RegP rd true) = true ∧ decide (RegP rs1 false) = false) ∨ (decide (RegP rd true) = true ∧ decide (RegP rs1 false) = true ∧ decide (RegP rs2 false) = false) ∨ (decide (RegP rd true) = true ∧ decide (RegP rs1 false) = true ∧ decide (RegP rs2 false) = true) := by
    cases decide (RegP rd true) <;> cases decide (RegP rs1 false) <;> cases decide (RegP rs2 false) <;> simp
  rcases hc with p1 | ⟨p1, p2⟩ | ⟨p1, p2, p3⟩ | ⟨p1, p2, p3⟩
  all_goals
    go_enter Try.func11, Try.ntmps11
    go_wp2_with (first | (go_at_call 28; refine (form_c _ _).mono ?_; rintro e w1 ⟨rfl, hb1⟩; obtain ⟨hc1, hf1⟩ := bcell hb1) | (go_at_call 29; refine (needs_J _).mono ?_; rintro e w' ⟨rfl, rfl⟩) | (go_at_call 30; refine (register_c _ _ _).mono ?_; rintro e w' ⟨rfl, rfl⟩) | (go_at_call 31; refine (reaches_J _ _).mono ?_; rintro e w' ⟨rfl, rfl⟩))
    go_ret
    refine ⟨ret_bool (by rw [H.out]; simp [*]), ?_⟩
    simp at hb1
    exact Below.trans (Below.alloc (Below.refl _ _) (by simp) _) (hb1.mono (by simp))
theorem right_S (op rd rs1 rs2 imm : Int) (w : World) (hf : fmI op = 83) :
    Calls Try.prog 11 #[.agg #[.int .i64 op, .int .i64 rd, .int .i64 rs1, .int .i64 rs2, .int .i64 imm]] w fun e w' => e = .returned (.bool (rightB op rd rs1 rs2 imm)) ∧ Below w.heap.size w w' := by
  have H := Lib.hid (right_eq op rd rs1 rs2 imm 83 false true true hf (by decide) rfl rfl rfl)
  have hc : decide (RegP rd false) = false ∨ (decide (RegP rd false) = true ∧ decide (RegP rs1 true) = false) ∨ (decide (RegP rd false) = true ∧ decide (RegP rs1 true) = true ∧ decide (RegP rs2 true) = false) ∨ (decide (RegP rd false) = true ∧ decide (RegP rs1 true) = true ∧ decide (RegP rs2 true) = true) := by
    cases decide (RegP rd false) <;> cases decide (RegP rs1 true) <;> cases decide (RegP rs2 true) <;> simp
  rcases hc with p1 | ⟨p1, p2⟩ | ⟨p1, p2, p3⟩ | ⟨p1, p2, p3⟩
  all_goals
    go_enter Try.func11, Try.ntmps11
    go_wp2_with (first | (go_at_call 28; refine (form_c _ _).mono ?_; rintro e w1 ⟨rfl, hb1⟩; obtain ⟨hc1, hf1⟩ := bcell hb1) | (go_at_call 29; refine (needs_S _).mono ?_; rintro e w' ⟨rfl, rfl⟩) | (go_at_call 30; refine (register_c _ _ _).mono ?_; rintro e w' ⟨rfl, rfl⟩) | (go_at_call 31; refine (reaches_S _ _).mono ?_; rintro e w' ⟨rfl, rfl⟩))
    go_ret
    refine ⟨ret_bool (by rw [H.out]; simp [*]), ?_⟩
    simp at hb1
    exact Below.trans (Below.alloc (Below.refl _ _) (by simp) _) (hb1.mono (by simp))
theorem right_B (op rd rs1 rs2 imm : Int) (w : World) (hf : fmI op = 66) :
    Calls Try.prog 11 #[.agg #[.int .i64 op, .int .i64 rd, .int .i64 rs1, .int .i64 rs2, .int .i64 imm]] w fun e w' => e = .returned (.bool (rightB op rd rs1 rs2 imm)) ∧ Below w.heap.size w w' := by
  have H := Lib.hid (right_eq op rd rs1 rs2 imm 66 false true true hf (by decide) rfl rfl rfl)
  have hc : decide (RegP rd false) = false ∨ (decide (RegP rd false) = true ∧ decide (RegP rs1 true) = false) ∨ (decide (RegP rd false) = true ∧ decide (RegP rs1 true) = true ∧ decide (RegP rs2 true) = false) ∨ (decide (RegP rd false) = true ∧ decide (RegP rs1 true) = true ∧ decide (RegP rs2 true) = true) := by
    cases decide (RegP rd false) <;> cases decide (RegP rs1 true) <;> cases decide (RegP rs2 true) <;> simp
  rcases hc with p1 | ⟨p1, p2⟩ | ⟨p1, p2, p3⟩ | ⟨p1, p2, p3⟩
  all_goals
    go_enter Try.func11, Try.ntmps11
    go_wp2_with (first | (go_at_call 28; refine (form_c _ _).mono ?_; rintro e w1 ⟨rfl, hb1⟩; obtain ⟨hc1, hf1⟩ := bcell hb1) | (go_at_call 29; refine (needs_B _).mono ?_; rintro e w' ⟨rfl, rfl⟩) | (go_at_call 30; refine (register_c _ _ _).mono ?_; rintro e w' ⟨rfl, rfl⟩) | (go_at_call 31; refine (reaches_B _ _).mono ?_; rintro e w' ⟨rfl, rfl⟩))
    go_ret
    refine ⟨ret_bool (by rw [H.out]; simp [*]), ?_⟩
    simp at hb1
    exact Below.trans (Below.alloc (Below.refl _ _) (by simp) _) (hb1.mono (by simp))
theorem right_0 (op rd rs1 rs2 imm : Int) (w : World) (hf : fmI op = 0) :
    Calls Try.prog 11 #[.agg #[.int .i64 op, .int .i64 rd, .int .i64 rs1, .int .i64 rs2, .int .i64 imm]] w fun e w' => e = .returned (.bool (rightB op rd rs1 rs2 imm)) ∧ Below w.heap.size w w' := by
  have H : Hid (rightB op rd rs1 rs2 imm = false) := by
    show _ = _
    unfold rightB
    rw [decide_eq_false_iff_not]
    exact fun h => h.form hf
  go_enter Try.func11, Try.ntmps11
  go_wp2_with (go_at_call 28; refine (form_c _ _).mono ?_; rintro e w1 ⟨rfl, hb1⟩; obtain ⟨hc1, hf1⟩ := bcell hb1)
  go_ret
  refine ⟨ret_bool (by rw [H.out]), ?_⟩
  simp at hb1
  exact Below.trans (Below.alloc (Below.refl _ _) (by simp) _) (hb1.mono (by simp))
theorem fmI_forms (op : Int) : fmI op = 0 ∨ fmI op = 82 ∨ fmI op = 73 ∨ fmI op = 72 ∨ fmI op = 85 ∨ fmI op = 74 ∨ fmI op = 83 ∨ fmI op = 66 := by
  by_cases h : 0 ≤ op ∧ op < 46
  · unfold fmI; rw [if_pos h]
    have := fm_all ⟨op.toNat, by omega⟩
    simp at this; omega
  · left; exact fmI_out op (by omega)
theorem iright_c (op rd rs1 rs2 imm : Int) (w : World) :
    Calls Try.prog 11 #[.agg #[.int .i64 op, .int .i64 rd, .int .i64 rs1, .int .i64 rs2, .int .i64 imm]] w fun e w' => e = .returned (.bool (rightB op rd rs1 rs2 imm)) ∧ Below w.heap.size w w' := by
  rcases fmI_forms op with h | h | h | h | h | h | h | h
  · exact right_0 op rd rs1 rs2 imm w h
  · exact right_R op rd rs1 rs2 imm w h
  · exact right_I op rd rs1 rs2 imm w h
  · exact right_H op rd rs1 rs2 imm w h
  · exact right_U op rd rs1 rs2 imm w h
  · exact right_J op rd rs1 rs2 imm w h
  · exact right_S op rd rs1 rs2 imm w h
  · exact right_B op rd rs1 rs2 imm w h
theorem fits_R (k : Nat) (hk : k < 46) (a : Int) (w : World) (h : 0 ≤ a) (h' : a < 4294967296) (hf : fm k = 82) (nm : ByteArray) :
    Calls Try.prog 37 #[.agg #[.string nm, .int .u8 (fm k), .int .u32 (cd k), .int .u32 (th k), .int .u32 (sv k)], .int .u32 a] w fun e w' => e = .returned (.bool (decide (fitsP k a))) ∧ Below w.heap.size w w' := by
  have H : Hid (decide (fitsP k a) = decide (a % 128 = cd k ∧ a / 4096 % 8 = th k ∧ a / 33554432 = sv k)) := by
    exact decide_eq_decide.2 (by unfold fitsP; rw [hf]; simp)
  by_cases q0 : a % 128 = cd k <;> by_cases q1 : a / 4096 % 8 = th k <;> by_cases q2 : a / 33554432 = sv k
  all_goals
    go_enter Try.func37, Try.ntmps37
    go_wp2
    try (go_quiet ((go_at_call 39; exact Calls.quiet_of ((bits_12_3 _ _ (by omega) (by omega)).mono fun _ _ h => ⟨h.1, h.2.elim fun n hn => ⟨n, hn.symm⟩⟩))); go_wp2)
    go_ret
    refine ⟨ret_bool (by rw [H.out]; simp [*]), ?_⟩
    first
      | exact below_drewN' (Below.alloc (Below.refl _ _) (by simp) _) _
      | exact Below.alloc (Below.refl _ _) (by simp) _
theorem fits_I (k : Nat) (hk : k < 46) (a : Int) (w : World) (h : 0 ≤ a) (h' : a < 4294967296) (hf : fm k = 73) (nm : ByteArray) :
    Calls Try.prog 37 #[.agg #[.string nm, .int .u8 (fm k), .int .u32 (cd k), .int .u32 (th k), .int .u32 (sv k)], .int .u32 a] w fun e w' => e = .returned (.bool (decide (fitsP k a))) ∧ Below w.heap.size w w' := by
  have H : Hid (decide (fitsP k a) = decide (a % 128 = cd k ∧ a / 4096 % 8 = th k)) := by
    exact decide_eq_decide.2 (by unfold fitsP; rw [hf]; simp)
  by_cases q0 : a % 128 = cd k <;> by_cases q1 : a / 4096 % 8 = th k
  all_goals
    go_enter Try.func37, Try.ntmps37
    go_wp2
    try (go_quiet ((go_at_call 39; exact Calls.quiet_of ((bits_12_3 _ _ (by omega) (by omega)).mono fun _ _ h => ⟨h.1, h.2.elim fun n hn => ⟨n, hn.symm⟩⟩))); go_wp2)
    go_ret
    refine ⟨ret_bool (by rw [H.out]; simp [*]), ?_⟩
    first
      | exact below_drewN' (Below.alloc (Below.refl _ _) (by simp) _) _
      | exact Below.alloc (Below.refl _ _) (by simp) _
theorem fits_H (k : Nat) (hk : k < 46) (a : Int) (w : World) (h : 0 ≤ a) (h' : a < 4294967296) (hf : fm k = 72) (nm : ByteArray) :
    Calls Try.prog 37 #[.agg #[.string nm, .int .u8 (fm k), .int .u32 (cd k), .int .u32 (th k), .int .u32 (sv k)], .int .u32 a] w fun e w' => e = .returned (.bool (decide (fitsP k a))) ∧ Below w.heap.size w w' := by
  have H : Hid (decide (fitsP k a) = decide (a % 128 = cd k ∧ a / 4096 % 8 = th k ∧ a / 33554432 = sv k)) := by
    exact decide_eq_decide.2 (by unfold fitsP; rw [hf]; simp)
  by_cases q0 : a % 128 = cd k <;> by_cases q1 : a / 4096 % 8 = th k <;> by_cases q2 : a / 33554432 = sv k
  all_goals
    go_enter Try.func37, Try.ntmps37
    go_wp2
    try (go_quiet ((go_at_call 39; exact Calls.quiet_of ((bits_12_3 _ _ (by omega) (by omega)).mono fun _ _ h => ⟨h.1, h.2.elim fun n hn => ⟨n, hn.symm⟩⟩))); go_wp2)
    go_ret
    refine ⟨ret_bool (by rw [H.out]; simp [*]), ?_⟩
    first
      | exact below_drewN' (Below.alloc (Below.refl _ _) (by simp) _) _
      | exact Below.alloc (Below.refl _ _) (by simp) _
theorem fits_U (k : Nat) (hk : k < 46) (a : Int) (w : World) (h : 0 ≤ a) (h' : a < 4294967296) (hf : fm k = 85) (nm : ByteArray) :
    Calls Try.prog 37 #[.agg #[.string nm, .int .u8 (fm k), .int .u32 (cd k), .int .u32 (th k), .int .u32 (sv k)], .int .u32 a] w fun e w' => e = .returned (.bool (decide (fitsP k a))) ∧ Below w.heap.size w w' := by
  have H : Hid (decide (fitsP k a) = decide (a % 128 = cd k)) := by
    exact decide_eq_decide.2 (by unfold fitsP; rw [hf]; simp)
  by_cases q0 : a % 128 = cd k
  all_goals
    go_enter Try.func37, Try.ntmps37
    go_wp2
    
    go_ret
    refine ⟨ret_bool (by rw [H.out]; simp [*]), ?_⟩
    first
      | exact below_drewN' (Below.alloc (Below.refl _ _) (by simp) _) _
      | exact Below.alloc (Below.refl _ _) (by simp) _
theorem fits_J (k : Nat) (hk : k < 46) (a : Int) (w : World) (h : 0 ≤ a) (h' : a < 4294967296) (hf : fm k = 74) (nm : ByteArray) :
    Calls Try.prog 37 #[.agg #[.string nm, .int .u8 (fm k), .int .u32 (cd k), .int .u32 (th k), .int .u32 (sv k)], .int .u32 a] w fun e w' => e = .returned (.bool (decide (fitsP k a))) ∧ Below w.heap.size w w' := by
  have H : Hid (decide (fitsP k a) = decide (a % 128 = cd k)) := by
    exact decide_eq_decide.2 (by unfold fitsP; rw [hf]; simp)
  by_cases q0 : a % 128 = cd k
  all_goals
    go_enter Try.func37, Try.ntmps37
    go_wp2
    
    go_ret
    refine ⟨ret_bool (by rw [H.out]; simp [*]), ?_⟩
    first
      | exact below_drewN' (Below.alloc (Below.refl _ _) (by simp) _) _
      | exact Below.alloc (Below.refl _ _) (by simp) _
theorem fits_S (k : Nat) (hk : k < 46) (a : Int) (w : World) (h : 0 ≤ a) (h' : a < 4294967296) (hf : fm k = 83) (nm : ByteArray) :
    Calls Try.prog 37 #[.agg #[.string nm, .int .u8 (fm k), .int .u32 (cd k), .int .u32 (th k), .int .u32 (sv k)], .int .u32 a] w fun e w' => e = .returned (.bool (decide (fitsP k a))) ∧ Below w.heap.size w w' := by
  have H : Hid (decide (fitsP k a) = decide (a % 128 = cd k ∧ a / 4096 % 8 = th k)) := by
    exact decide_eq_decide.2 (by unfold fitsP; rw [hf]; simp)
  by_cases q0 : a % 128 = cd k <;> by_cases q1 : a / 4096 % 8 = th k
  all_goals
    go_enter Try.func37, Try.ntmps37
    go_wp2
    try (go_quiet ((go_at_call 39; exact Calls.quiet_of ((bits_12_3 _ _ (by omega) (by omega)).mono fun _ _ h => ⟨h.1, h.2.elim fun n hn => ⟨n, hn.symm⟩⟩))); go_wp2)
    go_ret
    refine ⟨ret_bool (by rw [H.out]; simp [*]), ?_⟩
    first
      | exact below_drewN' (Below.alloc (Below.refl _ _) (by simp) _) _
      | exact Below.alloc (Below.refl _ _) (by simp) _
theorem fits_B (k : Nat) (hk : k < 46) (a : Int) (w : World) (h : 0 ≤ a) (h' : a < 4294967296) (hf : fm k = 66) (nm : ByteArray) :
    Calls Try.prog 37 #[.agg #[.string nm, .int .u8 (fm k), .int .u32 (cd k), .int .u32 (th k), .int .u32 (sv k)], .int .u32 a] w fun e w' => e = .returned (.bool (decide (fitsP k a))) ∧ Below w.heap.size w w' := by
  have H : Hid (decide (fitsP k a) = decide (a % 128 = cd k ∧ a / 4096 % 8 = th k)) := by
    exact decide_eq_decide.2 (by unfold fitsP; rw [hf]; simp)
  by_cases q0 : a % 128 = cd k <;> by_cases q1 : a / 4096 % 8 = th k
  all_goals
    go_enter Try.func37, Try.ntmps37
    go_wp2
    try (go_quiet ((go_at_call 39; exact Calls.quiet_of ((bits_12_3 _ _ (by omega) (by omega)).mono fun _ _ h => ⟨h.1, h.2.elim fun n hn => ⟨n, hn.symm⟩⟩))); go_wp2)
    go_ret
    refine ⟨ret_bool (by rw [H.out]; simp [*]), ?_⟩
    first
      | exact below_drewN' (Below.alloc (Below.refl _ _) (by simp) _) _
      | exact Below.alloc (Below.refl _ _) (by simp) _
end Go.Proofs.Ytppmjdljnacpgaa
