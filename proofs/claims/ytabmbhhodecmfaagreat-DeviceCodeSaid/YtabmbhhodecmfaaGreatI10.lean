/-
  Contracts of the reference's Third, Name, Right, Word and Encode.
  Conditions: the numbers of an instruction lie within 64 bits.
-/
import Derived.Test.YtabmbhhodecmfaaGreatI7
import Derived.Test.YtabmbhhodecmfaaGreatI9
set_option linter.all false
namespace Go.Proofs.YtabmbhhodecmfaaGreat
open Go.ChangeShapes Go.WideShapes Go.ChangeAt Go.RowKit
set_option maxHeartbeats 1000000
set_option linter.unusedVariables false
set_option maxRecDepth 100000

attribute [local go_sem] pw_l0 pw_l1 pw_l2 pw_l3 pw_l4 pw_l5 pw_l6 pw_l7 pw_l8 pw_l9 pw_l10 pw_l11 pw_l12 pw_l13 pw_l14 pw_l15 pw_l16 pw_l17 pw_l18 pw_l19 pw_l20 pw_l21 pw_l22 pw_l23 pw_l24 pw_l25 pw_l26 pw_l27 pw_l28 pw_l29 pw_l30 pw_l31 pw_l32
def thA : List Value := [.int .i64 0, .int .i64 0, .int .i64 0, .int .i64 0, .int .i64 0, .int .i64 0, .int .i64 1, .int .i64 4, .int .i64 5, .int .i64 6, .int .i64 7, .int .i64 0, .int .i64 1, .int .i64 2, .int .i64 4, .int .i64 5, .int .i64 0, .int .i64 1, .int .i64 2, .int .i64 0, .int .i64 2, .int .i64 3, .int .i64 4, .int .i64 6, .int .i64 7, .int .i64 1, .int .i64 5, .int .i64 5, .int .i64 0, .int .i64 0, .int .i64 1, .int .i64 2, .int .i64 3, .int .i64 4, .int .i64 5, .int .i64 5, .int .i64 6, .int .i64 7, .int .i64 0, .int .i64 1, .int .i64 2, .int .i64 3, .int .i64 4, .int .i64 5, .int .i64 6, .int .i64 7]
def nmA : List Value := [.string ⟨#[]⟩, .string ⟨#[108, 117, 105]⟩, .string ⟨#[97, 117, 105, 112, 99]⟩, .string ⟨#[106, 97, 108]⟩, .string ⟨#[106, 97, 108, 114]⟩, .string ⟨#[98, 101, 113]⟩, .string ⟨#[98, 110, 101]⟩, .string ⟨#[98, 108, 116]⟩, .string ⟨#[98, 103, 101]⟩, .string ⟨#[98, 108, 116, 117]⟩, .string ⟨#[98, 103, 101, 117]⟩, .string ⟨#[108, 98]⟩, .string ⟨#[108, 104]⟩, .string ⟨#[108, 119]⟩, .string ⟨#[108, 98, 117]⟩, .string ⟨#[108, 104, 117]⟩, .string ⟨#[115, 98]⟩, .string ⟨#[115, 104]⟩, .string ⟨#[115, 119]⟩, .string ⟨#[97, 100, 100, 105]⟩, .string ⟨#[115, 108, 116, 105]⟩, .string ⟨#[115, 108, 116, 105, 117]⟩, .string ⟨#[120, 111, 114, 105]⟩, .string ⟨#[111, 114, 105]⟩, .string ⟨#[97, 110, 100, 105]⟩, .string ⟨#[115, 108, 108, 105]⟩, .string ⟨#[115, 114, 108, 105]⟩, .string ⟨#[115, 114, 97, 105]⟩, .string ⟨#[97, 100, 100]⟩, .string ⟨#[115, 117, 98]⟩, .string ⟨#[115, 108, 108]⟩, .string ⟨#[115, 108, 116]⟩, .string ⟨#[115, 108, 116, 117]⟩, .string ⟨#[120, 111, 114]⟩, .string ⟨#[115, 114, 108]⟩, .string ⟨#[115, 114, 97]⟩, .string ⟨#[111, 114]⟩, .string ⟨#[97, 110, 100]⟩, .string ⟨#[109, 117, 108]⟩, .string ⟨#[109, 117, 108, 104]⟩, .string ⟨#[109, 117, 108, 104, 115, 117]⟩, .string ⟨#[109, 117, 108, 104, 117]⟩, .string ⟨#[100, 105, 118]⟩, .string ⟨#[100, 105, 118, 117]⟩, .string ⟨#[114, 101, 109]⟩, .string ⟨#[114, 101, 109, 117]⟩]
theorem thA_at (k : Nat) (hk : k < 46) : thA[k]? = some (.int .i64 (th k)) := by
  have h : k = 0 ∨ k = 1 ∨ k = 2 ∨ k = 3 ∨ k = 4 ∨ k = 5 ∨ k = 6 ∨ k = 7 ∨ k = 8 ∨ k = 9 ∨ k = 10 ∨ k = 11 ∨ k = 12 ∨ k = 13 ∨ k = 14 ∨ k = 15 ∨ k = 16 ∨ k = 17 ∨ k = 18 ∨ k = 19 ∨ k = 20 ∨ k = 21 ∨ k = 22 ∨ k = 23 ∨ k = 24 ∨ k = 25 ∨ k = 26 ∨ k = 27 ∨ k = 28 ∨ k = 29 ∨ k = 30 ∨ k = 31 ∨ k = 32 ∨ k = 33 ∨ k = 34 ∨ k = 35 ∨ k = 36 ∨ k = 37 ∨ k = 38 ∨ k = 39 ∨ k = 40 ∨ k = 41 ∨ k = 42 ∨ k = 43 ∨ k = 44 ∨ k = 45 := by omega
  rcases h with rfl | rfl | rfl | rfl | rfl | rfl | rfl | rfl | rfl | rfl | rfl | rfl | rfl | rfl | rfl | rfl | rfl | rfl | rfl | rfl | rfl | rfl | rfl | rfl | rfl | rfl | rfl | rfl | rfl | rfl | rfl | rfl | rfl | rfl | rfl | rfl | rfl | rfl | rfl | rfl | rfl | rfl | rfl | rfl | rfl | rfl <;> rfl
theorem nmA_at (k : Nat) (hk : k < 46) : nmA[k]? = some (.string (nmB k)) := by
  have h : k = 0 ∨ k = 1 ∨ k = 2 ∨ k = 3 ∨ k = 4 ∨ k = 5 ∨ k = 6 ∨ k = 7 ∨ k = 8 ∨ k = 9 ∨ k = 10 ∨ k = 11 ∨ k = 12 ∨ k = 13 ∨ k = 14 ∨ k = 15 ∨ k = 16 ∨ k = 17 ∨ k = 18 ∨ k = 19 ∨ k = 20 ∨ k = 21 ∨ k = 22 ∨ k = 23 ∨ k = 24 ∨ k = 25 ∨ k = 26 ∨ k = 27 ∨ k = 28 ∨ k = 29 ∨ k = 30 ∨ k = 31 ∨ k = 32 ∨ k = 33 ∨ k = 34 ∨ k = 35 ∨ k = 36 ∨ k = 37 ∨ k = 38 ∨ k = 39 ∨ k = 40 ∨ k = 41 ∨ k = 42 ∨ k = 43 ∨ k = 44 ∨ k = 45 := by omega
  rcases h with rfl | rfl | rfl | rfl | rfl | rfl | rfl | rfl | rfl | rfl | rfl | rfl | rfl | rfl | rfl | rfl | rfl | rfl | rfl | rfl | rfl | rfl | rfl | rfl | rfl | rfl | rfl | rfl | rfl | rfl | rfl | rfl | rfl | rfl | rfl | rfl | rfl | rfl | rfl | rfl | rfl | rfl | rfl | rfl | rfl | rfl <;> rfl
theorem thA_get (k : Nat) (hk : k < 46) : thA[k]'(by show k < 46; exact hk) = .int .i64 (th k) := by
  have h := thA_at k hk
  rw [List.getElem?_eq_getElem (by show k < 46; exact hk)] at h
  exact Option.some.inj h
theorem nmA_get (k : Nat) (hk : k < 46) : nmA[k]'(by show k < 46; exact hk) = .string (nmB k) := by
  have h := nmA_at k hk
  rw [List.getElem?_eq_getElem (by show k < 46; exact hk)] at h
  exact Option.some.inj h
theorem rthird_c (k : Nat) (hk : k < 46) (w : World) :
    Calls Tryz.prog 72 #[.int .i64 (k : Int)] w fun e w' => e = .returned (.int .i64 (th k)) ∧ Below w.heap.size w w' := by
  go_enter Tryz.func72, Tryz.ntmps72
  go_wp2
  go_ret
  exact ⟨congrArg Ending.returned (thA_get k hk), Below.alloc (Below.refl _ _) (by simp) _⟩

theorem rright_R (op rd rs1 rs2 imm : Int) (w : World) (hf : fmI op = 82) :
    Calls Tryz.prog 41 #[.agg #[.int .i64 op, .int .i64 rd, .int .i64 rs1, .int .i64 rs2, .int .i64 imm]] w fun e w' => e = .returned (.bool (rightB op rd rs1 rs2 imm)) ∧ Below w.heap.size w w' := by
  have H := Lib.hid (right_eq op rd rs1 rs2 imm 82 true true true hf (by decide) rfl rfl rfl)
  have hc : decide (RegP rd true) = false ∨ (decide (RegP rd true) = true ∧ decide (RegP rs1 true) = false) ∨ (decide (RegP rd true) = true ∧ decide (RegP rs1 true) = true ∧ decide (RegP rs2 true) = false) ∨ (decide (RegP rd true) = true ∧ decide (RegP rs1 true) = true ∧ decide (RegP rs2 true) = true) := by
    cases decide (RegP rd true) <;> cases decide (RegP rs1 true) <;> cases decide (RegP rs2 true) <;> simp
  rcases hc with p1 | ⟨p1, p2⟩ | ⟨p1, p2, p3⟩ | ⟨p1, p2, p3⟩
  all_goals
    have G1 : Hid (∀ w, Calls Tryz.prog 69 #[.int .i64 rd, .bool true] w fun e w' => e = .returned (.bool _) ∧ w' = w) := fun w => (rreg_c rd true w).mono fun _ _ h => ⟨h.1.trans (congrArg (fun x => Ending.returned (.bool x)) p1), h.2.symm⟩
    try have G2 : Hid (∀ w, Calls Tryz.prog 69 #[.int .i64 rs1, .bool true] w fun e w' => e = .returned (.bool _) ∧ w' = w) := fun w => (rreg_c rs1 true w).mono fun _ _ h => ⟨h.1.trans (congrArg (fun x => Ending.returned (.bool x)) p2), h.2.symm⟩
    try have G3 : Hid (∀ w, Calls Tryz.prog 69 #[.int .i64 rs2, .bool true] w fun e w' => e = .returned (.bool _) ∧ w' = w) := fun w => (rreg_c rs2 true w).mono fun _ _ h => ⟨h.1.trans (congrArg (fun x => Ending.returned (.bool x)) p3), h.2.symm⟩
    go_enter Tryz.func41, Tryz.ntmps41
    go_wp2_with (go_at_call 37; refine (rform_c _ _).mono ?_; rintro e w1 ⟨rfl, rfl⟩)
    go_quiet ((first | (go_at_call 39; with_reducible exact Calls.quiet_of_same ((rhas_R1 _).mono fun _ _ h => ⟨h.1, h.2.symm⟩)) | (go_at_call 39; with_reducible exact Calls.quiet_of_same ((rhas_R2 _).mono fun _ _ h => ⟨h.1, h.2.symm⟩)) | (go_at_call 39; with_reducible exact Calls.quiet_of_same ((rhas_R3 _).mono fun _ _ h => ⟨h.1, h.2.symm⟩)) | (go_at_call 69; with_reducible exact Calls.quiet_of_same (G1.out _)) | (go_at_call 69; with_reducible exact Calls.quiet_of_same (G2.out _)) | (go_at_call 69; with_reducible exact Calls.quiet_of_same (G3.out _)) | (go_at_call 70; with_reducible exact Calls.quiet_of_same ((rroom_R _ _).mono fun _ _ h => ⟨h.1, h.2.symm⟩))))
    go_wp2
    go_ret
    exact ⟨ret_bool (by rw [H.out]; simp [*]), below_drewN' (Below.alloc (Below.refl _ _) (by simp) _) _⟩
theorem rright_I (op rd rs1 rs2 imm : Int) (w : World) (hf : fmI op = 73) :
    Calls Tryz.prog 41 #[.agg #[.int .i64 op, .int .i64 rd, .int .i64 rs1, .int .i64 rs2, .int .i64 imm]] w fun e w' => e = .returned (.bool (rightB op rd rs1 rs2 imm)) ∧ Below w.heap.size w w' := by
  have H := Lib.hid (right_eq op rd rs1 rs2 imm 73 true true false hf (by decide) rfl rfl rfl)
  have hc : decide (RegP rd true) = false ∨ (decide (RegP rd true) = true ∧ decide (RegP rs1 true) = false) ∨ (decide (RegP rd true) = true ∧ decide (RegP rs1 true) = true ∧ decide (RegP rs2 false) = false) ∨ (decide (RegP rd true) = true ∧ decide (RegP rs1 true) = true ∧ decide (RegP rs2 false) = true) := by
    cases decide (RegP rd true) <;> cases decide (RegP rs1 true) <;> cases decide (RegP rs2 false) <;> simp
  rcases hc with p1 | ⟨p1, p2⟩ | ⟨p1, p2, p3⟩ | ⟨p1, p2, p3⟩
  all_goals
    have G1 : Hid (∀ w, Calls Tryz.prog 69 #[.int .i64 rd, .bool true] w fun e w' => e = .returned (.bool _) ∧ w' = w) := fun w => (rreg_c rd true w).mono fun _ _ h => ⟨h.1.trans (congrArg (fun x => Ending.returned (.bool x)) p1), h.2.symm⟩
    try have G2 : Hid (∀ w, Calls Tryz.prog 69 #[.int .i64 rs1, .bool true] w fun e w' => e = .returned (.bool _) ∧ w' = w) := fun w => (rreg_c rs1 true w).mono fun _ _ h => ⟨h.1.trans (congrArg (fun x => Ending.returned (.bool x)) p2), h.2.symm⟩
    try have G3 : Hid (∀ w, Calls Tryz.prog 69 #[.int .i64 rs2, .bool false] w fun e w' => e = .returned (.bool _) ∧ w' = w) := fun w => (rreg_c rs2 false w).mono fun _ _ h => ⟨h.1.trans (congrArg (fun x => Ending.returned (.bool x)) p3), h.2.symm⟩
    go_enter Tryz.func41, Tryz.ntmps41
    go_wp2_with (go_at_call 37; refine (rform_c _ _).mono ?_; rintro e w1 ⟨rfl, rfl⟩)
    go_quiet ((first | (go_at_call 39; with_reducible exact Calls.quiet_of_same ((rhas_I1 _).mono fun _ _ h => ⟨h.1, h.2.symm⟩)) | (go_at_call 39; with_reducible exact Calls.quiet_of_same ((rhas_I2 _).mono fun _ _ h => ⟨h.1, h.2.symm⟩)) | (go_at_call 39; with_reducible exact Calls.quiet_of_same ((rhas_I3 _).mono fun _ _ h => ⟨h.1, h.2.symm⟩)) | (go_at_call 69; with_reducible exact Calls.quiet_of_same (G1.out _)) | (go_at_call 69; with_reducible exact Calls.quiet_of_same (G2.out _)) | (go_at_call 69; with_reducible exact Calls.quiet_of_same (G3.out _)) | (go_at_call 70; with_reducible exact Calls.quiet_of_same ((rroom_I _ _).mono fun _ _ h => ⟨h.1, h.2.symm⟩))))
    go_wp2
    go_ret
    exact ⟨ret_bool (by rw [H.out]; simp [*]), below_drewN' (Below.alloc (Below.refl _ _) (by simp) _) _⟩
theorem rright_H (op rd rs1 rs2 imm : Int) (w : World) (hf : fmI op = 72) :
    Calls Tryz.prog 41 #[.agg #[.int .i64 op, .int .i64 rd, .int .i64 rs1, .int .i64 rs2, .int .i64 imm]] w fun e w' => e = .returned (.bool (rightB op rd rs1 rs2 imm)) ∧ Below w.heap.size w w' := by
  have H := Lib.hid (right_eq op rd rs1 rs2 imm 72 true true false hf (by decide) rfl rfl rfl)
  have hc : decide (RegP rd true) = false ∨ (decide (RegP rd true) = true ∧ decide (RegP rs1 true) = false) ∨ (decide (RegP rd true) = true ∧ decide (RegP rs1 true) = true ∧ decide (RegP rs2 false) = false) ∨ (decide (RegP rd true) = true ∧ decide (RegP rs1 true) = true ∧ decide (RegP rs2 false) = true) := by
    cases decide (RegP rd true) <;> cases decide (RegP rs1 true) <;> cases decide (RegP rs2 false) <;> simp
  rcases hc with p1 | ⟨p1, p2⟩ | ⟨p1, p2, p3⟩ | ⟨p1, p2, p3⟩
  all_goals
    have G1 : Hid (∀ w, Calls Tryz.prog 69 #[.int .i64 rd, .bool true] w fun e w' => e = .returned (.bool _) ∧ w' = w) := fun w => (rreg_c rd true w).mono fun _ _ h => ⟨h.1.trans (congrArg (fun x => Ending.returned (.bool x)) p1), h.2.symm⟩
    try have G2 : Hid (∀ w, Calls Tryz.prog 69 #[.int .i64 rs1, .bool true] w fun e w' => e = .returned (.bool _) ∧ w' = w) := fun w => (rreg_c rs1 true w).mono fun _ _ h => ⟨h.1.trans (congrArg (fun x => Ending.returned (.bool x)) p2), h.2.symm⟩
    try have G3 : Hid (∀ w, Calls Tryz.prog 69 #[.int .i64 rs2, .bool false] w fun e w' => e = .returned (.bool _) ∧ w' = w) := fun w => (rreg_c rs2 false w).mono fun _ _ h => ⟨h.1.trans (congrArg (fun x => Ending.returned (.bool x)) p3), h.2.symm⟩
    go_enter Tryz.func41, Tryz.ntmps41
    go_wp2_with (go_at_call 37; refine (rform_c _ _).mono ?_; rintro e w1 ⟨rfl, rfl⟩)
    go_quiet ((first | (go_at_call 39; with_reducible exact Calls.quiet_of_same ((rhas_H1 _).mono fun _ _ h => ⟨h.1, h.2.symm⟩)) | (go_at_call 39; with_reducible exact Calls.quiet_of_same ((rhas_H2 _).mono fun _ _ h => ⟨h.1, h.2.symm⟩)) | (go_at_call 39; with_reducible exact Calls.quiet_of_same ((rhas_H3 _).mono fun _ _ h => ⟨h.1, h.2.symm⟩)) | (go_at_call 69; with_reducible exact Calls.quiet_of_same (G1.out _)) | (go_at_call 69; with_reducible exact Calls.quiet_of_same (G2.out _)) | (go_at_call 69; with_reducible exact Calls.quiet_of_same (G3.out _)) | (go_at_call 70; with_reducible exact Calls.quiet_of_same ((rroom_H _ _).mono fun _ _ h => ⟨h.1, h.2.symm⟩))))
    go_wp2
    go_ret
    exact ⟨ret_bool (by rw [H.out]; simp [*]), below_drewN' (Below.alloc (Below.refl _ _) (by simp) _) _⟩
theorem rright_U (op rd rs1 rs2 imm : Int) (w : World) (hf : fmI op = 85) :
    Calls Tryz.prog 41 #[.agg #[.int .i64 op, .int .i64 rd, .int .i64 rs1, .int .i64 rs2, .int .i64 imm]] w fun e w' => e = .returned (.bool (rightB op rd rs1 rs2 imm)) ∧ Below w.heap.size w w' := by
  have H := Lib.hid (right_eq op rd rs1 rs2 imm 85 true false false hf (by decide) rfl rfl rfl)
  have hc : decide (RegP rd true) = false ∨ (decide (RegP rd true) = true ∧ decide (RegP rs1 false) = false) ∨ (decide (RegP rd true) = true ∧ decide (RegP rs1 false) = true ∧ decide (RegP rs2 false) = false) ∨ (decide (RegP rd true) = true ∧ decide (RegP rs1 false) = true ∧ decide (RegP rs2 false) = true) := by
    cases decide (RegP rd true) <;> cases decide (RegP rs1 false) <;> cases decide (RegP rs2 false) <;> simp
  rcases hc with p1 | ⟨p1, p2⟩ | ⟨p1, p2, p3⟩ | ⟨p1, p2, p3⟩
  all_goals
    have G1 : Hid (∀ w, Calls Tryz.prog 69 #[.int .i64 rd, .bool true] w fun e w' => e = .returned (.bool _) ∧ w' = w) := fun w => (rreg_c rd true w).mono fun _ _ h => ⟨h.1.trans (congrArg (fun x => Ending.returned (.bool x)) p1), h.2.symm⟩
    try have G2 : Hid (∀ w, Calls Tryz.prog 69 #[.int .i64 rs1, .bool false] w fun e w' => e = .returned (.bool _) ∧ w' = w) := fun w => (rreg_c rs1 false w).mono fun _ _ h => ⟨h.1.trans (congrArg (fun x => Ending.returned (.bool x)) p2), h.2.symm⟩
    try have G3 : Hid (∀ w, Calls Tryz.prog 69 #[.int .i64 rs2, .bool false] w fun e w' => e = .returned (.bool _) ∧ w' = w) := fun w => (rreg_c rs2 false w).mono fun _ _ h => ⟨h.1.trans (congrArg (fun x => Ending.returned (.bool x)) p3), h.2.symm⟩
    go_enter Tryz.func41, Tryz.ntmps41
    go_wp2_with (go_at_call 37; refine (rform_c _ _).mono ?_; rintro e w1 ⟨rfl, rfl⟩)
    go_quiet ((first | (go_at_call 39; with_reducible exact Calls.quiet_of_same ((rhas_U1 _).mono fun _ _ h => ⟨h.1, h.2.symm⟩)) | (go_at_call 39; with_reducible exact Calls.quiet_of_same ((rhas_U2 _).mono fun _ _ h => ⟨h.1, h.2.symm⟩)) | (go_at_call 39; with_reducible exact Calls.quiet_of_same ((rhas_U3 _).mono fun _ _ h => ⟨h.1, h.2.symm⟩)) | (go_at_call 69; with_reducible exact Calls.quiet_of_same (G1.out _)) | (go_at_call 69; with_reducible exact Calls.quiet_of_same (G2.out _)) | (go_at_call 69; with_reducible exact Calls.quiet_of_same (G3.out _)) | (go_at_call 70; with_reducible exact Calls.quiet_of_same ((rroom_U _ _).mono fun _ _ h => ⟨h.1, h.2.symm⟩))))
    go_wp2
    go_ret
    exact ⟨ret_bool (by rw [H.out]; simp [*]), below_drewN' (Below.alloc (Below.refl _ _) (by simp) _) _⟩
theorem rright_J (op rd rs1 rs2 imm : Int) (w : World) (hf : fmI op = 74) :
    Calls Tryz.prog 41 #[.agg #[.int .i64 op, .int .i64 rd, .int .i64 rs1, .int .i64 rs2, .int .i64 imm]] w fun e w' => e = .returned (.bool (rightB op rd rs1 rs2 imm)) ∧ Below w.heap.size w w' := by
  have H := Lib.hid (right_eq op rd rs1 rs2 imm 74 true false false hf (by decide) rfl rfl rfl)
  have hc : decide (RegP rd true) = false ∨ (decide (RegP rd true) = true ∧ decide (RegP rs1 false) = false) ∨ (decide (RegP rd true) = true ∧ decide (RegP rs1 false) = true ∧ decide (RegP rs2 false) = false) ∨ (decide (RegP rd true) = true ∧ decide (RegP rs1 false) = true ∧ decide (RegP rs2 false) = true) := by
    cases decide (RegP rd true) <;> cases decide (RegP rs1 false) <;> cases decide (RegP rs2 false) <;> simp
  rcases hc with p1 | ⟨p1, p2⟩ | ⟨p1, p2, p3⟩ | ⟨p1, p2, p3⟩
  all_goals
    have G1 : Hid (∀ w, Calls Tryz.prog 69 #[.int .i64 rd, .bool true] w fun e w' => e = .returned (.bool _) ∧ w' = w) := fun w => (rreg_c rd true w).mono fun _ _ h => ⟨h.1.trans (congrArg (fun x => Ending.returned (.bool x)) p1), h.2.symm⟩
    try have G2 : Hid (∀ w, Calls Tryz.prog 69 #[.int .i64 rs1, .bool false] w fun e w' => e = .returned (.bool _) ∧ w' = w) := fun w => (rreg_c rs1 false w).mono fun _ _ h => ⟨h.1.trans (congrArg (fun x => Ending.returned (.bool x)) p2), h.2.symm⟩
    try have G3 : Hid (∀ w, Calls Tryz.prog 69 #[.int .i64 rs2, .bool false] w fun e w' => e = .returned (.bool _) ∧ w' = w) := fun w => (rreg_c rs2 false w).mono fun _ _ h => ⟨h.1.trans (congrArg (fun x => Ending.returned (.bool x)) p3), h.2.symm⟩
    go_enter Tryz.func41, Tryz.ntmps41
    go_wp2_with (go_at_call 37; refine (rform_c _ _).mono ?_; rintro e w1 ⟨rfl, rfl⟩)
    go_quiet ((first | (go_at_call 39; with_reducible exact Calls.quiet_of_same ((rhas_J1 _).mono fun _ _ h => ⟨h.1, h.2.symm⟩)) | (go_at_call 39; with_reducible exact Calls.quiet_of_same ((rhas_J2 _).mono fun _ _ h => ⟨h.1, h.2.symm⟩)) | (go_at_call 39; with_reducible exact Calls.quiet_of_same ((rhas_J3 _).mono fun _ _ h => ⟨h.1, h.2.symm⟩)) | (go_at_call 69; with_reducible exact Calls.quiet_of_same (G1.out _)) | (go_at_call 69; with_reducible exact Calls.quiet_of_same (G2.out _)) | (go_at_call 69; with_reducible exact Calls.quiet_of_same (G3.out _)) | (go_at_call 70; with_reducible exact Calls.quiet_of_same ((rroom_J _ _).mono fun _ _ h => ⟨h.1, h.2.symm⟩))))
    go_wp2
    go_ret
    exact ⟨ret_bool (by rw [H.out]; simp [*]), below_drewN' (Below.alloc (Below.refl _ _) (by simp) _) _⟩
theorem rright_S (op rd rs1 rs2 imm : Int) (w : World) (hf : fmI op = 83) :
    Calls Tryz.prog 41 #[.agg #[.int .i64 op, .int .i64 rd, .int .i64 rs1, .int .i64 rs2, .int .i64 imm]] w fun e w' => e = .returned (.bool (rightB op rd rs1 rs2 imm)) ∧ Below w.heap.size w w' := by
  have H := Lib.hid (right_eq op rd rs1 rs2 imm 83 false true true hf (by decide) rfl rfl rfl)
  have hc : decide (RegP rd false) = false ∨ (decide (RegP rd false) = true ∧ decide (RegP rs1 true) = false) ∨ (decide (RegP rd false) = true ∧ decide (RegP rs1 true) = true ∧ decide (RegP rs2 true) = false) ∨ (decide (RegP rd false) = true ∧ decide (RegP rs1 true) = true ∧ decide (RegP rs2 true) = true) := by
    cases decide (RegP rd false) <;> cases decide (RegP rs1 true) <;> cases decide (RegP rs2 true) <;> simp
  rcases hc with p1 | ⟨p1, p2⟩ | ⟨p1, p2, p3⟩ | ⟨p1, p2, p3⟩
  all_goals
    have G1 : Hid (∀ w, Calls Tryz.prog 69 #[.int .i64 rd, .bool false] w fun e w' => e = .returned (.bool _) ∧ w' = w) := fun w => (rreg_c rd false w).mono fun _ _ h => ⟨h.1.trans (congrArg (fun x => Ending.returned (.bool x)) p1), h.2.symm⟩
    try have G2 : Hid (∀ w, Calls Tryz.prog 69 #[.int .i64 rs1, .bool true] w fun e w' => e = .returned (.bool _) ∧ w' = w) := fun w => (rreg_c rs1 true w).mono fun _ _ h => ⟨h.1.trans (congrArg (fun x => Ending.returned (.bool x)) p2), h.2.symm⟩
    try have G3 : Hid (∀ w, Calls Tryz.prog 69 #[.int .i64 rs2, .bool true] w fun e w' => e = .returned (.bool _) ∧ w' = w) := fun w => (rreg_c rs2 true w).mono fun _ _ h => ⟨h.1.trans (congrArg (fun x => Ending.returned (.bool x)) p3), h.2.symm⟩
    go_enter Tryz.func41, Tryz.ntmps41
    go_wp2_with (go_at_call 37; refine (rform_c _ _).mono ?_; rintro e w1 ⟨rfl, rfl⟩)
    go_quiet ((first | (go_at_call 39; with_reducible exact Calls.quiet_of_same ((rhas_S1 _).mono fun _ _ h => ⟨h.1, h.2.symm⟩)) | (go_at_call 39; with_reducible exact Calls.quiet_of_same ((rhas_S2 _).mono fun _ _ h => ⟨h.1, h.2.symm⟩)) | (go_at_call 39; with_reducible exact Calls.quiet_of_same ((rhas_S3 _).mono fun _ _ h => ⟨h.1, h.2.symm⟩)) | (go_at_call 69; with_reducible exact Calls.quiet_of_same (G1.out _)) | (go_at_call 69; with_reducible exact Calls.quiet_of_same (G2.out _)) | (go_at_call 69; with_reducible exact Calls.quiet_of_same (G3.out _)) | (go_at_call 70; with_reducible exact Calls.quiet_of_same ((rroom_S _ _).mono fun _ _ h => ⟨h.1, h.2.symm⟩))))
    go_wp2
    go_ret
    exact ⟨ret_bool (by rw [H.out]; simp [*]), below_drewN' (Below.alloc (Below.refl _ _) (by simp) _) _⟩
theorem rright_B (op rd rs1 rs2 imm : Int) (w : World) (hf : fmI op = 66) :
    Calls Tryz.prog 41 #[.agg #[.int .i64 op, .int .i64 rd, .int .i64 rs1, .int .i64 rs2, .int .i64 imm]] w fun e w' => e = .returned (.bool (rightB op rd rs1 rs2 imm)) ∧ Below w.heap.size w w' := by
  have H := Lib.hid (right_eq op rd rs1 rs2 imm 66 false true true hf (by decide) rfl rfl rfl)
  have hc : decide (RegP rd false) = false ∨ (decide (RegP rd false) = true ∧ decide (RegP rs1 true) = false) ∨ (decide (RegP rd false) = true ∧ decide (RegP rs1 true) = true ∧ decide (RegP rs2 true) = false) ∨ (decide (RegP rd false) = true ∧ decide (RegP rs1 true) = true ∧ decide (RegP rs2 true) = true) := by
    cases decide (RegP rd false) <;> cases decide (RegP rs1 true) <;> cases decide (RegP rs2 true) <;> simp
  rcases hc with p1 | ⟨p1, p2⟩ | ⟨p1, p2, p3⟩ | ⟨p1, p2, p3⟩
  all_goals
    have G1 : Hid (∀ w, Calls Tryz.prog 69 #[.int .i64 rd, .bool false] w fun e w' => e = .returned (.bool _) ∧ w' = w) := fun w => (rreg_c rd false w).mono fun _ _ h => ⟨h.1.trans (congrArg (fun x => Ending.returned (.bool x)) p1), h.2.symm⟩
    try have G2 : Hid (∀ w, Calls Tryz.prog 69 #[.int .i64 rs1, .bool true] w fun e w' => e = .returned (.bool _) ∧ w' = w) := fun w => (rreg_c rs1 true w).mono fun _ _ h => ⟨h.1.trans (congrArg (fun x => Ending.returned (.bool x)) p2), h.2.symm⟩
    try have G3 : Hid (∀ w, Calls Tryz.prog 69 #[.int .i64 rs2, .bool true] w fun e w' => e = .returned (.bool _) ∧ w' = w) := fun w => (rreg_c rs2 true w).mono fun _ _ h => ⟨h.1.trans (congrArg (fun x => Ending.returned (.bool x)) p3), h.2.symm⟩
    go_enter Tryz.func41, Tryz.ntmps41
    go_wp2_with (go_at_call 37; refine (rform_c _ _).mono ?_; rintro e w1 ⟨rfl, rfl⟩)
    go_quiet ((first | (go_at_call 39; with_reducible exact Calls.quiet_of_same ((rhas_B1 _).mono fun _ _ h => ⟨h.1, h.2.symm⟩)) | (go_at_call 39; with_reducible exact Calls.quiet_of_same ((rhas_B2 _).mono fun _ _ h => ⟨h.1, h.2.symm⟩)) | (go_at_call 39; with_reducible exact Calls.quiet_of_same ((rhas_B3 _).mono fun _ _ h => ⟨h.1, h.2.symm⟩)) | (go_at_call 69; with_reducible exact Calls.quiet_of_same (G1.out _)) | (go_at_call 69; with_reducible exact Calls.quiet_of_same (G2.out _)) | (go_at_call 69; with_reducible exact Calls.quiet_of_same (G3.out _)) | (go_at_call 70; with_reducible exact Calls.quiet_of_same ((rroom_B _ _).mono fun _ _ h => ⟨h.1, h.2.symm⟩))))
    go_wp2
    go_ret
    exact ⟨ret_bool (by rw [H.out]; simp [*]), below_drewN' (Below.alloc (Below.refl _ _) (by simp) _) _⟩
theorem rright_0 (op rd rs1 rs2 imm : Int) (w : World) (hf : fmI op = 0) :
    Calls Tryz.prog 41 #[.agg #[.int .i64 op, .int .i64 rd, .int .i64 rs1, .int .i64 rs2, .int .i64 imm]] w fun e w' => e = .returned (.bool (rightB op rd rs1 rs2 imm)) ∧ Below w.heap.size w w' := by
  have H : Hid (rightB op rd rs1 rs2 imm = false) := by
    show _ = _
    unfold rightB
    rw [decide_eq_false_iff_not]
    exact fun h => h.form hf
  go_enter Tryz.func41, Tryz.ntmps41
  go_wp2_with (go_at_call 37; refine (rform_c _ _).mono ?_; rintro e w1 ⟨rfl, rfl⟩)
  go_quiet (fail)
  go_wp2
  go_ret
  exact ⟨ret_bool (by rw [H.out]), below_drewN' (Below.alloc (Below.refl _ _) (by simp) _) _⟩
theorem rright_c' (op rd rs1 rs2 imm : Int) (w : World) :
    Calls Tryz.prog 41 #[.agg #[.int .i64 op, .int .i64 rd, .int .i64 rs1, .int .i64 rs2, .int .i64 imm]] w fun e w' => e = .returned (.bool (rightB op rd rs1 rs2 imm)) ∧ Below w.heap.size w w' := by
  rcases fmI_forms op with h | h | h | h | h | h | h | h
  · exact rright_0 op rd rs1 rs2 imm w h
  · exact rright_R op rd rs1 rs2 imm w h
  · exact rright_I op rd rs1 rs2 imm w h
  · exact rright_H op rd rs1 rs2 imm w h
  · exact rright_U op rd rs1 rs2 imm w h
  · exact rright_J op rd rs1 rs2 imm w h
  · exact rright_S op rd rs1 rs2 imm w h
  · exact rright_B op rd rs1 rs2 imm w h
end Go.Proofs.YtabmbhhodecmfaaGreat
