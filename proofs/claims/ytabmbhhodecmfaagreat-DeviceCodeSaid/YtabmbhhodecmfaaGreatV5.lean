/-
  What an instruction makes of two words: the device's function.
-/
import Derived.Test.YtabmbhhodecmfaaGreatV3
set_option linter.all false
namespace Go.Proofs.YtabmbhhodecmfaaGreat
open Go.ChangeShapes Go.WideShapes Go.ChangeAt Go.RowKit
set_option maxHeartbeats 4000000
set_option linter.unusedVariables false
set_option maxRecDepth 20000

theorem reck_19 (a b : Int) (w : World) (ha : 0 ≤ a) (ha1 : a < 4294967296) (hb : 0 ≤ b) (hb1 : b < 4294967296) : Calls Tryz.prog 36 #[.int .i64 19, .int .u32 a, .int .u32 b] w fun e w1 => e = .returned (.int .u32 (reckP (longP 19) a b)) ∧ w = w1 := by
  have C := Lib.hid (fun w => add_c a b w)
  go_enter Tryz.func36, Tryz.ntmps36
  go_wp2_with (go_at_call 61; (with_reducible refine (C.out _).mono ?_); rintro e w1 ⟨rfl, rfl⟩)
  go_ret
  exact ⟨rfl, rfl⟩
theorem reck_20 (a b : Int) (w : World) (ha : 0 ≤ a) (ha1 : a < 4294967296) (hb : 0 ≤ b) (hb1 : b < 4294967296) : Calls Tryz.prog 36 #[.int .i64 20, .int .u32 a, .int .u32 b] w fun e w1 => e = .returned (.int .u32 (reckP (longP 20) a b)) ∧ w = w1 := by
  have C := Lib.hid (fun w => less_c a b w ha ha1 hb hb1)
  go_enter Tryz.func36, Tryz.ntmps36
  go_wp2_with (go_at_call 55; (with_reducible refine (C.out _).mono ?_); rintro e w1 ⟨rfl, rfl⟩)
  go_ret
  exact ⟨rfl, rfl⟩
theorem reck_21 (a b : Int) (w : World) (ha : 0 ≤ a) (ha1 : a < 4294967296) (hb : 0 ≤ b) (hb1 : b < 4294967296) : Calls Tryz.prog 36 #[.int .i64 21, .int .u32 a, .int .u32 b] w fun e w1 => e = .returned (.int .u32 (reckP (longP 21) a b)) ∧ w = w1 := by
  have C := Lib.hid (fun w => lessu_c a b w ha ha1 hb hb1)
  go_enter Tryz.func36, Tryz.ntmps36
  go_wp2_with (go_at_call 56; (with_reducible refine (C.out _).mono ?_); rintro e w1 ⟨rfl, rfl⟩)
  go_ret
  exact ⟨rfl, rfl⟩
theorem reck_22 (a b : Int) (w : World) (ha : 0 ≤ a) (ha1 : a < 4294967296) (hb : 0 ≤ b) (hb1 : b < 4294967296) : Calls Tryz.prog 36 #[.int .i64 22, .int .u32 a, .int .u32 b] w fun e w1 => e = .returned (.int .u32 (reckP (longP 22) a b)) ∧ w = w1 := by
  go_enter Tryz.func36, Tryz.ntmps36
  go_wp2_with fail
  go_ret
  exact ⟨rfl, rfl⟩
theorem reck_23 (a b : Int) (w : World) (ha : 0 ≤ a) (ha1 : a < 4294967296) (hb : 0 ≤ b) (hb1 : b < 4294967296) : Calls Tryz.prog 36 #[.int .i64 23, .int .u32 a, .int .u32 b] w fun e w1 => e = .returned (.int .u32 (reckP (longP 23) a b)) ∧ w = w1 := by
  go_enter Tryz.func36, Tryz.ntmps36
  go_wp2_with fail
  go_ret
  exact ⟨rfl, rfl⟩
theorem reck_24 (a b : Int) (w : World) (ha : 0 ≤ a) (ha1 : a < 4294967296) (hb : 0 ≤ b) (hb1 : b < 4294967296) : Calls Tryz.prog 36 #[.int .i64 24, .int .u32 a, .int .u32 b] w fun e w1 => e = .returned (.int .u32 (reckP (longP 24) a b)) ∧ w = w1 := by
  go_enter Tryz.func36, Tryz.ntmps36
  go_wp2_with fail
  go_ret
  exact ⟨rfl, rfl⟩
theorem reck_25 (a b : Int) (w : World) (ha : 0 ≤ a) (ha1 : a < 4294967296) (hb : 0 ≤ b) (hb1 : b < 4294967296) : Calls Tryz.prog 36 #[.int .i64 25, .int .u32 a, .int .u32 b] w fun e w1 => e = .returned (.int .u32 (reckP (longP 25) a b)) ∧ w = w1 := by
  have C := Lib.hid (fun w => left_c a b w ha ha1 hb hb1)
  go_enter Tryz.func36, Tryz.ntmps36
  go_wp2_with (go_at_call 62; (with_reducible refine (C.out _).mono ?_); rintro e w1 ⟨rfl, rfl⟩)
  go_ret
  exact ⟨rfl, rfl⟩
theorem reck_26 (a b : Int) (w : World) (ha : 0 ≤ a) (ha1 : a < 4294967296) (hb : 0 ≤ b) (hb1 : b < 4294967296) : Calls Tryz.prog 36 #[.int .i64 26, .int .u32 a, .int .u32 b] w fun e w1 => e = .returned (.int .u32 (reckP (longP 26) a b)) ∧ w = w1 := by
  have C := Lib.hid (fun w => right_c a b w ha ha1 hb hb1)
  go_enter Tryz.func36, Tryz.ntmps36
  go_wp2_with (go_at_call 63; (with_reducible refine (C.out _).mono ?_); rintro e w1 ⟨rfl, rfl⟩)
  go_ret
  exact ⟨rfl, rfl⟩
theorem reck_27 (a b : Int) (w : World) (ha : 0 ≤ a) (ha1 : a < 4294967296) (hb : 0 ≤ b) (hb1 : b < 4294967296) : Calls Tryz.prog 36 #[.int .i64 27, .int .u32 a, .int .u32 b] w fun e w1 => e = .returned (.int .u32 (reckP (longP 27) a b)) ∧ w = w1 := by
  have C := Lib.hid (fun w => rights_c a b w ha ha1 hb hb1)
  go_enter Tryz.func36, Tryz.ntmps36
  go_wp2_with (go_at_call 64; (with_reducible refine (C.out _).mono ?_); rintro e w1 ⟨rfl, rfl⟩)
  go_ret
  exact ⟨rfl, rfl⟩
theorem reck_28 (a b : Int) (w : World) (ha : 0 ≤ a) (ha1 : a < 4294967296) (hb : 0 ≤ b) (hb1 : b < 4294967296) : Calls Tryz.prog 36 #[.int .i64 28, .int .u32 a, .int .u32 b] w fun e w1 => e = .returned (.int .u32 (reckP (longP 28) a b)) ∧ w = w1 := by
  have C := Lib.hid (fun w => add_c a b w)
  go_enter Tryz.func36, Tryz.ntmps36
  go_wp2_with (go_at_call 61; (with_reducible refine (C.out _).mono ?_); rintro e w1 ⟨rfl, rfl⟩)
  go_ret
  exact ⟨rfl, rfl⟩
theorem reck_29 (a b : Int) (w : World) (ha : 0 ≤ a) (ha1 : a < 4294967296) (hb : 0 ≤ b) (hb1 : b < 4294967296) : Calls Tryz.prog 36 #[.int .i64 29, .int .u32 a, .int .u32 b] w fun e w1 => e = .returned (.int .u32 (reckP (longP 29) a b)) ∧ w = w1 := by
  have C := Lib.hid (fun w => sub_c a b w)
  go_enter Tryz.func36, Tryz.ntmps36
  go_wp2_with (go_at_call 65; (with_reducible refine (C.out _).mono ?_); rintro e w1 ⟨rfl, rfl⟩)
  go_ret
  exact ⟨rfl, rfl⟩
theorem reck_30 (a b : Int) (w : World) (ha : 0 ≤ a) (ha1 : a < 4294967296) (hb : 0 ≤ b) (hb1 : b < 4294967296) : Calls Tryz.prog 36 #[.int .i64 30, .int .u32 a, .int .u32 b] w fun e w1 => e = .returned (.int .u32 (reckP (longP 30) a b)) ∧ w = w1 := by
  have C := Lib.hid (fun w => left_c a b w ha ha1 hb hb1)
  go_enter Tryz.func36, Tryz.ntmps36
  go_wp2_with (go_at_call 62; (with_reducible refine (C.out _).mono ?_); rintro e w1 ⟨rfl, rfl⟩)
  go_ret
  exact ⟨rfl, rfl⟩
theorem reck_31 (a b : Int) (w : World) (ha : 0 ≤ a) (ha1 : a < 4294967296) (hb : 0 ≤ b) (hb1 : b < 4294967296) : Calls Tryz.prog 36 #[.int .i64 31, .int .u32 a, .int .u32 b] w fun e w1 => e = .returned (.int .u32 (reckP (longP 31) a b)) ∧ w = w1 := by
  have C := Lib.hid (fun w => less_c a b w ha ha1 hb hb1)
  go_enter Tryz.func36, Tryz.ntmps36
  go_wp2_with (go_at_call 55; (with_reducible refine (C.out _).mono ?_); rintro e w1 ⟨rfl, rfl⟩)
  go_ret
  exact ⟨rfl, rfl⟩
theorem reck_32 (a b : Int) (w : World) (ha : 0 ≤ a) (ha1 : a < 4294967296) (hb : 0 ≤ b) (hb1 : b < 4294967296) : Calls Tryz.prog 36 #[.int .i64 32, .int .u32 a, .int .u32 b] w fun e w1 => e = .returned (.int .u32 (reckP (longP 32) a b)) ∧ w = w1 := by
  have C := Lib.hid (fun w => lessu_c a b w ha ha1 hb hb1)
  go_enter Tryz.func36, Tryz.ntmps36
  go_wp2_with (go_at_call 56; (with_reducible refine (C.out _).mono ?_); rintro e w1 ⟨rfl, rfl⟩)
  go_ret
  exact ⟨rfl, rfl⟩
theorem reck_33 (a b : Int) (w : World) (ha : 0 ≤ a) (ha1 : a < 4294967296) (hb : 0 ≤ b) (hb1 : b < 4294967296) : Calls Tryz.prog 36 #[.int .i64 33, .int .u32 a, .int .u32 b] w fun e w1 => e = .returned (.int .u32 (reckP (longP 33) a b)) ∧ w = w1 := by
  go_enter Tryz.func36, Tryz.ntmps36
  go_wp2_with fail
  go_ret
  exact ⟨rfl, rfl⟩
theorem reck_34 (a b : Int) (w : World) (ha : 0 ≤ a) (ha1 : a < 4294967296) (hb : 0 ≤ b) (hb1 : b < 4294967296) : Calls Tryz.prog 36 #[.int .i64 34, .int .u32 a, .int .u32 b] w fun e w1 => e = .returned (.int .u32 (reckP (longP 34) a b)) ∧ w = w1 := by
  have C := Lib.hid (fun w => right_c a b w ha ha1 hb hb1)
  go_enter Tryz.func36, Tryz.ntmps36
  go_wp2_with (go_at_call 63; (with_reducible refine (C.out _).mono ?_); rintro e w1 ⟨rfl, rfl⟩)
  go_ret
  exact ⟨rfl, rfl⟩
theorem reck_35 (a b : Int) (w : World) (ha : 0 ≤ a) (ha1 : a < 4294967296) (hb : 0 ≤ b) (hb1 : b < 4294967296) : Calls Tryz.prog 36 #[.int .i64 35, .int .u32 a, .int .u32 b] w fun e w1 => e = .returned (.int .u32 (reckP (longP 35) a b)) ∧ w = w1 := by
  have C := Lib.hid (fun w => rights_c a b w ha ha1 hb hb1)
  go_enter Tryz.func36, Tryz.ntmps36
  go_wp2_with (go_at_call 64; (with_reducible refine (C.out _).mono ?_); rintro e w1 ⟨rfl, rfl⟩)
  go_ret
  exact ⟨rfl, rfl⟩
theorem reck_36 (a b : Int) (w : World) (ha : 0 ≤ a) (ha1 : a < 4294967296) (hb : 0 ≤ b) (hb1 : b < 4294967296) : Calls Tryz.prog 36 #[.int .i64 36, .int .u32 a, .int .u32 b] w fun e w1 => e = .returned (.int .u32 (reckP (longP 36) a b)) ∧ w = w1 := by
  go_enter Tryz.func36, Tryz.ntmps36
  go_wp2_with fail
  go_ret
  exact ⟨rfl, rfl⟩
theorem reck_37 (a b : Int) (w : World) (ha : 0 ≤ a) (ha1 : a < 4294967296) (hb : 0 ≤ b) (hb1 : b < 4294967296) : Calls Tryz.prog 36 #[.int .i64 37, .int .u32 a, .int .u32 b] w fun e w1 => e = .returned (.int .u32 (reckP (longP 37) a b)) ∧ w = w1 := by
  go_enter Tryz.func36, Tryz.ntmps36
  go_wp2_with fail
  go_ret
  exact ⟨rfl, rfl⟩
theorem reck_38 (a b : Int) (w : World) (ha : 0 ≤ a) (ha1 : a < 4294967296) (hb : 0 ≤ b) (hb1 : b < 4294967296) : Calls Tryz.prog 36 #[.int .i64 38, .int .u32 a, .int .u32 b] w fun e w1 => e = .returned (.int .u32 (reckP (longP 38) a b)) ∧ w = w1 := by
  have C := Lib.hid (fun w => product_c 38 a b w (by decide) (by decide) ha ha1 hb hb1)
  go_enter Tryz.func36, Tryz.ntmps36
  go_wp2_with (go_at_call 66; (with_reducible refine (C.out _).mono ?_); rintro e w1 ⟨rfl, rfl⟩)
  go_ret
  exact ⟨rfl, rfl⟩
theorem reck_39 (a b : Int) (w : World) (ha : 0 ≤ a) (ha1 : a < 4294967296) (hb : 0 ≤ b) (hb1 : b < 4294967296) : Calls Tryz.prog 36 #[.int .i64 39, .int .u32 a, .int .u32 b] w fun e w1 => e = .returned (.int .u32 (reckP (longP 39) a b)) ∧ w = w1 := by
  have C := Lib.hid (fun w => product_c 39 a b w (by decide) (by decide) ha ha1 hb hb1)
  go_enter Tryz.func36, Tryz.ntmps36
  go_wp2_with (go_at_call 66; (with_reducible refine (C.out _).mono ?_); rintro e w1 ⟨rfl, rfl⟩)
  go_ret
  exact ⟨rfl, rfl⟩
theorem reck_40 (a b : Int) (w : World) (ha : 0 ≤ a) (ha1 : a < 4294967296) (hb : 0 ≤ b) (hb1 : b < 4294967296) : Calls Tryz.prog 36 #[.int .i64 40, .int .u32 a, .int .u32 b] w fun e w1 => e = .returned (.int .u32 (reckP (longP 40) a b)) ∧ w = w1 := by
  have C := Lib.hid (fun w => product_c 40 a b w (by decide) (by decide) ha ha1 hb hb1)
  go_enter Tryz.func36, Tryz.ntmps36
  go_wp2_with (go_at_call 66; (with_reducible refine (C.out _).mono ?_); rintro e w1 ⟨rfl, rfl⟩)
  go_ret
  exact ⟨rfl, rfl⟩
theorem reck_41 (a b : Int) (w : World) (ha : 0 ≤ a) (ha1 : a < 4294967296) (hb : 0 ≤ b) (hb1 : b < 4294967296) : Calls Tryz.prog 36 #[.int .i64 41, .int .u32 a, .int .u32 b] w fun e w1 => e = .returned (.int .u32 (reckP (longP 41) a b)) ∧ w = w1 := by
  have C := Lib.hid (fun w => product_c 41 a b w (by decide) (by decide) ha ha1 hb hb1)
  go_enter Tryz.func36, Tryz.ntmps36
  go_wp2_with (go_at_call 66; (with_reducible refine (C.out _).mono ?_); rintro e w1 ⟨rfl, rfl⟩)
  go_ret
  exact ⟨rfl, rfl⟩
theorem reck_42 (a b : Int) (w : World) (ha : 0 ≤ a) (ha1 : a < 4294967296) (hb : 0 ≤ b) (hb1 : b < 4294967296) : Calls Tryz.prog 36 #[.int .i64 42, .int .u32 a, .int .u32 b] w fun e w1 => e = .returned (.int .u32 (reckP (longP 42) a b)) ∧ w = w1 := by
  have C := Lib.hid (fun w => product_c 42 a b w (by decide) (by decide) ha ha1 hb hb1)
  go_enter Tryz.func36, Tryz.ntmps36
  go_wp2_with (go_at_call 66; (with_reducible refine (C.out _).mono ?_); rintro e w1 ⟨rfl, rfl⟩)
  go_ret
  exact ⟨rfl, rfl⟩
theorem reck_43 (a b : Int) (w : World) (ha : 0 ≤ a) (ha1 : a < 4294967296) (hb : 0 ≤ b) (hb1 : b < 4294967296) : Calls Tryz.prog 36 #[.int .i64 43, .int .u32 a, .int .u32 b] w fun e w1 => e = .returned (.int .u32 (reckP (longP 43) a b)) ∧ w = w1 := by
  have C := Lib.hid (fun w => product_c 43 a b w (by decide) (by decide) ha ha1 hb hb1)
  go_enter Tryz.func36, Tryz.ntmps36
  go_wp2_with (go_at_call 66; (with_reducible refine (C.out _).mono ?_); rintro e w1 ⟨rfl, rfl⟩)
  go_ret
  exact ⟨rfl, rfl⟩
theorem reck_44 (a b : Int) (w : World) (ha : 0 ≤ a) (ha1 : a < 4294967296) (hb : 0 ≤ b) (hb1 : b < 4294967296) : Calls Tryz.prog 36 #[.int .i64 44, .int .u32 a, .int .u32 b] w fun e w1 => e = .returned (.int .u32 (reckP (longP 44) a b)) ∧ w = w1 := by
  have C := Lib.hid (fun w => product_c 44 a b w (by decide) (by decide) ha ha1 hb hb1)
  go_enter Tryz.func36, Tryz.ntmps36
  go_wp2_with (go_at_call 66; (with_reducible refine (C.out _).mono ?_); rintro e w1 ⟨rfl, rfl⟩)
  go_ret
  exact ⟨rfl, rfl⟩
theorem reck_45 (a b : Int) (w : World) (ha : 0 ≤ a) (ha1 : a < 4294967296) (hb : 0 ≤ b) (hb1 : b < 4294967296) : Calls Tryz.prog 36 #[.int .i64 45, .int .u32 a, .int .u32 b] w fun e w1 => e = .returned (.int .u32 (reckP (longP 45) a b)) ∧ w = w1 := by
  have C := Lib.hid (fun w => product_c 45 a b w (by decide) (by decide) ha ha1 hb hb1)
  go_enter Tryz.func36, Tryz.ntmps36
  go_wp2_with (go_at_call 66; (with_reducible refine (C.out _).mono ?_); rintro e w1 ⟨rfl, rfl⟩)
  go_ret
  exact ⟨rfl, rfl⟩
theorem reckoned_c (op a b : Int) (w : World) (h : 19 ≤ op) (h' : op ≤ 45) (ha : 0 ≤ a) (ha1 : a < 4294967296) (hb : 0 ≤ b) (hb1 : b < 4294967296) :
    Calls Tryz.prog 36 #[.int .i64 op, .int .u32 a, .int .u32 b] w fun e w' => e = .returned (.int .u32 (reckP (longP op) a b)) ∧ w = w' := by
  have hc : op = 19 ∨ op = 20 ∨ op = 21 ∨ op = 22 ∨ op = 23 ∨ op = 24 ∨ op = 25 ∨ op = 26 ∨ op = 27 ∨ op = 28 ∨ op = 29 ∨ op = 30 ∨ op = 31 ∨ op = 32 ∨ op = 33 ∨ op = 34 ∨ op = 35 ∨ op = 36 ∨ op = 37 ∨ op = 38 ∨ op = 39 ∨ op = 40 ∨ op = 41 ∨ op = 42 ∨ op = 43 ∨ op = 44 ∨ op = 45 := by omega
  rcases hc with rfl | rfl | rfl | rfl | rfl | rfl | rfl | rfl | rfl | rfl | rfl | rfl | rfl | rfl | rfl | rfl | rfl | rfl | rfl | rfl | rfl | rfl | rfl | rfl | rfl | rfl | rfl
  · exact reck_19 a b w ha ha1 hb hb1
  · exact reck_20 a b w ha ha1 hb hb1
  · exact reck_21 a b w ha ha1 hb hb1
  · exact reck_22 a b w ha ha1 hb hb1
  · exact reck_23 a b w ha ha1 hb hb1
  · exact reck_24 a b w ha ha1 hb hb1
  · exact reck_25 a b w ha ha1 hb hb1
  · exact reck_26 a b w ha ha1 hb hb1
  · exact reck_27 a b w ha ha1 hb hb1
  · exact reck_28 a b w ha ha1 hb hb1
  · exact reck_29 a b w ha ha1 hb hb1
  · exact reck_30 a b w ha ha1 hb hb1
  · exact reck_31 a b w ha ha1 hb hb1
  · exact reck_32 a b w ha ha1 hb hb1
  · exact reck_33 a b w ha ha1 hb hb1
  · exact reck_34 a b w ha ha1 hb hb1
  · exact reck_35 a b w ha ha1 hb hb1
  · exact reck_36 a b w ha ha1 hb hb1
  · exact reck_37 a b w ha ha1 hb hb1
  · exact reck_38 a b w ha ha1 hb hb1
  · exact reck_39 a b w ha ha1 hb hb1
  · exact reck_40 a b w ha ha1 hb hb1
  · exact reck_41 a b w ha ha1 hb hb1
  · exact reck_42 a b w ha ha1 hb hb1
  · exact reck_43 a b w ha ha1 hb hb1
  · exact reck_44 a b w ha ha1 hb hb1
  · exact reck_45 a b w ha ha1 hb hb1
end Go.Proofs.YtabmbhhodecmfaaGreat
