/-
  What an instruction makes of two words: the device's function.
-/
import Derived.Test.YtppmjdljnacpgaaV3
set_option linter.all false
namespace Go.Proofs.Ytppmjdljnacpgaa
open Go.ChangeShapes Go.WideShapes Go.ChangeAt Go.RowKit
set_option maxHeartbeats 4000000
set_option linter.unusedVariables false
set_option maxRecDepth 20000

theorem reck_32 (a b : Int) (w : World) (ha : 0 ≤ a) (ha1 : a < 4294967296) (hb : 0 ≤ b) (hb1 : b < 4294967296) : Calls Try.prog 59 #[.int .i64 32, .int .u32 a, .int .u32 b] w fun e w1 => e = .returned (.int .u32 (reckP (longP 32) a b)) ∧ w = w1 := by
  have C := Lib.hid (fun w => lessu_c a b w ha ha1 hb hb1)
  go_enter Try.func59, Try.ntmps59
  go_wp2_with (go_at_call 61; (with_reducible refine (C.out _).mono ?_); rintro e w1 ⟨rfl, rfl⟩)
  go_ret
  exact ⟨rfl, rfl⟩
theorem reck_33 (a b : Int) (w : World) (ha : 0 ≤ a) (ha1 : a < 4294967296) (hb : 0 ≤ b) (hb1 : b < 4294967296) : Calls Try.prog 59 #[.int .i64 33, .int .u32 a, .int .u32 b] w fun e w1 => e = .returned (.int .u32 (reckP (longP 33) a b)) ∧ w = w1 := by
  go_enter Try.func59, Try.ntmps59
  go_wp2_with fail
  go_ret
  exact ⟨rfl, rfl⟩
theorem reck_34 (a b : Int) (w : World) (ha : 0 ≤ a) (ha1 : a < 4294967296) (hb : 0 ≤ b) (hb1 : b < 4294967296) : Calls Try.prog 59 #[.int .i64 34, .int .u32 a, .int .u32 b] w fun e w1 => e = .returned (.int .u32 (reckP (longP 34) a b)) ∧ w = w1 := by
  have C := Lib.hid (fun w => right_c a b w ha ha1 hb hb1)
  go_enter Try.func59, Try.ntmps59
  go_wp2_with (go_at_call 67; (with_reducible refine (C.out _).mono ?_); rintro e w1 ⟨rfl, rfl⟩)
  go_ret
  exact ⟨rfl, rfl⟩
theorem reck_35 (a b : Int) (w : World) (ha : 0 ≤ a) (ha1 : a < 4294967296) (hb : 0 ≤ b) (hb1 : b < 4294967296) : Calls Try.prog 59 #[.int .i64 35, .int .u32 a, .int .u32 b] w fun e w1 => e = .returned (.int .u32 (reckP (longP 35) a b)) ∧ w = w1 := by
  have C := Lib.hid (fun w => rights_c a b w ha ha1 hb hb1)
  go_enter Try.func59, Try.ntmps59
  go_wp2_with (go_at_call 68; (with_reducible refine (C.out _).mono ?_); rintro e w1 ⟨rfl, rfl⟩)
  go_ret
  exact ⟨rfl, rfl⟩
theorem reck_36 (a b : Int) (w : World) (ha : 0 ≤ a) (ha1 : a < 4294967296) (hb : 0 ≤ b) (hb1 : b < 4294967296) : Calls Try.prog 59 #[.int .i64 36, .int .u32 a, .int .u32 b] w fun e w1 => e = .returned (.int .u32 (reckP (longP 36) a b)) ∧ w = w1 := by
  go_enter Try.func59, Try.ntmps59
  go_wp2_with fail
  go_ret
  exact ⟨rfl, rfl⟩
theorem reck_37 (a b : Int) (w : World) (ha : 0 ≤ a) (ha1 : a < 4294967296) (hb : 0 ≤ b) (hb1 : b < 4294967296) : Calls Try.prog 59 #[.int .i64 37, .int .u32 a, .int .u32 b] w fun e w1 => e = .returned (.int .u32 (reckP (longP 37) a b)) ∧ w = w1 := by
  go_enter Try.func59, Try.ntmps59
  go_wp2_with fail
  go_ret
  exact ⟨rfl, rfl⟩
theorem reck_38 (a b : Int) (w : World) (ha : 0 ≤ a) (ha1 : a < 4294967296) (hb : 0 ≤ b) (hb1 : b < 4294967296) : Calls Try.prog 59 #[.int .i64 38, .int .u32 a, .int .u32 b] w fun e w1 => e = .returned (.int .u32 (reckP (longP 38) a b)) ∧ w = w1 := by
  have C := Lib.hid (fun w => product_c 38 a b w (by decide) (by decide) ha ha1 hb hb1)
  go_enter Try.func59, Try.ntmps59
  go_wp2_with (go_at_call 70; (with_reducible refine (C.out _).mono ?_); rintro e w1 ⟨rfl, rfl⟩)
  go_ret
  exact ⟨rfl, rfl⟩
theorem reck_39 (a b : Int) (w : World) (ha : 0 ≤ a) (ha1 : a < 4294967296) (hb : 0 ≤ b) (hb1 : b < 4294967296) : Calls Try.prog 59 #[.int .i64 39, .int .u32 a, .int .u32 b] w fun e w1 => e = .returned (.int .u32 (reckP (longP 39) a b)) ∧ w = w1 := by
  have C := Lib.hid (fun w => product_c 39 a b w (by decide) (by decide) ha ha1 hb hb1)
  go_enter Try.func59, Try.ntmps59
  go_wp2_with (go_at_call 70; (with_reducible refine (C.out _).mono ?_); rintro e w1 ⟨rfl, rfl⟩)
  go_ret
  exact ⟨rfl, rfl⟩
theorem reck_40 (a b : Int) (w : World) (ha : 0 ≤ a) (ha1 : a < 4294967296) (hb : 0 ≤ b) (hb1 : b < 4294967296) : Calls Try.prog 59 #[.int .i64 40, .int .u32 a, .int .u32 b] w fun e w1 => e = .returned (.int .u32 (reckP (longP 40) a b)) ∧ w = w1 := by
  have C := Lib.hid (fun w => product_c 40 a b w (by decide) (by decide) ha ha1 hb hb1)
  go_enter Try.func59, Try.ntmps59
  go_wp2_with (go_at_call 70; (with_reducible refine (C.out _).mono ?_); rintro e w1 ⟨rfl, rfl⟩)
  go_ret
  exact ⟨rfl, rfl⟩
theorem reck_41 (a b : Int) (w : World) (ha : 0 ≤ a) (ha1 : a < 4294967296) (hb : 0 ≤ b) (hb1 : b < 4294967296) : Calls Try.prog 59 #[.int .i64 41, .int .u32 a, .int .u32 b] w fun e w1 => e = .returned (.int .u32 (reckP (longP 41) a b)) ∧ w = w1 := by
  have C := Lib.hid (fun w => product_c 41 a b w (by decide) (by decide) ha ha1 hb hb1)
  go_enter Try.func59, Try.ntmps59
  go_wp2_with (go_at_call 70; (with_reducible refine (C.out _).mono ?_); rintro e w1 ⟨rfl, rfl⟩)
  go_ret
  exact ⟨rfl, rfl⟩
theorem reck_42 (a b : Int) (w : World) (ha : 0 ≤ a) (ha1 : a < 4294967296) (hb : 0 ≤ b) (hb1 : b < 4294967296) : Calls Try.prog 59 #[.int .i64 42, .int .u32 a, .int .u32 b] w fun e w1 => e = .returned (.int .u32 (reckP (longP 42) a b)) ∧ w = w1 := by
  have C := Lib.hid (fun w => product_c 42 a b w (by decide) (by decide) ha ha1 hb hb1)
  go_enter Try.func59, Try.ntmps59
  go_wp2_with (go_at_call 70; (with_reducible refine (C.out _).mono ?_); rintro e w1 ⟨rfl, rfl⟩)
  go_ret
  exact ⟨rfl, rfl⟩
theorem reck_43 (a b : Int) (w : World) (ha : 0 ≤ a) (ha1 : a < 4294967296) (hb : 0 ≤ b) (hb1 : b < 4294967296) : Calls Try.prog 59 #[.int .i64 43, .int .u32 a, .int .u32 b] w fun e w1 => e = .returned (.int .u32 (reckP (longP 43) a b)) ∧ w = w1 := by
  have C := Lib.hid (fun w => product_c 43 a b w (by decide) (by decide) ha ha1 hb hb1)
  go_enter Try.func59, Try.ntmps59
  go_wp2_with (go_at_call 70; (with_reducible refine (C.out _).mono ?_); rintro e w1 ⟨rfl, rfl⟩)
  go_ret
  exact ⟨rfl, rfl⟩
theorem reck_44 (a b : Int) (w : World) (ha : 0 ≤ a) (ha1 : a < 4294967296) (hb : 0 ≤ b) (hb1 : b < 4294967296) : Calls Try.prog 59 #[.int .i64 44, .int .u32 a, .int .u32 b] w fun e w1 => e = .returned (.int .u32 (reckP (longP 44) a b)) ∧ w = w1 := by
  have C := Lib.hid (fun w => product_c 44 a b w (by decide) (by decide) ha ha1 hb hb1)
  go_enter Try.func59, Try.ntmps59
  go_wp2_with (go_at_call 70; (with_reducible refine (C.out _).mono ?_); rintro e w1 ⟨rfl, rfl⟩)
  go_ret
  exact ⟨rfl, rfl⟩
theorem reck_45 (a b : Int) (w : World) (ha : 0 ≤ a) (ha1 : a < 4294967296) (hb : 0 ≤ b) (hb1 : b < 4294967296) : Calls Try.prog 59 #[.int .i64 45, .int .u32 a, .int .u32 b] w fun e w1 => e = .returned (.int .u32 (reckP (longP 45) a b)) ∧ w = w1 := by
  have C := Lib.hid (fun w => product_c 45 a b w (by decide) (by decide) ha ha1 hb hb1)
  go_enter Try.func59, Try.ntmps59
  go_wp2_with (go_at_call 70; (with_reducible refine (C.out _).mono ?_); rintro e w1 ⟨rfl, rfl⟩)
  go_ret
  exact ⟨rfl, rfl⟩
end Go.Proofs.Ytppmjdljnacpgaa
