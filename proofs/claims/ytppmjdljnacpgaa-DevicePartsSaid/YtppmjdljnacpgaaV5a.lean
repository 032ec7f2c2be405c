/-
  What an instruction makes of two words: the device's function.
-/
import Derived.Test.YtppmjdljnacpgaaV3
set_option linter.all false
namespace Go.Proofs.Ytppmjdljnacpgaa
open Go.ChangeShapes Go.WideShapes Go.ChangeAt Go.RowKit
set_option maxHeartbeats 4000000
set_option linter.unusedVariables false
set_option maxRecDepth 20000

theorem reck_19 (a b : Int) (w : World) (ha : 0 ≤ a) (ha1 : a < 4294967296) (hb : 0 ≤ b) (hb1 : b < 4294967296) : Calls Try.prog 59 #[.int .i64 19, .int .u32 a, .int .u32 b] w fun e w1 => e = .returned (.int .u32 (reckP (longP 19) a b)) ∧ w = w1 := by
  have C := Lib.hid (fun w => add_c a b w)
  go_enter Try.func59, Try.ntmps59
  go_wp2_with (go_at_call 65; (with_reducible refine (C.out _).mono ?_); rintro e w1 ⟨rfl, rfl⟩)
  go_ret
  exact ⟨rfl, rfl⟩
theorem reck_20 (a b : Int) (w : World) (ha : 0 ≤ a) (ha1 : a < 4294967296) (hb : 0 ≤ b) (hb1 : b < 4294967296) : Calls Try.prog 59 #[.int .i64 20, .int .u32 a, .int .u32 b] w fun e w1 => e = .returned (.int .u32 (reckP (longP 20) a b)) ∧ w = w1 := by
  have C := Lib.hid (fun w => less_c a b w ha ha1 hb hb1)
  go_enter Try.func59, Try.ntmps59
  go_wp2_with (go_at_call 60; (with_reducible refine (C.out _).mono ?_); rintro e w1 ⟨rfl, rfl⟩)
  go_ret
  exact ⟨rfl, rfl⟩
theorem reck_21 (a b : Int) (w : World) (ha : 0 ≤ a) (ha1 : a < 4294967296) (hb : 0 ≤ b) (hb1 : b < 4294967296) : Calls Try.prog 59 #[.int .i64 21, .int .u32 a, .int .u32 b] w fun e w1 => e = .returned (.int .u32 (reckP (longP 21) a b)) ∧ w = w1 := by
  have C := Lib.hid (fun w => lessu_c a b w ha ha1 hb hb1)
  go_enter Try.func59, Try.ntmps59
  go_wp2_with (go_at_call 61; (with_reducible refine (C.out _).mono ?_); rintro e w1 ⟨rfl, rfl⟩)
  go_ret
  exact ⟨rfl, rfl⟩
theorem reck_22 (a b : Int) (w : World) (ha : 0 ≤ a) (ha1 : a < 4294967296) (hb : 0 ≤ b) (hb1 : b < 4294967296) : Calls Try.prog 59 #[.int .i64 22, .int .u32 a, .int .u32 b] w fun e w1 => e = .returned (.int .u32 (reckP (longP 22) a b)) ∧ w = w1 := by
  go_enter Try.func59, Try.ntmps59
  go_wp2_with fail
  go_ret
  exact ⟨rfl, rfl⟩
theorem reck_23 (a b : Int) (w : World) (ha : 0 ≤ a) (ha1 : a < 4294967296) (hb : 0 ≤ b) (hb1 : b < 4294967296) : Calls Try.prog 59 #[.int .i64 23, .int .u32 a, .int .u32 b] w fun e w1 => e = .returned (.int .u32 (reckP (longP 23) a b)) ∧ w = w1 := by
  go_enter Try.func59, Try.ntmps59
  go_wp2_with fail
  go_ret
  exact ⟨rfl, rfl⟩
theorem reck_24 (a b : Int) (w : World) (ha : 0 ≤ a) (ha1 : a < 4294967296) (hb : 0 ≤ b) (hb1 : b < 4294967296) : Calls Try.prog 59 #[.int .i64 24, .int .u32 a, .int .u32 b] w fun e w1 => e = .returned (.int .u32 (reckP (longP 24) a b)) ∧ w = w1 := by
  go_enter Try.func59, Try.ntmps59
  go_wp2_with fail
  go_ret
  exact ⟨rfl, rfl⟩
theorem reck_25 (a b : Int) (w : World) (ha : 0 ≤ a) (ha1 : a < 4294967296) (hb : 0 ≤ b) (hb1 : b < 4294967296) : Calls Try.prog 59 #[.int .i64 25, .int .u32 a, .int .u32 b] w fun e w1 => e = .returned (.int .u32 (reckP (longP 25) a b)) ∧ w = w1 := by
  have C := Lib.hid (fun w => left_c a b w ha ha1 hb hb1)
  go_enter Try.func59, Try.ntmps59
  go_wp2_with (go_at_call 66; (with_reducible refine (C.out _).mono ?_); rintro e w1 ⟨rfl, rfl⟩)
  go_ret
  exact ⟨rfl, rfl⟩
theorem reck_26 (a b : Int) (w : World) (ha : 0 ≤ a) (ha1 : a < 4294967296) (hb : 0 ≤ b) (hb1 : b < 4294967296) : Calls Try.prog 59 #[.int .i64 26, .int .u32 a, .int .u32 b] w fun e w1 => e = .returned (.int .u32 (reckP (longP 26) a b)) ∧ w = w1 := by
  have C := Lib.hid (fun w => right_c a b w ha ha1 hb hb1)
  go_enter Try.func59, Try.ntmps59
  go_wp2_with (go_at_call 67; (with_reducible refine (C.out _).mono ?_); rintro e w1 ⟨rfl, rfl⟩)
  go_ret
  exact ⟨rfl, rfl⟩
theorem reck_27 (a b : Int) (w : World) (ha : 0 ≤ a) (ha1 : a < 4294967296) (hb : 0 ≤ b) (hb1 : b < 4294967296) : Calls Try.prog 59 #[.int .i64 27, .int .u32 a, .int .u32 b] w fun e w1 => e = .returned (.int .u32 (reckP (longP 27) a b)) ∧ w = w1 := by
  have C := Lib.hid (fun w => rights_c a b w ha ha1 hb hb1)
  go_enter Try.func59, Try.ntmps59
  go_wp2_with (go_at_call 68; (with_reducible refine (C.out _).mono ?_); rintro e w1 ⟨rfl, rfl⟩)
  go_ret
  exact ⟨rfl, rfl⟩
theorem reck_28 (a b : Int) (w : World) (ha : 0 ≤ a) (ha1 : a < 4294967296) (hb : 0 ≤ b) (hb1 : b < 4294967296) : Calls Try.prog 59 #[.int .i64 28, .int .u32 a, .int .u32 b] w fun e w1 => e = .returned (.int .u32 (reckP (longP 28) a b)) ∧ w = w1 := by
  have C := Lib.hid (fun w => add_c a b w)
  go_enter Try.func59, Try.ntmps59
  go_wp2_with (go_at_call 65; (with_reducible refine (C.out _).mono ?_); rintro e w1 ⟨rfl, rfl⟩)
  go_ret
  exact ⟨rfl, rfl⟩
theorem reck_29 (a b : Int) (w : World) (ha : 0 ≤ a) (ha1 : a < 4294967296) (hb : 0 ≤ b) (hb1 : b < 4294967296) : Calls Try.prog 59 #[.int .i64 29, .int .u32 a, .int .u32 b] w fun e w1 => e = .returned (.int .u32 (reckP (longP 29) a b)) ∧ w = w1 := by
  have C := Lib.hid (fun w => sub_c a b w)
  go_enter Try.func59, Try.ntmps59
  go_wp2_with (go_at_call 69; (with_reducible refine (C.out _).mono ?_); rintro e w1 ⟨rfl, rfl⟩)
  go_ret
  exact ⟨rfl, rfl⟩
theorem reck_30 (a b : Int) (w : World) (ha : 0 ≤ a) (ha1 : a < 4294967296) (hb : 0 ≤ b) (hb1 : b < 4294967296) : Calls Try.prog 59 #[.int .i64 30, .int .u32 a, .int .u32 b] w fun e w1 => e = .returned (.int .u32 (reckP (longP 30) a b)) ∧ w = w1 := by
  have C := Lib.hid (fun w => left_c a b w ha ha1 hb hb1)
  go_enter Try.func59, Try.ntmps59
  go_wp2_with (go_at_call 66; (with_reducible refine (C.out _).mono ?_); rintro e w1 ⟨rfl, rfl⟩)
  go_ret
  exact ⟨rfl, rfl⟩
theorem reck_31 (a b : Int) (w : World) (ha : 0 ≤ a) (ha1 : a < 4294967296) (hb : 0 ≤ b) (hb1 : b < 4294967296) : Calls Try.prog 59 #[.int .i64 31, .int .u32 a, .int .u32 b] w fun e w1 => e = .returned (.int .u32 (reckP (longP 31) a b)) ∧ w = w1 := by
  have C := Lib.hid (fun w => less_c a b w ha ha1 hb hb1)
  go_enter Try.func59, Try.ntmps59
  go_wp2_with (go_at_call 60; (with_reducible refine (C.out _).mono ?_); rintro e w1 ⟨rfl, rfl⟩)
  go_ret
  exact ⟨rfl, rfl⟩
end Go.Proofs.Ytppmjdljnacpgaa
