/-
  Contracts of the functions of inst on forms and numbers: bits, needs, register, reaches, number, told.
  Conditions: words lie between 0 and 2^32 - 1; the form is one of the letters.
-/
import Derived.Test.YtppmjdljnacpgaaI2
import Derived.Test.YtppmjdljnacpgaaI3
set_option linter.all false
namespace Go.Proofs.Ytppmjdljnacpgaa
open Go.ChangeShapes Go.WideShapes Go.ChangeAt Go.RowKit
set_option maxHeartbeats 400000
set_option linter.unusedVariables false

theorem u32_m1 (x : Int) (h₀ : 0 ≤ x) (h₁ : x < 4294967296) : bits .and .u32 x 1 = x % 2 := bits_mask .u32 32 (by decide) wraps_u32 1 (by decide) x h₀ h₁
theorem u32_m3 (x : Int) (h₀ : 0 ≤ x) (h₁ : x < 4294967296) : bits .and .u32 x 7 = x % 8 := bits_mask .u32 32 (by decide) wraps_u32 3 (by decide) x h₀ h₁
theorem u32_m4 (x : Int) (h₀ : 0 ≤ x) (h₁ : x < 4294967296) : bits .and .u32 x 15 = x % 16 := bits_mask .u32 32 (by decide) wraps_u32 4 (by decide) x h₀ h₁
theorem u32_m5 (x : Int) (h₀ : 0 ≤ x) (h₁ : x < 4294967296) : bits .and .u32 x 31 = x % 32 := bits_mask .u32 32 (by decide) wraps_u32 5 (by decide) x h₀ h₁
theorem u32_m6 (x : Int) (h₀ : 0 ≤ x) (h₁ : x < 4294967296) : bits .and .u32 x 63 = x % 64 := bits_mask .u32 32 (by decide) wraps_u32 6 (by decide) x h₀ h₁
theorem u32_m7 (x : Int) (h₀ : 0 ≤ x) (h₁ : x < 4294967296) : bits .and .u32 x 127 = x % 128 := bits_mask .u32 32 (by decide) wraps_u32 7 (by decide) x h₀ h₁
theorem u32_m8 (x : Int) (h₀ : 0 ≤ x) (h₁ : x < 4294967296) : bits .and .u32 x 255 = x % 256 := bits_mask .u32 32 (by decide) wraps_u32 8 (by decide) x h₀ h₁
theorem u32_m10 (x : Int) (h₀ : 0 ≤ x) (h₁ : x < 4294967296) : bits .and .u32 x 1023 = x % 1024 := bits_mask .u32 32 (by decide) wraps_u32 10 (by decide) x h₀ h₁
theorem u32_m12 (x : Int) (h₀ : 0 ≤ x) (h₁ : x < 4294967296) : bits .and .u32 x 4095 = x % 4096 := bits_mask .u32 32 (by decide) wraps_u32 12 (by decide) x h₀ h₁
attribute [local go_sem] u32_m1 u32_m3 u32_m4 u32_m5 u32_m6 u32_m7 u32_m8 u32_m10 u32_m12

/-- bits that do not meet are added -/
theorem or_mid (x y : Int) (i j : Nat) (hij : i ≤ j) (hj : j ≤ 32) (hx₀ : 0 ≤ x) (hx₁ : x < 4294967296) (hx : x % 2 ^ j < 2 ^ i) (hy₀ : 0 ≤ y) (hy₁ : y < 2 ^ j) (hy : y % 2 ^ i = 0) :
    bits .or .u32 x y = x + y := by
  obtain ⟨a, rfl⟩ := Int.eq_ofNat_of_zero_le hx₀
  obtain ⟨b, rfl⟩ := Int.eq_ofNat_of_zero_le hy₀
  have ha : a < 2 ^ 32 := by omega
  have hb' : b < 2 ^ j := by exact_mod_cast hy₁
  have hb : b < 2 ^ 32 := Nat.lt_of_lt_of_le hb' (Nat.pow_le_pow_right (by decide) hj)
  have hd : b % 2 ^ i = 0 := by exact_mod_cast hy
  have hr : a % 2 ^ j < 2 ^ i := by exact_mod_cast hx
  clear hx₀ hx₁ hx hy₀ hy₁ hy
  rw [(bits_nat .u32 32 (by decide) wraps_u32 a b ha hb).2]
  have e1 : a = 2 ^ j * (a / 2 ^ j) + a % 2 ^ j := (Nat.div_add_mod a _).symm
  have e2 : b = 2 ^ i * (b / 2 ^ i) := by have := Nat.div_add_mod b (2 ^ i); omega
  have e3 : a % 2 ^ j ||| b = a % 2 ^ j + b := by
    rw [Nat.or_comm]
    rw [show (b : Nat) ||| a % 2 ^ j = (2 ^ i * (b / 2 ^ i)) ||| a % 2 ^ j from by rw [← e2]]
    rw [← Nat.two_pow_add_eq_or_of_lt hr, ← e2]; omega
  have e5 : a % 2 ^ j + b < 2 ^ j := by
    have h1 : b / 2 ^ i < 2 ^ (j - i) := by
      have : 2 ^ j = 2 ^ i * 2 ^ (j - i) := by rw [← Nat.pow_add]; congr 1; omega
      rw [this] at hb'
      exact Nat.div_lt_of_lt_mul hb'
    have h2 : 2 ^ i * (b / 2 ^ i + 1) ≤ 2 ^ i * 2 ^ (j - i) := Nat.mul_le_mul_left _ h1
    rw [← Nat.pow_add, show i + (j - i) = j by omega, Nat.mul_add, ← e2] at h2
    omega
  have e4 : a ||| b = a + b := by
    rw [show a ||| b = (2 ^ j * (a / 2 ^ j) + a % 2 ^ j) ||| b from by rw [← e1]]
    rw [Nat.two_pow_add_eq_or_of_lt (Nat.lt_of_lt_of_le hr (Nat.pow_le_pow_right (by decide) hij)), Nat.or_assoc, e3]
    rw [← Nat.two_pow_add_eq_or_of_lt e5]; omega
  rw [e4]; simp

theorem bits_0_5 (a : Int) (w : World) (h : 0 ≤ a) (h' : a < 4294967296) :
    Calls Try.prog 39 #[.int .u32 a, .int .i64 0, .int .i64 5] w fun e w' => e = .returned (.int .u32 (a % 32)) ∧ ∃ n, w.drewN n = w' := by
  have hd : 0 ≤ a / 1 ∧ a / 1 < 4294967296 := by omega
  go_enter Try.func39, Try.ntmps39
  go_wp2_with fail
  go_quiet (fail)
  go_wp2
  go_ret
  exact ⟨rfl, _, rfl⟩
theorem bits_1_4 (a : Int) (w : World) (h : 0 ≤ a) (h' : a < 4294967296) :
    Calls Try.prog 39 #[.int .u32 a, .int .i64 1, .int .i64 4] w fun e w' => e = .returned (.int .u32 (a / 2 % 16)) ∧ ∃ n, w.drewN n = w' := by
  have hd : 0 ≤ a / 2 ∧ a / 2 < 4294967296 := by omega
  go_enter Try.func39, Try.ntmps39
  go_wp2_with fail
  go_quiet (fail)
  go_wp2
  go_ret
  exact ⟨rfl, _, rfl⟩
theorem bits_1_10 (a : Int) (w : World) (h : 0 ≤ a) (h' : a < 4294967296) :
    Calls Try.prog 39 #[.int .u32 a, .int .i64 1, .int .i64 10] w fun e w' => e = .returned (.int .u32 (a / 2 % 1024)) ∧ ∃ n, w.drewN n = w' := by
  have hd : 0 ≤ a / 2 ∧ a / 2 < 4294967296 := by omega
  go_enter Try.func39, Try.ntmps39
  go_wp2_with fail
  go_quiet (fail)
  go_wp2
  go_ret
  exact ⟨rfl, _, rfl⟩
theorem bits_5_6 (a : Int) (w : World) (h : 0 ≤ a) (h' : a < 4294967296) :
    Calls Try.prog 39 #[.int .u32 a, .int .i64 5, .int .i64 6] w fun e w' => e = .returned (.int .u32 (a / 32 % 64)) ∧ ∃ n, w.drewN n = w' := by
  have hd : 0 ≤ a / 32 ∧ a / 32 < 4294967296 := by omega
  go_enter Try.func39, Try.ntmps39
  go_wp2_with fail
  go_quiet (fail)
  go_wp2
  go_ret
  exact ⟨rfl, _, rfl⟩
theorem bits_5_7 (a : Int) (w : World) (h : 0 ≤ a) (h' : a < 4294967296) :
    Calls Try.prog 39 #[.int .u32 a, .int .i64 5, .int .i64 7] w fun e w' => e = .returned (.int .u32 (a / 32 % 128)) ∧ ∃ n, w.drewN n = w' := by
  have hd : 0 ≤ a / 32 ∧ a / 32 < 4294967296 := by omega
  go_enter Try.func39, Try.ntmps39
  go_wp2_with fail
  go_quiet (fail)
  go_wp2
  go_ret
  exact ⟨rfl, _, rfl⟩
theorem bits_7_1 (a : Int) (w : World) (h : 0 ≤ a) (h' : a < 4294967296) :
    Calls Try.prog 39 #[.int .u32 a, .int .i64 7, .int .i64 1] w fun e w' => e = .returned (.int .u32 (a / 128 % 2)) ∧ ∃ n, w.drewN n = w' := by
  have hd : 0 ≤ a / 128 ∧ a / 128 < 4294967296 := by omega
  go_enter Try.func39, Try.ntmps39
  go_wp2_with fail
  go_quiet (fail)
  go_wp2
  go_ret
  exact ⟨rfl, _, rfl⟩
theorem bits_7_5 (a : Int) (w : World) (h : 0 ≤ a) (h' : a < 4294967296) :
    Calls Try.prog 39 #[.int .u32 a, .int .i64 7, .int .i64 5] w fun e w' => e = .returned (.int .u32 (a / 128 % 32)) ∧ ∃ n, w.drewN n = w' := by
  have hd : 0 ≤ a / 128 ∧ a / 128 < 4294967296 := by omega
  go_enter Try.func39, Try.ntmps39
  go_wp2_with fail
  go_quiet (fail)
  go_wp2
  go_ret
  exact ⟨rfl, _, rfl⟩
theorem bits_8_4 (a : Int) (w : World) (h : 0 ≤ a) (h' : a < 4294967296) :
    Calls Try.prog 39 #[.int .u32 a, .int .i64 8, .int .i64 4] w fun e w' => e = .returned (.int .u32 (a / 256 % 16)) ∧ ∃ n, w.drewN n = w' := by
  have hd : 0 ≤ a / 256 ∧ a / 256 < 4294967296 := by omega
  go_enter Try.func39, Try.ntmps39
  go_wp2_with fail
  go_quiet (fail)
  go_wp2
  go_ret
  exact ⟨rfl, _, rfl⟩
theorem bits_11_1 (a : Int) (w : World) (h : 0 ≤ a) (h' : a < 4294967296) :
    Calls Try.prog 39 #[.int .u32 a, .int .i64 11, .int .i64 1] w fun e w' => e = .returned (.int .u32 (a / 2048 % 2)) ∧ ∃ n, w.drewN n = w' := by
  have hd : 0 ≤ a / 2048 ∧ a / 2048 < 4294967296 := by omega
  go_enter Try.func39, Try.ntmps39
  go_wp2_with fail
  go_quiet (fail)
  go_wp2
  go_ret
  exact ⟨rfl, _, rfl⟩
theorem bits_12_1 (a : Int) (w : World) (h : 0 ≤ a) (h' : a < 4294967296) :
    Calls Try.prog 39 #[.int .u32 a, .int .i64 12, .int .i64 1] w fun e w' => e = .returned (.int .u32 (a / 4096 % 2)) ∧ ∃ n, w.drewN n = w' := by
  have hd : 0 ≤ a / 4096 ∧ a / 4096 < 4294967296 := by omega
  go_enter Try.func39, Try.ntmps39
  go_wp2_with fail
  go_quiet (fail)
  go_wp2
  go_ret
  exact ⟨rfl, _, rfl⟩
theorem bits_12_3 (a : Int) (w : World) (h : 0 ≤ a) (h' : a < 4294967296) :
    Calls Try.prog 39 #[.int .u32 a, .int .i64 12, .int .i64 3] w fun e w' => e = .returned (.int .u32 (a / 4096 % 8)) ∧ ∃ n, w.drewN n = w' := by
  have hd : 0 ≤ a / 4096 ∧ a / 4096 < 4294967296 := by omega
  go_enter Try.func39, Try.ntmps39
  go_wp2_with fail
  go_quiet (fail)
  go_wp2
  go_ret
  exact ⟨rfl, _, rfl⟩
theorem bits_12_8 (a : Int) (w : World) (h : 0 ≤ a) (h' : a < 4294967296) :
    Calls Try.prog 39 #[.int .u32 a, .int .i64 12, .int .i64 8] w fun e w' => e = .returned (.int .u32 (a / 4096 % 256)) ∧ ∃ n, w.drewN n = w' := by
  have hd : 0 ≤ a / 4096 ∧ a / 4096 < 4294967296 := by omega
  go_enter Try.func39, Try.ntmps39
  go_wp2_with fail
  go_quiet (fail)
  go_wp2
  go_ret
  exact ⟨rfl, _, rfl⟩
theorem bits_15_5 (a : Int) (w : World) (h : 0 ≤ a) (h' : a < 4294967296) :
    Calls Try.prog 39 #[.int .u32 a, .int .i64 15, .int .i64 5] w fun e w' => e = .returned (.int .u32 (a / 32768 % 32)) ∧ ∃ n, w.drewN n = w' := by
  have hd : 0 ≤ a / 32768 ∧ a / 32768 < 4294967296 := by omega
  go_enter Try.func39, Try.ntmps39
  go_wp2_with fail
  go_quiet (fail)
  go_wp2
  go_ret
  exact ⟨rfl, _, rfl⟩
theorem bits_20_1 (a : Int) (w : World) (h : 0 ≤ a) (h' : a < 4294967296) :
    Calls Try.prog 39 #[.int .u32 a, .int .i64 20, .int .i64 1] w fun e w' => e = .returned (.int .u32 (a / 1048576 % 2)) ∧ ∃ n, w.drewN n = w' := by
  have hd : 0 ≤ a / 1048576 ∧ a / 1048576 < 4294967296 := by omega
  go_enter Try.func39, Try.ntmps39
  go_wp2_with fail
  go_quiet (fail)
  go_wp2
  go_ret
  exact ⟨rfl, _, rfl⟩
theorem bits_20_5 (a : Int) (w : World) (h : 0 ≤ a) (h' : a < 4294967296) :
    Calls Try.prog 39 #[.int .u32 a, .int .i64 20, .int .i64 5] w fun e w' => e = .returned (.int .u32 (a / 1048576 % 32)) ∧ ∃ n, w.drewN n = w' := by
  have hd : 0 ≤ a / 1048576 ∧ a / 1048576 < 4294967296 := by omega
  go_enter Try.func39, Try.ntmps39
  go_wp2_with fail
  go_quiet (fail)
  go_wp2
  go_ret
  exact ⟨rfl, _, rfl⟩
theorem bits_21_10 (a : Int) (w : World) (h : 0 ≤ a) (h' : a < 4294967296) :
    Calls Try.prog 39 #[.int .u32 a, .int .i64 21, .int .i64 10] w fun e w' => e = .returned (.int .u32 (a / 2097152 % 1024)) ∧ ∃ n, w.drewN n = w' := by
  have hd : 0 ≤ a / 2097152 ∧ a / 2097152 < 4294967296 := by omega
  go_enter Try.func39, Try.ntmps39
  go_wp2_with fail
  go_quiet (fail)
  go_wp2
  go_ret
  exact ⟨rfl, _, rfl⟩
theorem bits_25_6 (a : Int) (w : World) (h : 0 ≤ a) (h' : a < 4294967296) :
    Calls Try.prog 39 #[.int .u32 a, .int .i64 25, .int .i64 6] w fun e w' => e = .returned (.int .u32 (a / 33554432 % 64)) ∧ ∃ n, w.drewN n = w' := by
  have hd : 0 ≤ a / 33554432 ∧ a / 33554432 < 4294967296 := by omega
  go_enter Try.func39, Try.ntmps39
  go_wp2_with fail
  go_quiet (fail)
  go_wp2
  go_ret
  exact ⟨rfl, _, rfl⟩
theorem bits_25_7 (a : Int) (w : World) (h : 0 ≤ a) (h' : a < 4294967296) :
    Calls Try.prog 39 #[.int .u32 a, .int .i64 25, .int .i64 7] w fun e w' => e = .returned (.int .u32 (a / 33554432 % 128)) ∧ ∃ n, w.drewN n = w' := by
  have hd : 0 ≤ a / 33554432 ∧ a / 33554432 < 4294967296 := by omega
  go_enter Try.func39, Try.ntmps39
  go_wp2_with fail
  go_quiet (fail)
  go_wp2
  go_ret
  exact ⟨rfl, _, rfl⟩
theorem bits_31_1 (a : Int) (w : World) (h : 0 ≤ a) (h' : a < 4294967296) :
    Calls Try.prog 39 #[.int .u32 a, .int .i64 31, .int .i64 1] w fun e w' => e = .returned (.int .u32 (a / 2147483648 % 2)) ∧ ∃ n, w.drewN n = w' := by
  have hd : 0 ≤ a / 2147483648 ∧ a / 2147483648 < 4294967296 := by omega
  go_enter Try.func39, Try.ntmps39
  go_wp2_with fail
  go_quiet (fail)
  go_wp2
  go_ret
  exact ⟨rfl, _, rfl⟩
theorem needs_R (w : World) :
    Calls Try.prog 29 #[.int .u8 82] w fun e w' => e = .returned (.tuple #[.bool true, .bool true, .bool true, .bool false]) ∧ w = w' := by
  go_enter Try.func29, Try.ntmps29
  go_wp2
  refine bodyPost_ret (v := .tuple #[.bool true, .bool true, .bool true, .bool false]) (by simp [results, Try.results29, go_sem]) rfl ⟨rfl, rfl⟩
theorem needs_I (w : World) :
    Calls Try.prog 29 #[.int .u8 73] w fun e w' => e = .returned (.tuple #[.bool true, .bool true, .bool false, .bool true]) ∧ w = w' := by
  go_enter Try.func29, Try.ntmps29
  go_wp2
  refine bodyPost_ret (v := .tuple #[.bool true, .bool true, .bool false, .bool true]) (by simp [results, Try.results29, go_sem]) rfl ⟨rfl, rfl⟩
theorem needs_H (w : World) :
    Calls Try.prog 29 #[.int .u8 72] w fun e w' => e = .returned (.tuple #[.bool true, .bool true, .bool false, .bool true]) ∧ w = w' := by
  go_enter Try.func29, Try.ntmps29
  go_wp2
  refine bodyPost_ret (v := .tuple #[.bool true, .bool true, .bool false, .bool true]) (by simp [results, Try.results29, go_sem]) rfl ⟨rfl, rfl⟩
theorem needs_U (w : World) :
    Calls Try.prog 29 #[.int .u8 85] w fun e w' => e = .returned (.tuple #[.bool true, .bool false, .bool false, .bool true]) ∧ w = w' := by
  go_enter Try.func29, Try.ntmps29
  go_wp2
  refine bodyPost_ret (v := .tuple #[.bool true, .bool false, .bool false, .bool true]) (by simp [results, Try.results29, go_sem]) rfl ⟨rfl, rfl⟩
theorem needs_J (w : World) :
    Calls Try.prog 29 #[.int .u8 74] w fun e w' => e = .returned (.tuple #[.bool true, .bool false, .bool false, .bool true]) ∧ w = w' := by
  go_enter Try.func29, Try.ntmps29
  go_wp2
  refine bodyPost_ret (v := .tuple #[.bool true, .bool false, .bool false, .bool true]) (by simp [results, Try.results29, go_sem]) rfl ⟨rfl, rfl⟩
theorem needs_S (w : World) :
    Calls Try.prog 29 #[.int .u8 83] w fun e w' => e = .returned (.tuple #[.bool false, .bool true, .bool true, .bool true]) ∧ w = w' := by
  go_enter Try.func29, Try.ntmps29
  go_wp2
  refine bodyPost_ret (v := .tuple #[.bool false, .bool true, .bool true, .bool true]) (by simp [results, Try.results29, go_sem]) rfl ⟨rfl, rfl⟩
theorem needs_B (w : World) :
    Calls Try.prog 29 #[.int .u8 66] w fun e w' => e = .returned (.tuple #[.bool false, .bool true, .bool true, .bool true]) ∧ w = w' := by
  go_enter Try.func29, Try.ntmps29
  go_wp2
  refine bodyPost_ret (v := .tuple #[.bool false, .bool true, .bool true, .bool true]) (by simp [results, Try.results29, go_sem]) rfl ⟨rfl, rfl⟩
theorem register_c (n : Int) (b : Bool) (w : World) :
    Calls Try.prog 30 #[.int .i64 n, .bool b] w fun e w' => e = .returned (.bool (decide (RegP n b))) ∧ w = w' := by
  cases b <;> by_cases h0 : n < 0 <;> by_cases h1 : n = 0 <;> by_cases h2 : n < 32
  all_goals try (exfalso; omega)
  all_goals
    go_enter Try.func30, Try.ntmps30
    go_wp2
    go_ret
    exact ⟨ret_bool (by unfold RegP; rw [Bool.eq_iff_iff]; simp; try omega), rfl⟩
theorem reaches_R (n : Int) (w : World) :
    Calls Try.prog 31 #[.int .u8 82, .int .i64 n] w fun e w' => e = .returned (.bool (decide (ReachP 82 n))) ∧ w = w' := by
  have hp : decide (ReachP 82 n) = decide (n = 0) := by unfold ReachP; simp
  have H := Lib.hid hp
  clear hp
  by_cases q0 : n = 0
  all_goals try (exfalso; omega)
  all_goals
    go_enter Try.func31, Try.ntmps31
    go_wp2
    go_ret
    exact ⟨ret_bool (by rw [H.out]; simp [*]; try omega), rfl⟩
theorem reaches_I (n : Int) (w : World) :
    Calls Try.prog 31 #[.int .u8 73, .int .i64 n] w fun e w' => e = .returned (.bool (decide (ReachP 73 n))) ∧ w = w' := by
  have hp : decide (ReachP 73 n) = decide (-2048 ≤ n ∧ n < 2048) := by unfold ReachP; simp
  have H := Lib.hid hp
  clear hp
  by_cases q0 : -2048 ≤ n <;> by_cases q1 : n < 2048
  all_goals try (exfalso; omega)
  all_goals
    go_enter Try.func31, Try.ntmps31
    go_wp2
    go_ret
    exact ⟨ret_bool (by rw [H.out]; simp [*]; try omega), rfl⟩
theorem reaches_H (n : Int) (w : World) :
    Calls Try.prog 31 #[.int .u8 72, .int .i64 n] w fun e w' => e = .returned (.bool (decide (ReachP 72 n))) ∧ w = w' := by
  have hp : decide (ReachP 72 n) = decide (0 ≤ n ∧ n < 32) := by unfold ReachP; simp
  have H := Lib.hid hp
  clear hp
  by_cases q0 : 0 ≤ n <;> by_cases q1 : n < 32
  all_goals try (exfalso; omega)
  all_goals
    go_enter Try.func31, Try.ntmps31
    go_wp2
    go_ret
    exact ⟨ret_bool (by rw [H.out]; simp [*]; try omega), rfl⟩
theorem reaches_U (n : Int) (w : World) :
    Calls Try.prog 31 #[.int .u8 85, .int .i64 n] w fun e w' => e = .returned (.bool (decide (ReachP 85 n))) ∧ w = w' := by
  have ht : (n.tmod 4096 = 0) ↔ n % 4096 = 0 := by rw [Int.tmod_eq_emod]; split <;> omega
  have hp : decide (ReachP 85 n) = decide (-2147483648 ≤ n ∧ n < 2147483648 ∧ n % 4096 = 0) := by unfold ReachP; simp
  have H := Lib.hid hp
  clear hp
  by_cases q0 : -2147483648 ≤ n <;> by_cases q1 : n < 2147483648 <;> by_cases q2 : n % 4096 = 0
  all_goals try (exfalso; omega)
  all_goals
    try have ht' : n.tmod 4096 = 0 := ht.2 (by assumption)
    try have ht'' : ¬ n.tmod 4096 = 0 := fun h => absurd (ht.1 h) (by assumption)
    clear ht
    go_enter Try.func31, Try.ntmps31
    go_wp2
    go_ret
    exact ⟨ret_bool (by rw [H.out]; simp [*]; try omega), rfl⟩
theorem reaches_J (n : Int) (w : World) :
    Calls Try.prog 31 #[.int .u8 74, .int .i64 n] w fun e w' => e = .returned (.bool (decide (ReachP 74 n))) ∧ w = w' := by
  have ht : (n.tmod 2 = 0) ↔ n % 2 = 0 := by rw [Int.tmod_eq_emod]; split <;> omega
  have hp : decide (ReachP 74 n) = decide (-1048576 ≤ n ∧ n < 1048576 ∧ n % 2 = 0) := by unfold ReachP; simp
  have H := Lib.hid hp
  clear hp
  by_cases q0 : -1048576 ≤ n <;> by_cases q1 : n < 1048576 <;> by_cases q2 : n % 2 = 0
  all_goals try (exfalso; omega)
  all_goals
    try have ht' : n.tmod 2 = 0 := ht.2 (by assumption)
    try have ht'' : ¬ n.tmod 2 = 0 := fun h => absurd (ht.1 h) (by assumption)
    clear ht
    go_enter Try.func31, Try.ntmps31
    go_wp2
    go_ret
    exact ⟨ret_bool (by rw [H.out]; simp [*]; try omega), rfl⟩
theorem reaches_S (n : Int) (w : World) :
    Calls Try.prog 31 #[.int .u8 83, .int .i64 n] w fun e w' => e = .returned (.bool (decide (ReachP 83 n))) ∧ w = w' := by
  have hp : decide (ReachP 83 n) = decide (-2048 ≤ n ∧ n < 2048) := by unfold ReachP; simp
  have H := Lib.hid hp
  clear hp
  by_cases q0 : -2048 ≤ n <;> by_cases q1 : n < 2048
  all_goals try (exfalso; omega)
  all_goals
    go_enter Try.func31, Try.ntmps31
    go_wp2
    go_ret
    exact ⟨ret_bool (by rw [H.out]; simp [*]; try omega), rfl⟩
theorem reaches_B (n : Int) (w : World) :
    Calls Try.prog 31 #[.int .u8 66, .int .i64 n] w fun e w' => e = .returned (.bool (decide (ReachP 66 n))) ∧ w = w' := by
  have ht : (n.tmod 2 = 0) ↔ n % 2 = 0 := by rw [Int.tmod_eq_emod]; split <;> omega
  have hp : decide (ReachP 66 n) = decide (-4096 ≤ n ∧ n < 4096 ∧ n % 2 = 0) := by unfold ReachP; simp
  have H := Lib.hid hp
  clear hp
  by_cases q0 : -4096 ≤ n <;> by_cases q1 : n < 4096 <;> by_cases q2 : n % 2 = 0
  all_goals try (exfalso; omega)
  all_goals
    try have ht' : n.tmod 2 = 0 := ht.2 (by assumption)
    try have ht'' : ¬ n.tmod 2 = 0 := fun h => absurd (ht.1 h) (by assumption)
    clear ht
    go_enter Try.func31, Try.ntmps31
    go_wp2
    go_ret
    exact ⟨ret_bool (by rw [H.out]; simp [*]; try omega), rfl⟩
end Go.Proofs.Ytppmjdljnacpgaa
