/-
  Contracts of the functions of inst that put numbers into words and take them out: number and told, form by form.
  Conditions: words lie between 0 and 2^32 - 1.
-/
import Derived.Test.YtppmjdljnacpgaaI4
set_option linter.all false
namespace Go.Proofs.Ytppmjdljnacpgaa
open Go.ChangeShapes Go.WideShapes Go.ChangeAt Go.RowKit
set_option maxHeartbeats 400000
set_option linter.unusedVariables false

theorem number_R (a : Int) (w : World) (h : 0 ≤ a) (h' : a < 4294967296) :
    Calls Try.prog 26 #[.int .u8 82, .int .u32 a] w fun e w' => e = .returned (.int .u32 (spreadF 82 a)) ∧ ∃ n, w.drewN n = w' := by
  go_enter Try.func26, Try.ntmps26
  go_wp2
  go_ret
  exact ⟨ret_int (by unfold spreadF; simp; try omega), 0, rfl⟩
theorem number_I (a : Int) (w : World) (h : 0 ≤ a) (h' : a < 4294967296) :
    Calls Try.prog 26 #[.int .u8 73, .int .u32 a] w fun e w' => e = .returned (.int .u32 (spreadF 73 a)) ∧ ∃ n, w.drewN n = w' := by
  go_enter Try.func26, Try.ntmps26
  go_wp2
  go_ret
  exact ⟨ret_int (by unfold spreadF; simp; try omega), 0, rfl⟩
theorem number_H (a : Int) (w : World) (h : 0 ≤ a) (h' : a < 4294967296) :
    Calls Try.prog 26 #[.int .u8 72, .int .u32 a] w fun e w' => e = .returned (.int .u32 (spreadF 72 a)) ∧ ∃ n, w.drewN n = w' := by
  go_enter Try.func26, Try.ntmps26
  go_wp2
  go_ret
  exact ⟨ret_int (by unfold spreadF; simp; try omega), 0, rfl⟩
theorem number_U (a : Int) (w : World) (h : 0 ≤ a) (h' : a < 4294967296) (hu : a % 4096 = 0) :
    Calls Try.prog 26 #[.int .u8 85, .int .u32 a] w fun e w' => e = .returned (.int .u32 (spreadF 85 a)) ∧ ∃ n, w.drewN n = w' := by
  have hU := Lib.hid hu
  clear hu
  go_enter Try.func26, Try.ntmps26
  go_wp2
  go_ret
  exact ⟨ret_int (by have := hU.out; unfold spreadF; simp; try omega), 0, rfl⟩
theorem number_J (a : Int) (w : World) (h : 0 ≤ a) (h' : a < 4294967296) :
    Calls Try.prog 26 #[.int .u8 74, .int .u32 a] w fun e w' => e = .returned (.int .u32 (spreadF 74 a)) ∧ ∃ n, w.drewN n = w' := by
  have e0 : bits .or .u32 (a / 1048576 % 2 * 2147483648) (a / 2 % 1024 * 2097152) = a / 1048576 % 2 * 2147483648 + a / 2 % 1024 * 2097152 := by
    have q0 : 0 ≤ a / 1048576 % 2 ∧ a / 1048576 % 2 < 2 := by omega
    have q1 : 0 ≤ a / 2 % 1024 ∧ a / 2 % 1024 < 1024 := by omega
    have q2 : 0 ≤ a / 2048 % 2 ∧ a / 2048 % 2 < 2 := by omega
    have q3 : 0 ≤ a / 4096 % 256 ∧ a / 4096 % 256 < 256 := by omega
    generalize a / 1048576 % 2 = v0 at *
    generalize a / 2 % 1024 = v1 at *
    generalize a / 2048 % 2 = v2 at *
    generalize a / 4096 % 256 = v3 at *
    exact or_mid _ _ 21 31 (by omega) (by omega) (by omega) (by omega) (by omega) (by omega) (by omega) (by omega)
  have e1 : bits .or .u32 (a / 1048576 % 2 * 2147483648 + a / 2 % 1024 * 2097152) (a / 2048 % 2 * 1048576) = a / 1048576 % 2 * 2147483648 + a / 2 % 1024 * 2097152 + a / 2048 % 2 * 1048576 := by
    have q0 : 0 ≤ a / 1048576 % 2 ∧ a / 1048576 % 2 < 2 := by omega
    have q1 : 0 ≤ a / 2 % 1024 ∧ a / 2 % 1024 < 1024 := by omega
    have q2 : 0 ≤ a / 2048 % 2 ∧ a / 2048 % 2 < 2 := by omega
    have q3 : 0 ≤ a / 4096 % 256 ∧ a / 4096 % 256 < 256 := by omega
    generalize a / 1048576 % 2 = v0 at *
    generalize a / 2 % 1024 = v1 at *
    generalize a / 2048 % 2 = v2 at *
    generalize a / 4096 % 256 = v3 at *
    exact or_mid _ _ 20 21 (by omega) (by omega) (by omega) (by omega) (by omega) (by omega) (by omega) (by omega)
  have e2 : bits .or .u32 (a / 1048576 % 2 * 2147483648 + a / 2 % 1024 * 2097152 + a / 2048 % 2 * 1048576) (a / 4096 % 256 * 4096) = a / 1048576 % 2 * 2147483648 + a / 2 % 1024 * 2097152 + a / 2048 % 2 * 1048576 + a / 4096 % 256 * 4096 := by
    have q0 : 0 ≤ a / 1048576 % 2 ∧ a / 1048576 % 2 < 2 := by omega
    have q1 : 0 ≤ a / 2 % 1024 ∧ a / 2 % 1024 < 1024 := by omega
    have q2 : 0 ≤ a / 2048 % 2 ∧ a / 2048 % 2 < 2 := by omega
    have q3 : 0 ≤ a / 4096 % 256 ∧ a / 4096 % 256 < 256 := by omega
    generalize a / 1048576 % 2 = v0 at *
    generalize a / 2 % 1024 = v1 at *
    generalize a / 2048 % 2 = v2 at *
    generalize a / 4096 % 256 = v3 at *
    exact or_mid _ _ 12 20 (by omega) (by omega) (by omega) (by omega) (by omega) (by omega) (by omega) (by omega)
  go_enter Try.func26, Try.ntmps26
  go_wp2_with (first | ((go_at_call 39; (with_reducible refine (bits_20_1 _ _ (by omega) (by omega)).mono ?_); rintro e w' ⟨rfl, _, rfl⟩)) | ((go_at_call 39; (with_reducible refine (bits_1_10 _ _ (by omega) (by omega)).mono ?_); rintro e w' ⟨rfl, _, rfl⟩)) | ((go_at_call 39; (with_reducible refine (bits_11_1 _ _ (by omega) (by omega)).mono ?_); rintro e w' ⟨rfl, _, rfl⟩)) | ((go_at_call 39; (with_reducible refine (bits_12_8 _ _ (by omega) (by omega)).mono ?_); rintro e w' ⟨rfl, _, rfl⟩)))
  go_ret
  exact ⟨ret_int (by unfold spreadF; simp; try omega), _, rfl⟩
theorem number_S (a : Int) (w : World) (h : 0 ≤ a) (h' : a < 4294967296) :
    Calls Try.prog 26 #[.int .u8 83, .int .u32 a] w fun e w' => e = .returned (.int .u32 (spreadF 83 a)) ∧ ∃ n, w.drewN n = w' := by
  have e0 : bits .or .u32 (a / 32 % 128 * 33554432) (a % 32 * 128) = a / 32 % 128 * 33554432 + a % 32 * 128 := by
    have q0 : 0 ≤ a / 32 % 128 ∧ a / 32 % 128 < 128 := by omega
    have q1 : 0 ≤ a % 32 ∧ a % 32 < 32 := by omega
    generalize a / 32 % 128 = v0 at *
    generalize a % 32 = v1 at *
    exact or_mid _ _ 7 12 (by omega) (by omega) (by omega) (by omega) (by omega) (by omega) (by omega) (by omega)
  go_enter Try.func26, Try.ntmps26
  go_wp2_with (first | ((go_at_call 39; (with_reducible refine (bits_5_7 _ _ (by omega) (by omega)).mono ?_); rintro e w' ⟨rfl, _, rfl⟩)) | ((go_at_call 39; (with_reducible refine (bits_0_5 _ _ (by omega) (by omega)).mono ?_); rintro e w' ⟨rfl, _, rfl⟩)))
  go_ret
  exact ⟨ret_int (by unfold spreadF; simp; try omega), _, rfl⟩
theorem number_B (a : Int) (w : World) (h : 0 ≤ a) (h' : a < 4294967296) :
    Calls Try.prog 26 #[.int .u8 66, .int .u32 a] w fun e w' => e = .returned (.int .u32 (spreadF 66 a)) ∧ ∃ n, w.drewN n = w' := by
  have e0 : bits .or .u32 (a / 4096 % 2 * 2147483648) (a / 32 % 64 * 33554432) = a / 4096 % 2 * 2147483648 + a / 32 % 64 * 33554432 := by
    have q0 : 0 ≤ a / 4096 % 2 ∧ a / 4096 % 2 < 2 := by omega
    have q1 : 0 ≤ a / 32 % 64 ∧ a / 32 % 64 < 64 := by omega
    have q2 : 0 ≤ a / 2 % 16 ∧ a / 2 % 16 < 16 := by omega
    have q3 : 0 ≤ a / 2048 % 2 ∧ a / 2048 % 2 < 2 := by omega
    generalize a / 4096 % 2 = v0 at *
    generalize a / 32 % 64 = v1 at *
    generalize a / 2 % 16 = v2 at *
    generalize a / 2048 % 2 = v3 at *
    exact or_mid _ _ 25 31 (by omega) (by omega) (by omega) (by omega) (by omega) (by omega) (by omega) (by omega)
  have e1 : bits .or .u32 (a / 4096 % 2 * 2147483648 + a / 32 % 64 * 33554432) (a / 2 % 16 * 256) = a / 4096 % 2 * 2147483648 + a / 32 % 64 * 33554432 + a / 2 % 16 * 256 := by
    have q0 : 0 ≤ a / 4096 % 2 ∧ a / 4096 % 2 < 2 := by omega
    have q1 : 0 ≤ a / 32 % 64 ∧ a / 32 % 64 < 64 := by omega
    have q2 : 0 ≤ a / 2 % 16 ∧ a / 2 % 16 < 16 := by omega
    have q3 : 0 ≤ a / 2048 % 2 ∧ a / 2048 % 2 < 2 := by omega
    generalize a / 4096 % 2 = v0 at *
    generalize a / 32 % 64 = v1 at *
    generalize a / 2 % 16 = v2 at *
    generalize a / 2048 % 2 = v3 at *
    exact or_mid _ _ 8 12 (by omega) (by omega) (by omega) (by omega) (by omega) (by omega) (by omega) (by omega)
  have e2 : bits .or .u32 (a / 4096 % 2 * 2147483648 + a / 32 % 64 * 33554432 + a / 2 % 16 * 256) (a / 2048 % 2 * 128) = a / 4096 % 2 * 2147483648 + a / 32 % 64 * 33554432 + a / 2 % 16 * 256 + a / 2048 % 2 * 128 := by
    have q0 : 0 ≤ a / 4096 % 2 ∧ a / 4096 % 2 < 2 := by omega
    have q1 : 0 ≤ a / 32 % 64 ∧ a / 32 % 64 < 64 := by omega
    have q2 : 0 ≤ a / 2 % 16 ∧ a / 2 % 16 < 16 := by omega
    have q3 : 0 ≤ a / 2048 % 2 ∧ a / 2048 % 2 < 2 := by omega
    generalize a / 4096 % 2 = v0 at *
    generalize a / 32 % 64 = v1 at *
    generalize a / 2 % 16 = v2 at *
    generalize a / 2048 % 2 = v3 at *
    exact or_mid _ _ 7 8 (by omega) (by omega) (by omega) (by omega) (by omega) (by omega) (by omega) (by omega)
  go_enter Try.func26, Try.ntmps26
  go_wp2_with (first | ((go_at_call 39; (with_reducible refine (bits_12_1 _ _ (by omega) (by omega)).mono ?_); rintro e w' ⟨rfl, _, rfl⟩)) | ((go_at_call 39; (with_reducible refine (bits_5_6 _ _ (by omega) (by omega)).mono ?_); rintro e w' ⟨rfl, _, rfl⟩)) | ((go_at_call 39; (with_reducible refine (bits_1_4 _ _ (by omega) (by omega)).mono ?_); rintro e w' ⟨rfl, _, rfl⟩)) | ((go_at_call 39; (with_reducible refine (bits_11_1 _ _ (by omega) (by omega)).mono ?_); rintro e w' ⟨rfl, _, rfl⟩)))
  go_ret
  exact ⟨ret_int (by unfold spreadF; simp; try omega), _, rfl⟩
theorem immF_bd (f a : Int) (h : 0 ≤ a) (h' : a < 4294967296) : -2147483648 ≤ immF f a ∧ immF f a < 2147483648 := by
  unfold immF sx
  repeat' split
  all_goals omega
theorem told_R (a : Int) (w : World) (h : 0 ≤ a) (h' : a < 4294967296) :
    Calls Try.prog 38 #[.int .u8 82, .int .u32 a] w fun e w' => e = .returned (.int .i64 (immF 82 a)) ∧ ∃ n, w.drewN n = w' := by
  have hbd := immF_bd 82 a h h'
  go_enter Try.func38, Try.ntmps38
  go_wp2
  go_ret
  exact ⟨ret_int (by first | rfl | simp [immF, sx]), 0, rfl⟩
theorem told_I (a : Int) (w : World) (h : 0 ≤ a) (h' : a < 4294967296) :
    Calls Try.prog 38 #[.int .u8 73, .int .u32 a] w fun e w' => e = .returned (.int .i64 (immF 73 a)) ∧ ∃ n, w.drewN n = w' := by
  have hx : wrap32 a / 1048576 = immF 73 a := by
    rw [wrap32_sg a h h']; simp only [immF, Int.reduceEq, if_true, if_false]; unfold sx sg; split <;> split <;> omega
  have hbd := immF_bd 73 a h h'
  go_enter Try.func38, Try.ntmps38
  go_wp2
  go_ret
  exact ⟨ret_int (by first | rfl | simp [immF, sx]), 0, rfl⟩
theorem told_H (a : Int) (w : World) (h : 0 ≤ a) (h' : a < 4294967296) :
    Calls Try.prog 38 #[.int .u8 72, .int .u32 a] w fun e w' => e = .returned (.int .i64 (immF 72 a)) ∧ ∃ n, w.drewN n = w' := by
  have hbd := immF_bd 72 a h h'
  go_enter Try.func38, Try.ntmps38
  go_wp2_with ((go_at_call 39; (with_reducible refine (bits_20_5 _ _ (by omega) (by omega)).mono ?_); rintro e w' ⟨rfl, _, rfl⟩))
  go_ret
  exact ⟨ret_int (by first | rfl | simp [immF, sx]), _, rfl⟩
theorem told_U (a : Int) (w : World) (h : 0 ≤ a) (h' : a < 4294967296) :
    Calls Try.prog 38 #[.int .u8 85, .int .u32 a] w fun e w' => e = .returned (.int .i64 (immF 85 a)) ∧ ∃ n, w.drewN n = w' := by
  have hx : wrap32 (a / 4096 * 4096) = immF 85 a := by
    rw [wrap32_sg _ (by omega) (by omega)]; simp only [immF, Int.reduceEq, if_true, if_false]; unfold sx sg; split <;> omega
  have hb : bits .andNot .u32 a 4095 = a / 4096 * 4096 := by
    obtain ⟨n, rfl⟩ := Int.eq_ofNat_of_zero_le h
    have e1 : ~~~(BitVec.ofInt 32 4095) = BitVec.ofNat 32 4294963200 := by decide
    have e2 : n % 2 ^ 32 = n := Nat.mod_eq_of_lt (by omega)
    have e3 : 4294963200 % 2 ^ 32 = 4294963200 := by decide
    show IntKind.u32.wrap (((BitVec.ofInt 32 (n : Int) &&& ~~~(BitVec.ofInt 32 4095) : BitVec 32).toNat : Nat) : Int) = _
    rw [e1, BitVec.ofInt_natCast, BitVec.toNat_and, BitVec.toNat_ofNat, BitVec.toNat_ofNat, e2, e3, nat_hi32_12, wraps_u32 _ (by omega) (by omega)]
    omega
  have hbd := immF_bd 85 a h h'
  go_enter Try.func38, Try.ntmps38
  go_wp2
  go_ret
  exact ⟨ret_int (by first | rfl | simp [immF, sx]), 0, rfl⟩
theorem told_J (a : Int) (w : World) (h : 0 ≤ a) (h' : a < 4294967296) :
    Calls Try.prog 38 #[.int .u8 74, .int .u32 a] w fun e w' => e = .returned (.int .i64 (immF 74 a)) ∧ ∃ n, w.drewN n = w' := by
  have e0 : bits .or .u32 (a / 2147483648 % 2 * 1048576) (a / 2097152 % 1024 * 2) = a / 2147483648 % 2 * 1048576 + a / 2097152 % 1024 * 2 := by
    have q0 : 0 ≤ a / 2147483648 % 2 ∧ a / 2147483648 % 2 < 2 := by omega
    have q1 : 0 ≤ a / 2097152 % 1024 ∧ a / 2097152 % 1024 < 1024 := by omega
    have q2 : 0 ≤ a / 1048576 % 2 ∧ a / 1048576 % 2 < 2 := by omega
    have q3 : 0 ≤ a / 4096 % 256 ∧ a / 4096 % 256 < 256 := by omega
    generalize a / 2147483648 % 2 = v0 at *
    generalize a / 2097152 % 1024 = v1 at *
    generalize a / 1048576 % 2 = v2 at *
    generalize a / 4096 % 256 = v3 at *
    exact or_mid _ _ 1 20 (by omega) (by omega) (by omega) (by omega) (by omega) (by omega) (by omega) (by omega)
  have e1 : bits .or .u32 (a / 2147483648 % 2 * 1048576 + a / 2097152 % 1024 * 2) (a / 1048576 % 2 * 2048) = a / 2147483648 % 2 * 1048576 + a / 2097152 % 1024 * 2 + a / 1048576 % 2 * 2048 := by
    have q0 : 0 ≤ a / 2147483648 % 2 ∧ a / 2147483648 % 2 < 2 := by omega
    have q1 : 0 ≤ a / 2097152 % 1024 ∧ a / 2097152 % 1024 < 1024 := by omega
    have q2 : 0 ≤ a / 1048576 % 2 ∧ a / 1048576 % 2 < 2 := by omega
    have q3 : 0 ≤ a / 4096 % 256 ∧ a / 4096 % 256 < 256 := by omega
    generalize a / 2147483648 % 2 = v0 at *
    generalize a / 2097152 % 1024 = v1 at *
    generalize a / 1048576 % 2 = v2 at *
    generalize a / 4096 % 256 = v3 at *
    exact or_mid _ _ 11 12 (by omega) (by omega) (by omega) (by omega) (by omega) (by omega) (by omega) (by omega)
  have e2 : bits .or .u32 (a / 2147483648 % 2 * 1048576 + a / 2097152 % 1024 * 2 + a / 1048576 % 2 * 2048) (a / 4096 % 256 * 4096) = a / 2147483648 % 2 * 1048576 + a / 2097152 % 1024 * 2 + a / 1048576 % 2 * 2048 + a / 4096 % 256 * 4096 := by
    have q0 : 0 ≤ a / 2147483648 % 2 ∧ a / 2147483648 % 2 < 2 := by omega
    have q1 : 0 ≤ a / 2097152 % 1024 ∧ a / 2097152 % 1024 < 1024 := by omega
    have q2 : 0 ≤ a / 1048576 % 2 ∧ a / 1048576 % 2 < 2 := by omega
    have q3 : 0 ≤ a / 4096 % 256 ∧ a / 4096 % 256 < 256 := by omega
    generalize a / 2147483648 % 2 = v0 at *
    generalize a / 2097152 % 1024 = v1 at *
    generalize a / 1048576 % 2 = v2 at *
    generalize a / 4096 % 256 = v3 at *
    exact or_mid _ _ 12 20 (by omega) (by omega) (by omega) (by omega) (by omega) (by omega) (by omega) (by omega)
  have hx : wrap32 (signX (a / 2147483648 % 2 * 1048576 + a / 2097152 % 1024 * 2 + a / 1048576 % 2 * 2048 + a / 4096 % 256 * 4096) 21) = immF 74 a := by
    have hn : 0 ≤ a / 2147483648 % 2 * 1048576 + a / 2097152 % 1024 * 2 + a / 1048576 % 2 * 2048 + a / 4096 % 256 * 4096 ∧ a / 2147483648 % 2 * 1048576 + a / 2097152 % 1024 * 2 + a / 1048576 % 2 * 2048 + a / 4096 % 256 * 4096 < 2097152 := by omega
    simp only [immF, Int.reduceEq, if_true, if_false]
    generalize a / 2147483648 % 2 * 1048576 + a / 2097152 % 1024 * 2 + a / 1048576 % 2 * 2048 + a / 4096 % 256 * 4096 = n at *
    rw [wrap32_sg _ (sign_bd _ _ (by omega) (by omega)).1 (sign_bd _ _ (by omega) (by omega)).2]
    have hs : signX n 21 = (if n % 2097152 < 1048576 then n % 2097152 else n % 2097152 - 2097152) % 4294967296 := by unfold signX; rw [if_neg (by omega)]; rfl
    rw [hs]; unfold sx sg
    rw [Int.emod_eq_of_lt hn.1 hn.2]
    split <;> split <;> omega
  have hbd := immF_bd 74 a h h'
  go_enter Try.func38, Try.ntmps38
  go_wp2_with (first | ((go_at_call 39; (with_reducible refine (bits_31_1 _ _ (by omega) (by omega)).mono ?_); rintro e w' ⟨rfl, _, rfl⟩)) | ((go_at_call 39; (with_reducible refine (bits_21_10 _ _ (by omega) (by omega)).mono ?_); rintro e w' ⟨rfl, _, rfl⟩)) | ((go_at_call 39; (with_reducible refine (bits_20_1 _ _ (by omega) (by omega)).mono ?_); rintro e w' ⟨rfl, _, rfl⟩)) | ((go_at_call 39; (with_reducible refine (bits_12_8 _ _ (by omega) (by omega)).mono ?_); rintro e w' ⟨rfl, _, rfl⟩)) | (go_at_call 52; refine (sign_c _ _ _ (by omega) (by omega) (by omega) (by omega)).mono ?_; rintro e w' ⟨rfl, rfl⟩))
  go_ret
  exact ⟨ret_int (by first | rfl | simp [immF, sx]), _, rfl⟩
theorem told_S (a : Int) (w : World) (h : 0 ≤ a) (h' : a < 4294967296) :
    Calls Try.prog 38 #[.int .u8 83, .int .u32 a] w fun e w' => e = .returned (.int .i64 (immF 83 a)) ∧ ∃ n, w.drewN n = w' := by
  have e0 : bits .or .u32 (a / 33554432 % 128 * 32) (a / 128 % 32) = a / 33554432 % 128 * 32 + a / 128 % 32 := by
    have q0 : 0 ≤ a / 33554432 % 128 ∧ a / 33554432 % 128 < 128 := by omega
    have q1 : 0 ≤ a / 128 % 32 ∧ a / 128 % 32 < 32 := by omega
    generalize a / 33554432 % 128 = v0 at *
    generalize a / 128 % 32 = v1 at *
    exact or_mid _ _ 0 5 (by omega) (by omega) (by omega) (by omega) (by omega) (by omega) (by omega) (by omega)
  have hx : wrap32 (signX (a / 33554432 % 128 * 32 + a / 128 % 32) 12) = immF 83 a := by
    have hn : 0 ≤ a / 33554432 % 128 * 32 + a / 128 % 32 ∧ a / 33554432 % 128 * 32 + a / 128 % 32 < 4096 := by omega
    simp only [immF, Int.reduceEq, if_true, if_false]
    generalize a / 33554432 % 128 * 32 + a / 128 % 32 = n at *
    rw [wrap32_sg _ (sign_bd _ _ (by omega) (by omega)).1 (sign_bd _ _ (by omega) (by omega)).2]
    have hs : signX n 12 = (if n % 4096 < 2048 then n % 4096 else n % 4096 - 4096) % 4294967296 := by unfold signX; rw [if_neg (by omega)]; rfl
    rw [hs]; unfold sx sg
    rw [Int.emod_eq_of_lt hn.1 hn.2]
    split <;> split <;> omega
  have hbd := immF_bd 83 a h h'
  go_enter Try.func38, Try.ntmps38
  go_wp2_with (first | ((go_at_call 39; (with_reducible refine (bits_25_7 _ _ (by omega) (by omega)).mono ?_); rintro e w' ⟨rfl, _, rfl⟩)) | ((go_at_call 39; (with_reducible refine (bits_7_5 _ _ (by omega) (by omega)).mono ?_); rintro e w' ⟨rfl, _, rfl⟩)) | (go_at_call 52; refine (sign_c _ _ _ (by omega) (by omega) (by omega) (by omega)).mono ?_; rintro e w' ⟨rfl, rfl⟩))
  go_ret
  exact ⟨ret_int (by first | rfl | simp [immF, sx]), _, rfl⟩
theorem told_B (a : Int) (w : World) (h : 0 ≤ a) (h' : a < 4294967296) :
    Calls Try.prog 38 #[.int .u8 66, .int .u32 a] w fun e w' => e = .returned (.int .i64 (immF 66 a)) ∧ ∃ n, w.drewN n = w' := by
  have e0 : bits .or .u32 (a / 2147483648 % 2 * 4096) (a / 33554432 % 64 * 32) = a / 2147483648 % 2 * 4096 + a / 33554432 % 64 * 32 := by
    have q0 : 0 ≤ a / 2147483648 % 2 ∧ a / 2147483648 % 2 < 2 := by omega
    have q1 : 0 ≤ a / 33554432 % 64 ∧ a / 33554432 % 64 < 64 := by omega
    have q2 : 0 ≤ a / 256 % 16 ∧ a / 256 % 16 < 16 := by omega
    have q3 : 0 ≤ a / 128 % 2 ∧ a / 128 % 2 < 2 := by omega
    generalize a / 2147483648 % 2 = v0 at *
    generalize a / 33554432 % 64 = v1 at *
    generalize a / 256 % 16 = v2 at *
    generalize a / 128 % 2 = v3 at *
    exact or_mid _ _ 5 12 (by omega) (by omega) (by omega) (by omega) (by omega) (by omega) (by omega) (by omega)
  have e1 : bits .or .u32 (a / 2147483648 % 2 * 4096 + a / 33554432 % 64 * 32) (a / 256 % 16 * 2) = a / 2147483648 % 2 * 4096 + a / 33554432 % 64 * 32 + a / 256 % 16 * 2 := by
    have q0 : 0 ≤ a / 2147483648 % 2 ∧ a / 2147483648 % 2 < 2 := by omega
    have q1 : 0 ≤ a / 33554432 % 64 ∧ a / 33554432 % 64 < 64 := by omega
    have q2 : 0 ≤ a / 256 % 16 ∧ a / 256 % 16 < 16 := by omega
    have q3 : 0 ≤ a / 128 % 2 ∧ a / 128 % 2 < 2 := by omega
    generalize a / 2147483648 % 2 = v0 at *
    generalize a / 33554432 % 64 = v1 at *
    generalize a / 256 % 16 = v2 at *
    generalize a / 128 % 2 = v3 at *
    exact or_mid _ _ 1 5 (by omega) (by omega) (by omega) (by omega) (by omega) (by omega) (by omega) (by omega)
  have e2 : bits .or .u32 (a / 2147483648 % 2 * 4096 + a / 33554432 % 64 * 32 + a / 256 % 16 * 2) (a / 128 % 2 * 2048) = a / 2147483648 % 2 * 4096 + a / 33554432 % 64 * 32 + a / 256 % 16 * 2 + a / 128 % 2 * 2048 := by
    have q0 : 0 ≤ a / 2147483648 % 2 ∧ a / 2147483648 % 2 < 2 := by omega
    have q1 : 0 ≤ a / 33554432 % 64 ∧ a / 33554432 % 64 < 64 := by omega
    have q2 : 0 ≤ a / 256 % 16 ∧ a / 256 % 16 < 16 := by omega
    have q3 : 0 ≤ a / 128 % 2 ∧ a / 128 % 2 < 2 := by omega
    generalize a / 2147483648 % 2 = v0 at *
    generalize a / 33554432 % 64 = v1 at *
    generalize a / 256 % 16 = v2 at *
    generalize a / 128 % 2 = v3 at *
    exact or_mid _ _ 11 12 (by omega) (by omega) (by omega) (by omega) (by omega) (by omega) (by omega) (by omega)
  have hx : wrap32 (signX (a / 2147483648 % 2 * 4096 + a / 33554432 % 64 * 32 + a / 256 % 16 * 2 + a / 128 % 2 * 2048) 13) = immF 66 a := by
    have hn : 0 ≤ a / 2147483648 % 2 * 4096 + a / 33554432 % 64 * 32 + a / 256 % 16 * 2 + a / 128 % 2 * 2048 ∧ a / 2147483648 % 2 * 4096 + a / 33554432 % 64 * 32 + a / 256 % 16 * 2 + a / 128 % 2 * 2048 < 8192 := by omega
    simp only [immF, Int.reduceEq, if_true, if_false]
    generalize a / 2147483648 % 2 * 4096 + a / 33554432 % 64 * 32 + a / 256 % 16 * 2 + a / 128 % 2 * 2048 = n at *
    rw [wrap32_sg _ (sign_bd _ _ (by omega) (by omega)).1 (sign_bd _ _ (by omega) (by omega)).2]
    have hs : signX n 13 = (if n % 8192 < 4096 then n % 8192 else n % 8192 - 8192) % 4294967296 := by unfold signX; rw [if_neg (by omega)]; rfl
    rw [hs]; unfold sx sg
    rw [Int.emod_eq_of_lt hn.1 hn.2]
    split <;> split <;> omega
  have hbd := immF_bd 66 a h h'
  go_enter Try.func38, Try.ntmps38
  go_wp2_with (first | ((go_at_call 39; (with_reducible refine (bits_31_1 _ _ (by omega) (by omega)).mono ?_); rintro e w' ⟨rfl, _, rfl⟩)) | ((go_at_call 39; (with_reducible refine (bits_25_6 _ _ (by omega) (by omega)).mono ?_); rintro e w' ⟨rfl, _, rfl⟩)) | ((go_at_call 39; (with_reducible refine (bits_8_4 _ _ (by omega) (by omega)).mono ?_); rintro e w' ⟨rfl, _, rfl⟩)) | ((go_at_call 39; (with_reducible refine (bits_7_1 _ _ (by omega) (by omega)).mono ?_); rintro e w' ⟨rfl, _, rfl⟩)) | (go_at_call 52; refine (sign_c _ _ _ (by omega) (by omega) (by omega) (by omega)).mono ?_; rintro e w' ⟨rfl, rfl⟩))
  go_ret
  exact ⟨ret_int (by first | rfl | simp [immF, sx]), _, rfl⟩
end Go.Proofs.Ytppmjdljnacpgaa
