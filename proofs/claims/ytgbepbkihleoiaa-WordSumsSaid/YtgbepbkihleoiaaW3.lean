/-
  The walks of the statements of word: each law returns true, whatever words it is given, and makes at most draws.
  Conditions: each word lies between 0 and 2^32 - 1, a number of bits within 64 bits.
-/
import Derived.Test.YtgbepbkihleoiaaW2
namespace Go.Proofs.Ytgbepbkihleoiaa
open Go.ChangeShapes Go.WideShapes Go.ChangeAt Go.RowKit
set_option maxHeartbeats 400000
set_option linter.unusedVariables false

theorem minus_c (a : Int) (w : World) :
    Calls Try.prog 58 #[.int .u32 a] w fun e w' => e = .returned (.int .u32 ((0 - a) % 4294967296)) ∧ w = w' := by
  go_enter Try.func58, Try.ntmps58
  go_wp2
  go_ret
  exact ⟨ret_int (by omega), rfl⟩
theorem awake_c (w : World) :
    Calls Try.prog 16 #[] w fun e w' => e = .returned (.bool true) ∧ w = w' := by
  have e1 : signX 4095 12 = 4294967295 := by decide
  have e2 : divS 4294967289 2 = 4294967293 := by decide
  have e3 : remS 4294967289 2 = 4294967295 := by decide
  have e4 : sar32 4294967289 1 = 4294967292 := by decide
  go_enter Try.func16, Try.ntmps16
  go_wp2_with (first | (go_at_call 15; refine (parts_c _ _ (by omega) (by omega) ).mono ?_; rintro e w' ⟨rfl, rfl⟩) | (go_at_call 43; refine (div_c _ _ _ (by omega) (by omega) (by omega) (by omega) ).mono ?_; rintro e w' ⟨rfl, rfl⟩) | (go_at_call 45; refine (rem_c _ _ _ (by omega) (by omega) (by omega) (by omega) ).mono ?_; rintro e w' ⟨rfl, rfl⟩) | (go_at_call 24; refine (rights_c _ _ _ (by omega) (by omega) (by omega) (by omega) ).mono ?_; rintro e w' ⟨rfl, rfl⟩) | (go_at_call 58; refine (minus_c _ _ ).mono ?_; rintro e w' ⟨rfl, rfl⟩))
  go_ret
  exact ⟨rfl, rfl⟩

theorem WordSums_w (a b : Int) (w : World) (h : 0 ≤ a) (h' : a < 4294967296) (h1 : 0 ≤ b) (h1' : b < 4294967296) :
    Calls Try.prog 5 #[.int .u32 a, .int .u32 b] w fun e w' => e = .returned (.bool true) ∧ w = w' := by
  go_enter Try.func5, Try.ntmps5
  go_wp2_with (first | (go_at_call 16; refine (awake_c _ ).mono ?_; rintro e w' ⟨rfl, rfl⟩) | (go_at_call 26; refine (add_c _ _ _ ).mono ?_; rintro e w' ⟨rfl, rfl⟩) | (go_at_call 27; refine (radd_c _ _ _ (by omega) (by omega) (by omega) (by omega) ).mono ?_; rintro e w' ⟨rfl, rfl⟩) | (go_at_call 28; refine (sub_c _ _ _ ).mono ?_; rintro e w' ⟨rfl, rfl⟩) | (go_at_call 29; refine (rsub_c _ _ _ (by omega) (by omega) (by omega) (by omega) ).mono ?_; rintro e w' ⟨rfl, rfl⟩) | (go_at_call 30; refine (mul_c _ _ _ ).mono ?_; rintro e w' ⟨rfl, rfl⟩) | (go_at_call 31; refine (rmul_c _ _ _ (by omega) (by omega) (by omega) (by omega) ).mono ?_; rintro e w' ⟨rfl, rfl⟩))
  go_ret
  exact ⟨rfl, rfl⟩

theorem WordHighs_w (a b : Int) (w : World) (h : 0 ≤ a) (h' : a < 4294967296) (h1 : 0 ≤ b) (h1' : b < 4294967296) :
    Calls Try.prog 6 #[.int .u32 a, .int .u32 b] w fun e w' => e = .returned (.bool true) ∧ w = w' := by
  go_enter Try.func6, Try.ntmps6
  go_wp2_with (first | (go_at_call 16; refine (awake_c _ ).mono ?_; rintro e w' ⟨rfl, rfl⟩) | (go_at_call 32; refine (high_c _ _ _ (by omega) (by omega) (by omega) (by omega) ).mono ?_; rintro e w' ⟨rfl, rfl⟩) | (go_at_call 33; refine (rhigh_c _ _ _ (by omega) (by omega) (by omega) (by omega) ).mono ?_; rintro e w' ⟨rfl, rfl⟩) | (go_at_call 34; refine (highu_c _ _ _ (by omega) (by omega) (by omega) (by omega) ).mono ?_; rintro e w' ⟨rfl, rfl⟩) | (go_at_call 35; refine (rhighu_c _ _ _ (by omega) (by omega) (by omega) (by omega) ).mono ?_; rintro e w' ⟨rfl, rfl⟩) | (go_at_call 36; refine (highsu_c _ _ _ (by omega) (by omega) (by omega) (by omega) ).mono ?_; rintro e w' ⟨rfl, rfl⟩) | (go_at_call 37; refine (rhighsu_c _ _ _ (by omega) (by omega) (by omega) (by omega) ).mono ?_; rintro e w' ⟨rfl, rfl⟩))
  go_ret
  exact ⟨rfl, rfl⟩

theorem WordParts_w (a b : Int) (w : World) (h : 0 ≤ a) (h' : a < 4294967296) (h1 : 0 ≤ b) (h1' : b < 4294967296) :
    Calls Try.prog 9 #[.int .u32 a, .int .u32 b] w fun e w' => e = .returned (.bool true) ∧ w = w' := by
  go_enter Try.func9, Try.ntmps9
  go_wp2_with (first | (go_at_call 16; refine (awake_c _ ).mono ?_; rintro e w' ⟨rfl, rfl⟩) | (go_at_call 43; refine (div_c _ _ _ (by omega) (by omega) (by omega) (by omega) ).mono ?_; rintro e w' ⟨rfl, rfl⟩) | (go_at_call 44; refine (rdiv_c _ _ _ (by omega) (by omega) (by omega) (by omega) ).mono ?_; rintro e w' ⟨rfl, rfl⟩) | (go_at_call 45; refine (rem_c _ _ _ (by omega) (by omega) (by omega) (by omega) ).mono ?_; rintro e w' ⟨rfl, rfl⟩) | (go_at_call 46; refine (rrem_c _ _ _ (by omega) (by omega) (by omega) (by omega) ).mono ?_; rintro e w' ⟨rfl, rfl⟩) | (go_at_call 47; refine (divu_c _ _ _ (by omega) (by omega) (by omega) (by omega) ).mono ?_; rintro e w' ⟨rfl, rfl⟩) | (go_at_call 48; refine (rdivu_c _ _ _ (by omega) (by omega) (by omega) (by omega) ).mono ?_; rintro e w' ⟨rfl, rfl⟩) | (go_at_call 49; refine (remu_c _ _ _ (by omega) (by omega) (by omega) (by omega) ).mono ?_; rintro e w' ⟨rfl, rfl⟩) | (go_at_call 50; refine (rremu_c _ _ _ (by omega) (by omega) (by omega) (by omega) ).mono ?_; rintro e w' ⟨rfl, rfl⟩))
  go_ret
  exact ⟨rfl, rfl⟩

theorem WordLess_w (a b : Int) (w : World) (h : 0 ≤ a) (h' : a < 4294967296) (h1 : 0 ≤ b) (h1' : b < 4294967296) :
    Calls Try.prog 8 #[.int .u32 a, .int .u32 b] w fun e w' => e = .returned (.bool true) ∧ w = w' := by
  go_enter Try.func8, Try.ntmps8
  go_wp2_with (first | (go_at_call 16; refine (awake_c _ ).mono ?_; rintro e w' ⟨rfl, rfl⟩) | (go_at_call 39; refine (less_c _ _ _ (by omega) (by omega) (by omega) (by omega) ).mono ?_; rintro e w' ⟨rfl, rfl⟩) | (go_at_call 40; refine (rless_c _ _ _ (by omega) (by omega) (by omega) (by omega) ).mono ?_; rintro e w' ⟨rfl, rfl⟩) | (go_at_call 41; refine (lessu_c _ _ _ (by omega) (by omega) (by omega) (by omega) ).mono ?_; rintro e w' ⟨rfl, rfl⟩) | (go_at_call 42; refine (rlessu_c _ _ _ (by omega) (by omega) (by omega) (by omega) ).mono ?_; rintro e w' ⟨rfl, rfl⟩))
  go_ret
  exact ⟨rfl, rfl⟩

theorem WordShifts_w (a b : Int) (w : World) (h : 0 ≤ a) (h' : a < 4294967296) (h1 : 0 ≤ b) (h1' : b < 4294967296) :
    Calls Try.prog 4 #[.int .u32 a, .int .u32 b] w fun e w' => e = .returned (.bool true) ∧ ∃ n, w.drewN n = w' := by
  go_enter Try.func4, Try.ntmps4
  go_wp2_with (first | (go_at_call 16; refine (awake_c _ ).mono ?_; rintro e w' ⟨rfl, rfl⟩) | (go_at_call 20; refine (left_c _ _ _ (by omega) (by omega) (by omega) (by omega) ).mono ?_; rintro e w' ⟨rfl, rfl⟩) | (go_at_call 22; refine (right_c _ _ _ (by omega) (by omega) (by omega) (by omega) ).mono ?_; rintro e w' ⟨rfl, rfl⟩) | (go_at_call 24; refine (rights_c _ _ _ (by omega) (by omega) (by omega) (by omega) ).mono ?_; rintro e w' ⟨rfl, rfl⟩) | (go_at_call 23; refine (rright_c _ _ _ (by omega) (by omega) (by omega) (by omega) ).mono ?_; rintro e w' ⟨rfl, rfl⟩) | (go_at_call 25; refine (rrights_c _ _ _ (by omega) (by omega) (by omega) (by omega) ).mono ?_; rintro e w' ⟨rfl, rfl⟩) | (go_at_call 21; refine (rleft_c _ _ _ (by omega) (by omega) (by omega) (by omega) ).mono ?_; rintro e w' ⟨rfl, n, rfl⟩))
  go_ret
  exact ⟨rfl, _, rfl⟩
theorem WordSigns_w (a b : Int) (w : World) (h : 0 ≤ a) (h' : a < 4294967296) (h1 : -9223372036854775808 ≤ b) (h1' : b < 9223372036854775808) :
    Calls Try.prog 3 #[.int .u32 a, .int .i64 b] w fun e w' => e = .returned (.bool true) ∧ w = w' := by
  have hb := sign_bd a 12 h h'
  have e0 : signX a 12 = (if a % 4096 < 2048 then a % 4096 else a % 4096 - 4096) % 4294967296 := by unfold signX; rw [if_neg (by omega)]; rfl
  have e1 : (a - signX a 12) % 4294967296 % 4096 = 0 := by rw [e0]; split <;> omega
  have e2 : ((a - signX a 12) % 4294967296 + signX a 12) % 4294967296 = a := by omega
  clear e0
  go_enter Try.func3, Try.ntmps3
  go_wp2_with (first | (go_at_call 16; refine (awake_c _ ).mono ?_; rintro e w' ⟨rfl, rfl⟩) | (go_at_call 15; refine (parts_c _ _ (by omega) (by omega) ).mono ?_; rintro e w' ⟨rfl, rfl⟩) | (go_at_call 17; refine (sign_c _ _ _ (by omega) (by omega) (by omega) (by omega) ).mono ?_; rintro e w' ⟨rfl, rfl⟩) | (go_at_call 18; refine (rsign_c _ _ _ (by omega) (by omega) (by omega) (by omega) ).mono ?_; rintro e w' ⟨rfl, rfl⟩) | (go_at_call 19; refine (whole_c _ _ _ ).mono ?_; rintro e w' ⟨rfl, rfl⟩))
  go_ret
  exact ⟨rfl, rfl⟩

end Go.Proofs.Ytgbepbkihleoiaa
