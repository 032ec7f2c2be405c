/-
  Contracts of the functions of word and of its reference: each returns the number that the plain arithmetic of W1 says, and leaves the world as it is.
  Conditions: each word lies between 0 and 2^32 - 1.
-/
import Derived.Test.YtabmbhhodecmfaaGreatRows
import Derived.WalkKit
import Derived.ProofKit
import Derived.OpenShut
import Derived.Outline
import Derived.Lib.Hide
import Derived.Deep.QuietTactic
import Derived.BigQuiet
import Derived.Test.YtabmbhhodecmfaaGreatW1
set_option linter.all false
namespace Go.Proofs.YtabmbhhodecmfaaGreat
open Go.ChangeShapes Go.WideShapes Go.ChangeAt Go.RowKit
set_option maxHeartbeats 400000
set_option linter.unusedVariables false

theorem ret_int {k : IntKind} {a b : Int} (h : a = b) : Ending.returned (.int k a) = .returned (.int k b) := by rw [h]
theorem ret_bool {a b : Bool} (h : a = b) : Ending.returned (.bool a) = .returned (.bool b) := by rw [h]
theorem ret_int2 {k k' : IntKind} {a b c d : Int} (h : a = b) (h' : c = d) : Ending.returned (.tuple #[.int k a, .int k' c]) = .returned (.tuple #[.int k b, .int k' d]) := by rw [h, h']
theorem wraps_u32 (n : Int) (h₀ : 0 ≤ n) (h₁ : n < 2 ^ 32) : IntKind.u32.wrap n = n := by rw [IntKind.wrap_u32]; omega
theorem u32_and31 (x : Int) (h₀ : 0 ≤ x) (h₁ : x < 4294967296) : bits .and .u32 x 31 = x % 32 := bits_mask .u32 32 (by decide) wraps_u32 5 (by decide) x h₀ h₁
attribute [local go_sem] u32_and31

theorem add_c (a b : Int) (w : World)  :
    Calls Tryz.prog 61 #[.int .u32 a, .int .u32 b] w fun e w' => e = .returned (.int .u32 ((a + b) % 4294967296)) ∧ w = w' := by
  go_enter Tryz.func61, Tryz.ntmps61
  go_wp2
  go_ret
  exact ⟨rfl, rfl⟩

theorem sub_c (a b : Int) (w : World)  :
    Calls Tryz.prog 65 #[.int .u32 a, .int .u32 b] w fun e w' => e = .returned (.int .u32 ((a - b) % 4294967296)) ∧ w = w' := by
  go_enter Tryz.func65, Tryz.ntmps65
  go_wp2
  go_ret
  exact ⟨rfl, rfl⟩

theorem mul_c (a b : Int) (w : World)  :
    Calls Tryz.prog 87 #[.int .u32 a, .int .u32 b] w fun e w' => e = .returned (.int .u32 ((a * b) % 4294967296)) ∧ w = w' := by
  go_enter Tryz.func87, Tryz.ntmps87
  go_wp2
  go_ret
  exact ⟨rfl, rfl⟩

theorem high_c (a b : Int) (w : World) (h : 0 ≤ a) (h' : a < 4294967296) (h1 : 0 ≤ b) (h1' : b < 4294967296) :
    Calls Tryz.prog 88 #[.int .u32 a, .int .u32 b] w fun e w' => e = .returned (.int .u32 (highS a b)) ∧ w = w' := by
  go_enter Tryz.func88, Tryz.ntmps88
  go_wp2
  go_ret
  exact ⟨ret_int (high_eq a b h h' h1 h1'), rfl⟩

theorem highu_c (a b : Int) (w : World) (h : 0 ≤ a) (h' : a < 4294967296) (h1 : 0 ≤ b) (h1' : b < 4294967296) :
    Calls Tryz.prog 90 #[.int .u32 a, .int .u32 b] w fun e w' => e = .returned (.int .u32 (highU a b)) ∧ w = w' := by
  go_enter Tryz.func90, Tryz.ntmps90
  go_wp2
  go_ret
  exact ⟨ret_int (highu_eq a b h h' h1 h1'), rfl⟩

theorem highsu_c (a b : Int) (w : World) (h : 0 ≤ a) (h' : a < 4294967296) (h1 : 0 ≤ b) (h1' : b < 4294967296) :
    Calls Tryz.prog 89 #[.int .u32 a, .int .u32 b] w fun e w' => e = .returned (.int .u32 (highSU a b)) ∧ w = w' := by
  go_enter Tryz.func89, Tryz.ntmps89
  go_wp2
  go_ret
  exact ⟨ret_int (highsu_eq a b h h' h1 h1'), rfl⟩

theorem div_c (a b : Int) (w : World) (h : 0 ≤ a) (h' : a < 4294967296) (h1 : 0 ≤ b) (h1' : b < 4294967296) :
    Calls Tryz.prog 91 #[.int .u32 a, .int .u32 b] w fun e w' => e = .returned (.int .u32 (divS a b)) ∧ w = w' := by
  by_cases hb : b = 0
  · go_enter Tryz.func91, Tryz.ntmps91
    go_wp2
    go_ret
    exact ⟨ret_int (by unfold divS; rw [if_pos hb]), rfl⟩
  · have hz := sg_zero b h1 h1'
    have hs : ¬ wrap64 (wrap32 b) = 0 := by
      have hb' := sg_bd b h1 h1'
      rw [wrap32_sg b h1 h1', wrap64_in _ (by omega) (by omega)]; omega
    clear hz
    go_enter Tryz.func91, Tryz.ntmps91
    go_wp2
    go_ret
    exact ⟨ret_int (div_eq a b h h' h1 h1' hb), rfl⟩

theorem rem_c (a b : Int) (w : World) (h : 0 ≤ a) (h' : a < 4294967296) (h1 : 0 ≤ b) (h1' : b < 4294967296) :
    Calls Tryz.prog 93 #[.int .u32 a, .int .u32 b] w fun e w' => e = .returned (.int .u32 (remS a b)) ∧ w = w' := by
  by_cases hb : b = 0
  · go_enter Tryz.func93, Tryz.ntmps93
    go_wp2
    go_ret
    exact ⟨ret_int (by unfold remS; rw [if_pos hb]), rfl⟩
  · have hz := sg_zero b h1 h1'
    have hs : ¬ wrap64 (wrap32 b) = 0 := by
      have hb' := sg_bd b h1 h1'
      rw [wrap32_sg b h1 h1', wrap64_in _ (by omega) (by omega)]; omega
    clear hz
    go_enter Tryz.func93, Tryz.ntmps93
    go_wp2
    go_ret
    exact ⟨ret_int (rem_eq a b h h' h1 h1' hb), rfl⟩

theorem divu_c (a b : Int) (w : World) (h : 0 ≤ a) (h' : a < 4294967296) (h1 : 0 ≤ b) (h1' : b < 4294967296) :
    Calls Tryz.prog 92 #[.int .u32 a, .int .u32 b] w fun e w' => e = .returned (.int .u32 (divU a b)) ∧ w = w' := by
  by_cases hb : b = 0
  · go_enter Tryz.func92, Tryz.ntmps92
    go_wp2
    go_ret
    exact ⟨ret_int (by unfold divU; rw [if_pos hb]), rfl⟩
  · go_enter Tryz.func92, Tryz.ntmps92
    go_wp2
    go_ret
    exact ⟨ret_int (by unfold divU; rw [if_neg hb]), rfl⟩

theorem remu_c (a b : Int) (w : World) (h : 0 ≤ a) (h' : a < 4294967296) (h1 : 0 ≤ b) (h1' : b < 4294967296) :
    Calls Tryz.prog 94 #[.int .u32 a, .int .u32 b] w fun e w' => e = .returned (.int .u32 (remU a b)) ∧ w = w' := by
  by_cases hb : b = 0
  · go_enter Tryz.func94, Tryz.ntmps94
    go_wp2
    go_ret
    exact ⟨ret_int (by unfold remU; rw [if_pos hb]), rfl⟩
  · go_enter Tryz.func94, Tryz.ntmps94
    go_wp2
    go_ret
    exact ⟨ret_int (by unfold remU; rw [if_neg hb]), rfl⟩

theorem left_c (a b : Int) (w : World) (h : 0 ≤ a) (h' : a < 4294967296) (h1 : 0 ≤ b) (h1' : b < 4294967296) :
    Calls Tryz.prog 62 #[.int .u32 a, .int .u32 b] w fun e w' => e = .returned (.int .u32 (shl32 a b)) ∧ w = w' := by
  go_enter Tryz.func62, Tryz.ntmps62
  go_wp2
  go_ret
  exact ⟨rfl, rfl⟩

theorem right_c (a b : Int) (w : World) (h : 0 ≤ a) (h' : a < 4294967296) (h1 : 0 ≤ b) (h1' : b < 4294967296) :
    Calls Tryz.prog 63 #[.int .u32 a, .int .u32 b] w fun e w' => e = .returned (.int .u32 (shr32 a b)) ∧ w = w' := by
  go_enter Tryz.func63, Tryz.ntmps63
  go_wp2
  go_ret
  exact ⟨rfl, rfl⟩

theorem rights_c (a b : Int) (w : World) (h : 0 ≤ a) (h' : a < 4294967296) (h1 : 0 ≤ b) (h1' : b < 4294967296) :
    Calls Tryz.prog 64 #[.int .u32 a, .int .u32 b] w fun e w' => e = .returned (.int .u32 (sar32 a b)) ∧ w = w' := by
  go_enter Tryz.func64, Tryz.ntmps64
  go_wp2
  go_ret
  exact ⟨ret_int (by unfold sar32; rw [← wrap32_sg a h h']), rfl⟩

theorem less_c (a b : Int) (w : World) (h : 0 ≤ a) (h' : a < 4294967296) (h1 : 0 ≤ b) (h1' : b < 4294967296) :
    Calls Tryz.prog 55 #[.int .u32 a, .int .u32 b] w fun e w' => e = .returned (.int .u32 (lessS a b)) ∧ w = w' := by
  have ea := wrap32_sg a h h'
  have eb := wrap32_sg b h1 h1'
  by_cases hl : wrap32 a < wrap32 b
  all_goals
    have H := Lib.hid ea; clear ea
    have H' := Lib.hid eb; clear eb
    go_enter Tryz.func55, Tryz.ntmps55
    go_wp2
    go_ret
    refine ⟨ret_int ?_, rfl⟩
    unfold lessS
    rw [← H.out, ← H'.out]
    simp [hl]

theorem lessu_c (a b : Int) (w : World) (h : 0 ≤ a) (h' : a < 4294967296) (h1 : 0 ≤ b) (h1' : b < 4294967296) :
    Calls Tryz.prog 56 #[.int .u32 a, .int .u32 b] w fun e w' => e = .returned (.int .u32 (lessU a b)) ∧ w = w' := by
  by_cases hl : a < b
  all_goals
    go_enter Tryz.func56, Tryz.ntmps56
    go_wp2
    go_ret
    exact ⟨ret_int (by simp [lessU, hl]), rfl⟩

theorem sign_c (a n : Int) (w : World) (h : 0 ≤ a) (h' : a < 4294967296) (h1 : -9223372036854775808 ≤ n) (h1' : n < 9223372036854775808) :
    Calls Tryz.prog 59 #[.int .u32 a, .int .i64 n] w fun e w' => e = .returned (.int .u32 (signX a n)) ∧ w = w' := by
  by_cases hn : n < 1
  · go_enter Tryz.func59, Tryz.ntmps59
    go_wp2
    go_ret
    exact ⟨ret_int (by unfold signX; rw [if_pos (by omega)]), rfl⟩
  · by_cases hm : 31 < n
    · go_enter Tryz.func59, Tryz.ntmps59
      go_wp2
      go_ret
      exact ⟨ret_int (by unfold signX; rw [if_pos (by omega)]), rfl⟩
    · have hq := sign_eq a n (by omega) (by omega)
      rw [← wrap32_sg _ (by omega) (by omega)] at hq
      have H := Lib.hid hq; clear hq
      go_enter Tryz.func59, Tryz.ntmps59
      go_wp2
      go_ret
      exact ⟨ret_int H.out, rfl⟩

theorem rsigned_c (a : Int) (w : World) (h : 0 ≤ a) (h' : a < 4294967296) :
    Calls Tryz.prog 75 #[.int .u32 a] w fun e w' => e = .returned (.int .i64 (sg a)) ∧ w = w' := by
  by_cases ha : a < 2147483648
  all_goals
    go_enter Tryz.func75, Tryz.ntmps75
    go_wp2
    go_ret
    exact ⟨ret_int (by unfold sg; split <;> omega), rfl⟩
theorem rcut_c (n : Int) (w : World) (h : -9223372036854775808 ≤ n) (h' : n < 9223372036854775808) :
    Calls Tryz.prog 45 #[.int .i64 n] w fun e w' => e = .returned (.int .u32 (n % 4294967296)) ∧ w = w' := by
  by_cases hn : 0 ≤ n
  · go_enter Tryz.func45, Tryz.ntmps45
    go_wp2
    go_ret
    exact ⟨rfl, rfl⟩
  · have e2 := cut_neg n (by omega)
    by_cases h0 : n % 4294967296 = 0
    · rw [if_pos h0] at e2
      have H := Lib.hid e2
      have e3 : n.tmod 4294967296 = 0 := by omega
      have Hz := Lib.hid h0; clear h0 e2
      go_enter Tryz.func45, Tryz.ntmps45
      go_wp2
      go_ret
      exact ⟨ret_int (by rw [Hz.out]), rfl⟩
    · rw [if_neg h0] at e2
      have e3 : n.tmod 4294967296 < 0 := by omega
      have e4 : -4294967296 < n.tmod 4294967296 := by omega
      have H := Lib.hid e2; clear e2 h0
      go_enter Tryz.func45, Tryz.ntmps45
      go_wp2
      go_ret
      exact ⟨ret_int (by rw [H.out]; omega), rfl⟩

theorem radd_c (a b : Int) (w : World) (h : 0 ≤ a) (h' : a < 4294967296) (h1 : 0 ≤ b) (h1' : b < 4294967296) :
    Calls Tryz.prog 78 #[.int .u32 a, .int .u32 b] w fun e w' => e = .returned (.int .u32 ((a + b) % 4294967296)) ∧ w = w' := by
  go_enter Tryz.func78, Tryz.ntmps78
  go_wp2_with (go_at_call 45; refine (rcut_c _ _ (by omega) (by omega)).mono ?_; rintro e w' ⟨rfl, rfl⟩)
  go_ret
  exact ⟨rfl, rfl⟩

theorem rsub_c (a b : Int) (w : World) (h : 0 ≤ a) (h' : a < 4294967296) (h1 : 0 ≤ b) (h1' : b < 4294967296) :
    Calls Tryz.prog 79 #[.int .u32 a, .int .u32 b] w fun e w' => e = .returned (.int .u32 ((a - b) % 4294967296)) ∧ w = w' := by
  go_enter Tryz.func79, Tryz.ntmps79
  go_wp2_with (go_at_call 45; refine (rcut_c _ _ (by omega) (by omega)).mono ?_; rintro e w' ⟨rfl, rfl⟩)
  go_ret
  exact ⟨rfl, rfl⟩

theorem rhalf_c (a b : Int) (w : World) (h : 0 ≤ a) (h' : a < 4294967296) (h1 : 0 ≤ b) (h1' : b < 4294967296) :
    Calls Tryz.prog 108 #[.int .u32 a, .int .u32 b] w fun e w' => e = .returned (.tuple #[.int .u32 (highU a b), .int .u32 (a * b % 4294967296)]) ∧ w = w' := by
  obtain ⟨ll, hl, lh, hh, e1, e2, e3, e4, b1, b1', b2, b2', b3, b3', b4, b4', ep⟩ := half_eq a b h h' h1 h1'
  have H := Lib.hid ep; clear ep
  go_enter Tryz.func108, Tryz.ntmps108
  go_wp2
  go_ret2
  refine ⟨ret_int2 ?_ ?_, rfl⟩
  · unfold highU; rw [H.out]; omega
  · rw [H.out]; omega

theorem rmul_c (a b : Int) (w : World) (h : 0 ≤ a) (h' : a < 4294967296) (h1 : 0 ≤ b) (h1' : b < 4294967296) :
    Calls Tryz.prog 96 #[.int .u32 a, .int .u32 b] w fun e w' => e = .returned (.int .u32 ((a * b) % 4294967296)) ∧ w = w' := by
  go_enter Tryz.func96, Tryz.ntmps96
  go_wp2_with (go_at_call 108; refine (rhalf_c _ _ _ (by omega) (by omega) (by omega) (by omega)).mono ?_; rintro e w' ⟨rfl, rfl⟩)
  go_ret
  exact ⟨rfl, rfl⟩

theorem rhighu_c (a b : Int) (w : World) (h : 0 ≤ a) (h' : a < 4294967296) (h1 : 0 ≤ b) (h1' : b < 4294967296) :
    Calls Tryz.prog 99 #[.int .u32 a, .int .u32 b] w fun e w' => e = .returned (.int .u32 (highU a b)) ∧ w = w' := by
  go_enter Tryz.func99, Tryz.ntmps99
  go_wp2_with (go_at_call 108; refine (rhalf_c _ _ _ (by omega) (by omega) (by omega) (by omega)).mono ?_; rintro e w' ⟨rfl, rfl⟩)
  go_ret
  exact ⟨rfl, rfl⟩

theorem highu_bd (a b : Int) (h : 0 ≤ a) (h' : a < 4294967296) (h1 : 0 ≤ b) (h1' : b < 4294967296) : 0 ≤ highU a b ∧ highU a b < 4294967296 := by
  unfold highU
  have hm := mul_nn a b 4294967295 4294967295 (by omega) (by omega) (by omega) (by omega)
  omega
theorem highsu_bd (a b : Int) : 0 ≤ highSU a b ∧ highSU a b < 4294967296 := by unfold highSU; omega
theorem highs_bd (a b : Int) : 0 ≤ highS a b ∧ highS a b < 4294967296 := by unfold highS; omega

theorem rhighsu_c (a b : Int) (w : World) (h : 0 ≤ a) (h' : a < 4294967296) (h1 : 0 ≤ b) (h1' : b < 4294967296) :
    Calls Tryz.prog 98 #[.int .u32 a, .int .u32 b] w fun e w' => e = .returned (.int .u32 (highSU a b)) ∧ w = w' := by
  have hu := highu_bd a b h h' h1 h1'
  have he := highsu_half a b h h' h1 h1'
  have hs := sg_bd a h h'
  by_cases hn : sg a < 0
  · rw [if_pos hn] at he
    have H := Lib.hid he; clear he
    go_enter Tryz.func98, Tryz.ntmps98
    go_wp2_with (first | (go_at_call 99; refine (rhighu_c _ _ _ (by omega) (by omega) (by omega) (by omega) ).mono ?_; rintro e w' ⟨rfl, rfl⟩) | (go_at_call 79; refine (rsub_c _ _ _ (by omega) (by omega) (by omega) (by omega) ).mono ?_; rintro e w' ⟨rfl, rfl⟩) | (go_at_call 75; refine (rsigned_c _ _ (by omega) (by omega)).mono ?_; rintro e w' ⟨rfl, rfl⟩))
    go_ret
    exact ⟨ret_int H.out, rfl⟩
  · rw [if_neg hn] at he
    have H := Lib.hid he; clear he
    go_enter Tryz.func98, Tryz.ntmps98
    go_wp2_with (first | (go_at_call 99; refine (rhighu_c _ _ _ (by omega) (by omega) (by omega) (by omega) ).mono ?_; rintro e w' ⟨rfl, rfl⟩) | (go_at_call 79; refine (rsub_c _ _ _ (by omega) (by omega) (by omega) (by omega) ).mono ?_; rintro e w' ⟨rfl, rfl⟩) | (go_at_call 75; refine (rsigned_c _ _ (by omega) (by omega)).mono ?_; rintro e w' ⟨rfl, rfl⟩))
    go_ret
    exact ⟨ret_int H.out, rfl⟩

theorem rhigh_c (a b : Int) (w : World) (h : 0 ≤ a) (h' : a < 4294967296) (h1 : 0 ≤ b) (h1' : b < 4294967296) :
    Calls Tryz.prog 97 #[.int .u32 a, .int .u32 b] w fun e w' => e = .returned (.int .u32 (highS a b)) ∧ w = w' := by
  have hu := highsu_bd a b
  have he := high_half a b h h' h1 h1'
  have hs := sg_bd b h1 h1'
  by_cases hn : sg b < 0
  · rw [if_pos hn] at he
    have H := Lib.hid he; clear he
    go_enter Tryz.func97, Tryz.ntmps97
    go_wp2_with (first | (go_at_call 98; refine (rhighsu_c _ _ _ (by omega) (by omega) (by omega) (by omega) ).mono ?_; rintro e w' ⟨rfl, rfl⟩) | (go_at_call 79; refine (rsub_c _ _ _ (by omega) (by omega) (by omega) (by omega) ).mono ?_; rintro e w' ⟨rfl, rfl⟩) | (go_at_call 75; refine (rsigned_c _ _ (by omega) (by omega)).mono ?_; rintro e w' ⟨rfl, rfl⟩))
    go_ret
    exact ⟨ret_int H.out, rfl⟩
  · rw [if_neg hn] at he
    have H := Lib.hid he; clear he
    go_enter Tryz.func97, Tryz.ntmps97
    go_wp2_with (first | (go_at_call 98; refine (rhighsu_c _ _ _ (by omega) (by omega) (by omega) (by omega) ).mono ?_; rintro e w' ⟨rfl, rfl⟩) | (go_at_call 79; refine (rsub_c _ _ _ (by omega) (by omega) (by omega) (by omega) ).mono ?_; rintro e w' ⟨rfl, rfl⟩) | (go_at_call 75; refine (rsigned_c _ _ (by omega) (by omega)).mono ?_; rintro e w' ⟨rfl, rfl⟩))
    go_ret
    exact ⟨ret_int H.out, rfl⟩

theorem rdivu_c (a b : Int) (w : World) (h : 0 ≤ a) (h' : a < 4294967296) (h1 : 0 ≤ b) (h1' : b < 4294967296) :
    Calls Tryz.prog 101 #[.int .u32 a, .int .u32 b] w fun e w' => e = .returned (.int .u32 (divU a b)) ∧ w = w' := by
  by_cases hb : b = 0
  · go_enter Tryz.func101, Tryz.ntmps101
    go_wp2
    go_ret
    exact ⟨ret_int (by unfold divU; rw [if_pos hb]), rfl⟩
  · have hd : 0 ≤ a / b ∧ a / b ≤ a := ⟨Int.ediv_nonneg h h1, Int.ediv_le_self _ h⟩
    go_enter Tryz.func101, Tryz.ntmps101
    go_wp2
    go_ret
    exact ⟨ret_int (by unfold divU; rw [if_neg hb]; (try rw [Int.emod_eq_of_lt (by omega) (by omega)])), rfl⟩

theorem rremu_c (a b : Int) (w : World) (h : 0 ≤ a) (h' : a < 4294967296) (h1 : 0 ≤ b) (h1' : b < 4294967296) :
    Calls Tryz.prog 103 #[.int .u32 a, .int .u32 b] w fun e w' => e = .returned (.int .u32 (remU a b)) ∧ w = w' := by
  by_cases hb : b = 0
  · go_enter Tryz.func103, Tryz.ntmps103
    go_wp2
    go_ret
    exact ⟨ret_int (by unfold remU; rw [if_pos hb]), rfl⟩
  · have hd : 0 ≤ a % b ∧ a % b < b := ⟨Int.emod_nonneg _ hb, Int.emod_lt_of_pos _ (by omega)⟩
    go_enter Tryz.func103, Tryz.ntmps103
    go_wp2
    go_ret
    exact ⟨ret_int (by unfold remU; rw [if_neg hb]; (try rw [Int.emod_eq_of_lt (by omega) (by omega)])), rfl⟩

theorem rabs_c (n : Int) (w : World) (h : -2147483648 ≤ n) (h' : n ≤ 2147483648) :
    Calls Tryz.prog 109 #[.int .i64 n] w fun e w' => e = .returned (.int .i64 (n.natAbs : Int)) ∧ w = w' := by
  by_cases hn : n < 0
  all_goals
    go_enter Tryz.func109, Tryz.ntmps109
    go_wp2
    go_ret
    exact ⟨ret_int (by omega), rfl⟩

theorem rdiv_c (a b : Int) (w : World) (h : 0 ≤ a) (h' : a < 4294967296) (h1 : 0 ≤ b) (h1' : b < 4294967296) :
    Calls Tryz.prog 100 #[.int .u32 a, .int .u32 b] w fun e w' => e = .returned (.int .u32 (divS a b)) ∧ w = w' := by
  have ha := sg_bd a h h'
  have hb' := sg_bd b h1 h1'
  have hz := sg_zero b h1 h1'
  by_cases hb : b = 0
  · have hs : sg b = 0 := hz.2 hb
    clear hz
    go_enter Tryz.func100, Tryz.ntmps100
    go_wp2_with (first | (go_at_call 75; refine (rsigned_c _ _ (by omega) (by omega)).mono ?_; rintro e w' ⟨rfl, rfl⟩) | (go_at_call 45; refine (rcut_c _ _ (by omega) (by omega)).mono ?_; rintro e w' ⟨rfl, rfl⟩) | (go_at_call 109; refine (rabs_c _ _ (by omega) (by omega)).mono ?_; rintro e w' ⟨rfl, rfl⟩))
    go_ret
    exact ⟨ret_int (by unfold divS; rw [if_pos hb]), rfl⟩
  · have hs : ¬ sg b = 0 := fun e => hb (hz.1 e)
    have he : divS a b = (sg a).tdiv (sg b) % 4294967296 := by unfold divS; rw [if_neg hb]
    rw [div_abs _ _ hs] at he
    have hq : 0 ≤ ((sg a).natAbs : Int) / ((sg b).natAbs : Int) ∧ ((sg a).natAbs : Int) / ((sg b).natAbs : Int) ≤ 2147483648 := by
      have := Int.ediv_le_self (a := ((sg a).natAbs : Int)) ((sg b).natAbs : Int) (by omega)
      have := Int.ediv_nonneg (a := ((sg a).natAbs : Int)) (b := ((sg b).natAbs : Int)) (by omega) (by omega)
      omega
    have H := Lib.hid he
    clear hz he
    have hx : sg a < 0 ∨ sg a = 0 ∨ 0 < sg a := by omega
    have hy : sg b < 0 ∨ 0 < sg b := by omega
    clear hs
    rcases hx with hx | hx | hx <;> rcases hy with hy | hy
    all_goals
      go_enter Tryz.func100, Tryz.ntmps100
      go_wp2_with (first | (go_at_call 75; refine (rsigned_c _ _ (by omega) (by omega)).mono ?_; rintro e w' ⟨rfl, rfl⟩) | (go_at_call 45; refine (rcut_c _ _ (by omega) (by omega)).mono ?_; rintro e w' ⟨rfl, rfl⟩) | (go_at_call 109; refine (rabs_c _ _ (by omega) (by omega)).mono ?_; rintro e w' ⟨rfl, rfl⟩))
      go_ret
      refine ⟨ret_int ?_, rfl⟩
      rw [H.out]
      first
        | (rw [if_pos (by omega)]; simp; done)
        | (rw [if_neg (by omega)]; simp; done)
        | (rw [if_neg (by omega)]; simp [hx]; done)
theorem rrem_c (a b : Int) (w : World) (h : 0 ≤ a) (h' : a < 4294967296) (h1 : 0 ≤ b) (h1' : b < 4294967296) :
    Calls Tryz.prog 102 #[.int .u32 a, .int .u32 b] w fun e w' => e = .returned (.int .u32 (remS a b)) ∧ w = w' := by
  have ha := sg_bd a h h'
  have hb' := sg_bd b h1 h1'
  have hz := sg_zero b h1 h1'
  by_cases hb : b = 0
  · have hs : sg b = 0 := hz.2 hb
    clear hz
    go_enter Tryz.func102, Tryz.ntmps102
    go_wp2_with (first | (go_at_call 75; refine (rsigned_c _ _ (by omega) (by omega)).mono ?_; rintro e w' ⟨rfl, rfl⟩) | (go_at_call 45; refine (rcut_c _ _ (by omega) (by omega)).mono ?_; rintro e w' ⟨rfl, rfl⟩) | (go_at_call 109; refine (rabs_c _ _ (by omega) (by omega)).mono ?_; rintro e w' ⟨rfl, rfl⟩))
    go_ret
    exact ⟨ret_int (by unfold remS; rw [if_pos hb]), rfl⟩
  · have hs : ¬ sg b = 0 := fun e => hb (hz.1 e)
    have he : remS a b = (sg a).tmod (sg b) % 4294967296 := by unfold remS; rw [if_neg hb]
    rw [rem_abs] at he
    have hq : 0 ≤ ((sg a).natAbs : Int) % ((sg b).natAbs : Int) ∧ ((sg a).natAbs : Int) % ((sg b).natAbs : Int) ≤ 2147483648 := by
      have := Int.emod_lt_of_pos ((sg a).natAbs : Int) (b := ((sg b).natAbs : Int)) (by omega)
      have := Int.emod_nonneg ((sg a).natAbs : Int) (b := ((sg b).natAbs : Int)) (by omega)
      omega
    have H := Lib.hid he
    clear hz he
    have hx : sg a < 0 ∨ 0 ≤ sg a := by omega
    have hy : sg b < 0 ∨ 0 < sg b := by omega
    clear hs
    rcases hx with hx | hx <;> rcases hy with hy | hy
    all_goals
      go_enter Tryz.func102, Tryz.ntmps102
      go_wp2_with (first | (go_at_call 75; refine (rsigned_c _ _ (by omega) (by omega)).mono ?_; rintro e w' ⟨rfl, rfl⟩) | (go_at_call 45; refine (rcut_c _ _ (by omega) (by omega)).mono ?_; rintro e w' ⟨rfl, rfl⟩) | (go_at_call 109; refine (rabs_c _ _ (by omega) (by omega)).mono ?_; rintro e w' ⟨rfl, rfl⟩))
      go_ret
      refine ⟨ret_int ?_, rfl⟩
      rw [H.out]
      first
        | (rw [if_pos (by omega)]; simp; done)
        | (rw [if_neg (by omega)]; simp; done)

/-- 2^n, n the lowest five bits: by a loop -/
theorem rpower_c (b : Int) (w : World) (h : 0 ≤ b) (h' : b < 4294967296) :
    Calls Tryz.prog 95 #[.int .u32 b] w fun e w' => e = .returned (.int .i64 (pw (b % 32).toNat)) ∧ w = w' := by
  go_enter Tryz.func95, Tryz.ntmps95
  go_wp2
  go_loop [3, 4] (fun p i => ∃ k : Nat, (k : Int) ≤ b % 32 ∧ i = .int .i64 k ∧ p = .int .i64 (pw k)) (fun _ i => (b % 32).toNat - (intOf i).toNat)
  case atStart => exact ⟨0, by omega, rfl, rfl⟩
  case round =>
    obtain ⟨k, hk, rfl, rfl⟩ := hrel
    have h31 := pw_31 k (by omega)
    have h30 := pw_pos k
    by_cases hlt : (k : Int) < b % 32
    · go_wp2
      go_round
      case rel => exact ⟨k + 1, by omega, by go_num, by rw [pw_succ]⟩
      case measure => simp [intOf]; omega
    · go_wp2
      go_ret
      exact ⟨ret_int (by rw [show (b % 32).toNat = k by omega]), rfl⟩
theorem pw_5 (b : Int) (h : 0 ≤ b) : 1 ≤ pw (b % 32).toNat ∧ pw (b % 32).toNat ≤ 2147483648 := ⟨pw_pos _, pw_31 _ (by omega)⟩
theorem pw_quo (k : Nat) (h : k ≤ 32) : 1 ≤ 4294967296 / pw k ∧ 4294967296 / pw k ≤ 4294967296 := by
  obtain ⟨p, q, h1, h2, h3, h4, h5, h6, h7⟩ := pow_split k h
  unfold pw; rw [h1, h2]; omega

theorem rleft_c (a b : Int) (w : World) (h : 0 ≤ a) (h' : a < 4294967296) (h1 : 0 ≤ b) (h1' : b < 4294967296) :
    Calls Tryz.prog 80 #[.int .u32 a, .int .u32 b] w fun e w' => e = .returned (.int .u32 (shl32 a b)) ∧ ∃ n, w.drewN n = w' := by
  have he := shl_eq a b h1
  have hp := pw_5 b h1
  have hq := pw_quo (b % 32).toNat (by omega)
  have hr := he.2
  have H : Hid (a % (4294967296 / pw (b % 32).toNat) * pw (b % 32).toNat % 4294967296 = shl32 a b) := he.1
  have hr' : 0 ≤ (a % (4294967296 / pw (b % 32).toNat)) * pw (b % 32).toNat ∧ (a % (4294967296 / pw (b % 32).toNat)) * pw (b % 32).toNat < 4294967296 := hr
  clear he hr
  go_enter Tryz.func80, Tryz.ntmps80
  go_wp2_with fail
  go_quiet ((first | (go_at_call 95; exact Calls.quiet_of_same ((rpower_c _ _ (by omega) (by omega)).mono fun _ _ h => ⟨h.1, h.2.symm⟩)) | (go_at_call 45; exact Calls.quiet_of_same ((rcut_c _ _ (by omega) (by omega)).mono fun _ _ h => ⟨h.1, h.2.symm⟩))))
  go_wp2
  go_ret
  exact ⟨ret_int H.out, _, rfl⟩
theorem rright_c (a b : Int) (w : World) (h : 0 ≤ a) (h' : a < 4294967296) (h1 : 0 ≤ b) (h1' : b < 4294967296) :
    Calls Tryz.prog 83 #[.int .u32 a, .int .u32 b] w fun e w' => e = .returned (.int .u32 (shr32 a b)) ∧ w = w' := by
  have hp := pw_5 b h1
  have hd : 0 ≤ a / pw (b % 32).toNat ∧ a / pw (b % 32).toNat ≤ a := ⟨Int.ediv_nonneg h (by omega), Int.ediv_le_self _ h⟩
  go_enter Tryz.func83, Tryz.ntmps83
  go_wp2_with (first | (go_at_call 95; refine (rpower_c _ _ (by omega) (by omega)).mono ?_; rintro e w' ⟨rfl, rfl⟩) | (go_at_call 45; refine (rcut_c _ _ (by omega) (by omega)).mono ?_; rintro e w' ⟨rfl, rfl⟩))
  go_ret
  exact ⟨ret_int (by (try rw [Int.emod_eq_of_lt (by omega) (by omega)]); rfl), rfl⟩
theorem rights_eq (x p : Int) (hp : 1 ≤ p) : (if x < 0 ∧ x.tdiv p * p ≠ x then x.tdiv p - 1 else x.tdiv p) = x / p := by
  have h1 := Int.emod_nonneg x (show p ≠ 0 by omega)
  have h2 := Int.emod_lt_of_pos x (show 0 < p by omega)
  have h3 := Int.mul_ediv_add_emod x p
  have h4 := Int.tdiv_eq_ediv (a := x) (b := p)
  by_cases hx : 0 ≤ x
  · rw [if_neg (by omega), Int.tdiv_eq_ediv_of_nonneg hx]
  · by_cases hd : x % p = 0
    · have : p ∣ x := Int.dvd_of_emod_eq_zero hd
      rw [if_pos (Or.inr this), Int.add_zero] at h4
      rw [h4, if_neg]
      rintro ⟨_, h⟩
      apply h
      have := Int.mul_comm (x / p) p
      omega
    · have hn : ¬ p ∣ x := fun h => hd (Int.emod_eq_zero_of_dvd h)
      have hs : p.sign = 1 := Int.sign_eq_one_of_pos (by omega)
      rw [if_neg (by intro h; rcases h with h | h; exact hx h; exact hn h), hs] at h4
      rw [h4, if_pos]
      · omega
      · refine ⟨by omega, ?_⟩
        have := Int.mul_comm (x / p) p
        rw [Int.add_mul]; omega
theorem rrights_c (a b : Int) (w : World) (h : 0 ≤ a) (h' : a < 4294967296) (h1 : 0 ≤ b) (h1' : b < 4294967296) :
    Calls Tryz.prog 84 #[.int .u32 a, .int .u32 b] w fun e w' => e = .returned (.int .u32 (sar32 a b)) ∧ w = w' := by
  have hp := pw_5 b h1
  have ha := sg_bd a h h'
  have he := rights_eq (sg a) (pw (b % 32).toNat) hp.1
  have hd := tdiv_bd (sg a) (pw (b % 32).toNat) (by omega) (by omega)
  have hE : Hid (sar32 a b = sg a / pw (b % 32).toNat % 4294967296) := rfl
  by_cases hx : sg a < 0
  · have hm : -2147483648 ≤ (sg a).tdiv (pw (b % 32).toNat) * pw (b % 32).toNat ∧ (sg a).tdiv (pw (b % 32).toNat) * pw (b % 32).toNat ≤ 2147483648 := by
      have h1 : ((sg a).tdiv (pw (b % 32).toNat) * pw (b % 32).toNat).natAbs ≤ (sg a).natAbs := by
        rw [Int.natAbs_mul, Int.natAbs_tdiv]; exact Nat.div_mul_le_self _ _
      omega
    by_cases hq : (sg a).tdiv (pw (b % 32).toNat) * pw (b % 32).toNat = sg a
    · rw [if_neg (by omega)] at he
      have H := Lib.hid he
      have hq' : ((sg a).tdiv (pw (b % 32).toNat) * pw (b % 32).toNat != sg a) = false := by simp [hq]
      clear he hq
      go_enter Tryz.func84, Tryz.ntmps84
      go_wp2_with (first | (go_at_call 75; refine (rsigned_c _ _ (by omega) (by omega)).mono ?_; rintro e w' ⟨rfl, rfl⟩) | (go_at_call 95; refine (rpower_c _ _ (by omega) (by omega)).mono ?_; rintro e w' ⟨rfl, rfl⟩) | (go_at_call 45; refine (rcut_c _ _ (by omega) (by omega)).mono ?_; rintro e w' ⟨rfl, rfl⟩))
      go_ret
      exact ⟨ret_int (by rw [hE.out, ← H.out]), rfl⟩
    · rw [if_pos ⟨hx, hq⟩] at he
      have H := Lib.hid he
      have hq' : ((sg a).tdiv (pw (b % 32).toNat) * pw (b % 32).toNat != sg a) = true := by simp [hq]
      clear he hq
      go_enter Tryz.func84, Tryz.ntmps84
      go_wp2_with (first | (go_at_call 75; refine (rsigned_c _ _ (by omega) (by omega)).mono ?_; rintro e w' ⟨rfl, rfl⟩) | (go_at_call 95; refine (rpower_c _ _ (by omega) (by omega)).mono ?_; rintro e w' ⟨rfl, rfl⟩) | (go_at_call 45; refine (rcut_c _ _ (by omega) (by omega)).mono ?_; rintro e w' ⟨rfl, rfl⟩))
      go_ret
      exact ⟨ret_int (by rw [hE.out, ← H.out]), rfl⟩
  · have h0 : 0 ≤ sg a := by omega
    have hd : 0 ≤ sg a / pw (b % 32).toNat ∧ sg a / pw (b % 32).toNat ≤ sg a := ⟨Int.ediv_nonneg h0 (by omega), Int.ediv_le_self _ h0⟩
    clear he
    go_enter Tryz.func84, Tryz.ntmps84
    go_wp2_with (first | (go_at_call 75; refine (rsigned_c _ _ (by omega) (by omega)).mono ?_; rintro e w' ⟨rfl, rfl⟩) | (go_at_call 95; refine (rpower_c _ _ (by omega) (by omega)).mono ?_; rintro e w' ⟨rfl, rfl⟩) | (go_at_call 45; refine (rcut_c _ _ (by omega) (by omega)).mono ?_; rintro e w' ⟨rfl, rfl⟩))
    go_ret
    exact ⟨ret_int (by rw [hE.out, Int.tdiv_eq_ediv_of_nonneg h0]), rfl⟩
theorem rless_c (a b : Int) (w : World) (h : 0 ≤ a) (h' : a < 4294967296) (h1 : 0 ≤ b) (h1' : b < 4294967296) :
    Calls Tryz.prog 81 #[.int .u32 a, .int .u32 b] w fun e w' => e = .returned (.int .u32 (lessS a b)) ∧ w = w' := by
  by_cases hl : sg a < sg b
  all_goals
    go_enter Tryz.func81, Tryz.ntmps81
    go_wp2_with (go_at_call 75; refine (rsigned_c _ _ (by omega) (by omega)).mono ?_; rintro e w' ⟨rfl, rfl⟩)
    go_ret
    exact ⟨ret_int (by unfold lessS; split <;> omega), rfl⟩
theorem rlessu_c (a b : Int) (w : World) (h : 0 ≤ a) (h' : a < 4294967296) (h1 : 0 ≤ b) (h1' : b < 4294967296) :
    Calls Tryz.prog 82 #[.int .u32 a, .int .u32 b] w fun e w' => e = .returned (.int .u32 (lessU a b)) ∧ w = w' := by
  by_cases hl : a < b
  all_goals
    go_enter Tryz.func82, Tryz.ntmps82
    go_wp2
    go_ret
    exact ⟨ret_int (by unfold lessU; split <;> omega), rfl⟩
theorem half_pw (k : Nat) : pw (k + 1) / 2 = pw k := by rw [pw_succ]; omega
end Go.Proofs.YtabmbhhodecmfaaGreat
