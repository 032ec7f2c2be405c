/-
 Contracts of the functions of word and of its reference: each returns the number that the plain arithmetic of W1 says, and leaves the world as it is.
 Conditions: each word lies between 0 and 2^32 - 1.
-/
import Derived.Test.YtkhfddodmjnecaaRows
import Derived.WalkKit
import Derived.ProofKit
import Derived.OpenShut
import Derived.Outline
import Derived.Lib.Hide
import Derived.Deep.QuietTactic
import Derived.BigQuiet
import Derived.Test.YtkhfddodmjnecaaZFoldConsts01
set_option linter.all false
namespace Go.Proofs.Ytkhfddodmjnecaa
open Go.ChangeShapes Go.WideShapes Go.ChangeAt Go.RowKit
set_option maxHeartbeats 400000
set_option linter.unusedVariables false

theorem ret_int {k : IntKind} {a b : Int} (h : a = b) : Ending.returned (.int k a) = .returned (.int k b) := by rw [h]
theorem ret_int2 {k k' : IntKind} {a b c d : Int} (h : a = b) (h' : c = d) : Ending.returned (.tuple #[.int k a, .int k' c]) = .returned (.tuple #[.int k b, .int k' d]) := by rw [h, h']
theorem wraps_u32 (n : Int) (h₀ : 0 ≤ n) (h₁ : n < 2 ^ 32) : IntKind.u32.wrap n = n := by rw [IntKind.wrap_u32]; omega
theorem u32_and31 (x : Int) (h₀ : 0 ≤ x) (h₁ : x < 4294967296) : bits .and .u32 x 31 = x % 32 := bits_mask .u32 32 (by decide) wraps_u32 5 (by decide) x h₀ h₁
attribute [local go_sem] u32_and31

theorem add_c (a b : Int) (w : World)  :
  Calls Try.prog 182 #[.int .u32 a, .int .u32 b] w fun e w' => e = .returned (.int .u32 ((a + b) % 4294967296)) ∧ w = w' := by
 go_enter Try.func182, Try.ntmps182
 go_wp2
 go_ret
 exact ⟨rfl, rfl⟩

theorem sub_c (a b : Int) (w : World)  :
  Calls Try.prog 183 #[.int .u32 a, .int .u32 b] w fun e w' => e = .returned (.int .u32 ((a - b) % 4294967296)) ∧ w = w' := by
 go_enter Try.func183, Try.ntmps183
 go_wp2
 go_ret
 exact ⟨rfl, rfl⟩

theorem mul_c (a b : Int) (w : World)  :
  Calls Try.prog 184 #[.int .u32 a, .int .u32 b] w fun e w' => e = .returned (.int .u32 ((a * b) % 4294967296)) ∧ w = w' := by
 go_enter Try.func184, Try.ntmps184
 go_wp2
 go_ret
 exact ⟨rfl, rfl⟩

theorem div_c (a b : Int) (w : World) (h : 0 ≤ a) (h' : a < 4294967296) (h1 : 0 ≤ b) (h1' : b < 4294967296) :
  Calls Try.prog 185 #[.int .u32 a, .int .u32 b] w fun e w' => e = .returned (.int .u32 (divS a b)) ∧ w = w' := by
 by_cases hb : b = 0
 ·go_enter Try.func185, Try.ntmps185
  go_wp2
  go_ret
  exact ⟨ret_int (by unfold divS; rw [if_pos hb]), rfl⟩
 ·have hz := sg_zero b h1 h1'
  have hs : ¬ wrap64 (wrap32 b) = 0 := by
   have hb' := sg_bd b h1 h1'
   rw [wrap32_sg b h1 h1', wrap64_in _ (by omega) (by omega)]; omega
  clear hz
  go_enter Try.func185, Try.ntmps185
  go_wp2
  go_ret
  exact ⟨ret_int (div_eq a b h h' h1 h1' hb), rfl⟩

theorem rem_c (a b : Int) (w : World) (h : 0 ≤ a) (h' : a < 4294967296) (h1 : 0 ≤ b) (h1' : b < 4294967296) :
  Calls Try.prog 186 #[.int .u32 a, .int .u32 b] w fun e w' => e = .returned (.int .u32 (remS a b)) ∧ w = w' := by
 by_cases hb : b = 0
 ·go_enter Try.func186, Try.ntmps186
  go_wp2
  go_ret
  exact ⟨ret_int (by unfold remS; rw [if_pos hb]), rfl⟩
 ·have hz := sg_zero b h1 h1'
  have hs : ¬ wrap64 (wrap32 b) = 0 := by
   have hb' := sg_bd b h1 h1'
   rw [wrap32_sg b h1 h1', wrap64_in _ (by omega) (by omega)]; omega
  clear hz
  go_enter Try.func186, Try.ntmps186
  go_wp2
  go_ret
  exact ⟨ret_int (rem_eq a b h h' h1 h1' hb), rfl⟩

theorem left_c (a b : Int) (w : World) (h : 0 ≤ a) (h' : a < 4294967296) (h1 : 0 ≤ b) (h1' : b < 4294967296) :
  Calls Try.prog 187 #[.int .u32 a, .int .u32 b] w fun e w' => e = .returned (.int .u32 (shl32 a b)) ∧ w = w' := by
 go_enter Try.func187, Try.ntmps187
 go_wp2
 go_ret
 exact ⟨rfl, rfl⟩

theorem rights_c (a b : Int) (w : World) (h : 0 ≤ a) (h' : a < 4294967296) (h1 : 0 ≤ b) (h1' : b < 4294967296) :
  Calls Try.prog 188 #[.int .u32 a, .int .u32 b] w fun e w' => e = .returned (.int .u32 (sar32 a b)) ∧ w = w' := by
 go_enter Try.func188, Try.ntmps188
 go_wp2
 go_ret
 exact ⟨ret_int (by unfold sar32; rw [← wrap32_sg a h h']), rfl⟩

theorem less_c (a b : Int) (w : World) (h : 0 ≤ a) (h' : a < 4294967296) (h1 : 0 ≤ b) (h1' : b < 4294967296) :
  Calls Try.prog 190 #[.int .u32 a, .int .u32 b] w fun e w' => e = .returned (.int .u32 (lessS a b)) ∧ w = w' := by
 have ea := wrap32_sg a h h'
 have eb := wrap32_sg b h1 h1'
 by_cases hl : wrap32 a < wrap32 b
 all_goals
  have H := Lib.hid ea; clear ea
  have H' := Lib.hid eb; clear eb
  go_enter Try.func190, Try.ntmps190
  go_wp2
  go_ret
  refine ⟨ret_int ?_, rfl⟩
  unfold lessS
  rw [← H.out, ← H'.out]
  simp [hl]

theorem rsigned_c (a : Int) (w : World) (h : 0 ≤ a) (h' : a < 4294967296) :
  Calls Try.prog 195 #[.int .u32 a] w fun e w' => e = .returned (.int .i64 (sg a)) ∧ w = w' := by
 by_cases ha : a < 2147483648
 all_goals
  go_enter Try.func195, Try.ntmps195
  go_wp2
  go_ret
  exact ⟨ret_int (by unfold sg; split <;> omega), rfl⟩
theorem rcut_c (n : Int) (w : World) (h : -9223372036854775808 ≤ n) (h' : n < 9223372036854775808) :
  Calls Try.prog 197 #[.int .i64 n] w fun e w' => e = .returned (.int .u32 (n % 4294967296)) ∧ w = w' := by
 by_cases hn : 0 ≤ n
 ·go_enter Try.func197, Try.ntmps197
  go_wp2
  go_ret
  exact ⟨rfl, rfl⟩
 ·have e2 := cut_neg n (by omega)
  by_cases h0 : n % 4294967296 = 0
  ·rw [if_pos h0] at e2
   have H := Lib.hid e2
   have e3 : n.tmod 4294967296 = 0 := by omega
   have Hz := Lib.hid h0; clear h0 e2
   go_enter Try.func197, Try.ntmps197
   go_wp2
   go_ret
   exact ⟨ret_int (by rw [Hz.out]), rfl⟩
  ·rw [if_neg h0] at e2
   have e3 : n.tmod 4294967296 < 0 := by omega
   have e4 : -4294967296 < n.tmod 4294967296 := by omega
   have H := Lib.hid e2; clear e2 h0
   go_enter Try.func197, Try.ntmps197
   go_wp2
   go_ret
   exact ⟨ret_int (by rw [H.out]; omega), rfl⟩

theorem radd_c (a b : Int) (w : World) (h : 0 ≤ a) (h' : a < 4294967296) (h1 : 0 ≤ b) (h1' : b < 4294967296) :
  Calls Try.prog 198 #[.int .u32 a, .int .u32 b] w fun e w' => e = .returned (.int .u32 ((a + b) % 4294967296)) ∧ w = w' := by
 go_enter Try.func198, Try.ntmps198
 go_wp2_with (go_at_call 197; refine (rcut_c _ _ (by omega) (by omega)).mono ?_; rintro e w' ⟨rfl, rfl⟩)
 go_ret
 exact ⟨rfl, rfl⟩

theorem rsub_c (a b : Int) (w : World) (h : 0 ≤ a) (h' : a < 4294967296) (h1 : 0 ≤ b) (h1' : b < 4294967296) :
  Calls Try.prog 199 #[.int .u32 a, .int .u32 b] w fun e w' => e = .returned (.int .u32 ((a - b) % 4294967296)) ∧ w = w' := by
 go_enter Try.func199, Try.ntmps199
 go_wp2_with (go_at_call 197; refine (rcut_c _ _ (by omega) (by omega)).mono ?_; rintro e w' ⟨rfl, rfl⟩)
 go_ret
 exact ⟨rfl, rfl⟩

theorem rhalf_c (a b : Int) (w : World) (h : 0 ≤ a) (h' : a < 4294967296) (h1 : 0 ≤ b) (h1' : b < 4294967296) :
  Calls Try.prog 212 #[.int .u32 a, .int .u32 b] w fun e w' => e = .returned (.tuple #[.int .u32 (highU a b), .int .u32 (a * b % 4294967296)]) ∧ w = w' := by
 obtain ⟨ll, hl, lh, hh, e1, e2, e3, e4, b1, b1', b2, b2', b3, b3', b4, b4', ep⟩ := half_eq a b h h' h1 h1'
 have H := Lib.hid ep; clear ep
 go_enter Try.func212, Try.ntmps212
 go_wp2
 go_ret2
 refine ⟨ret_int2 ?_ ?_, rfl⟩
 ·unfold highU; rw [H.out]; omega
 ·rw [H.out]; omega

theorem rmul_c (a b : Int) (w : World) (h : 0 ≤ a) (h' : a < 4294967296) (h1 : 0 ≤ b) (h1' : b < 4294967296) :
  Calls Try.prog 200 #[.int .u32 a, .int .u32 b] w fun e w' => e = .returned (.int .u32 ((a * b) % 4294967296)) ∧ w = w' := by
 go_enter Try.func200, Try.ntmps200
 go_wp2_with (go_at_call 212; refine (rhalf_c _ _ _ (by omega) (by omega) (by omega) (by omega)).mono ?_; rintro e w' ⟨rfl, rfl⟩)
 go_ret
 exact ⟨rfl, rfl⟩

theorem rabs_c (n : Int) (w : World) (h : -2147483648 ≤ n) (h' : n ≤ 2147483648) :
  Calls Try.prog 196 #[.int .i64 n] w fun e w' => e = .returned (.int .i64 (n.natAbs : Int)) ∧ w = w' := by
 by_cases hn : n < 0
 all_goals
  go_enter Try.func196, Try.ntmps196
  go_wp2
  go_ret
  exact ⟨ret_int (by omega), rfl⟩

theorem rdiv_c (a b : Int) (w : World) (h : 0 ≤ a) (h' : a < 4294967296) (h1 : 0 ≤ b) (h1' : b < 4294967296) :
  Calls Try.prog 169 #[.int .u32 a, .int .u32 b] w fun e w' => e = .returned (.int .u32 (divS a b)) ∧ w = w' := by
 have ha := sg_bd a h h'
 have hb' := sg_bd b h1 h1'
 have hz := sg_zero b h1 h1'
 by_cases hb : b = 0
 ·have hs : sg b = 0 := hz.2 hb
  clear hz
  go_enter Try.func169, Try.ntmps169
  go_wp2_with (first | (go_at_call 195; refine (rsigned_c _ _ (by omega) (by omega)).mono ?_; rintro e w' ⟨rfl, rfl⟩) | (go_at_call 197; refine (rcut_c _ _ (by omega) (by omega)).mono ?_; rintro e w' ⟨rfl, rfl⟩) | (go_at_call 196; refine (rabs_c _ _ (by omega) (by omega)).mono ?_; rintro e w' ⟨rfl, rfl⟩))
  go_ret
  exact ⟨ret_int (by unfold divS; rw [if_pos hb]), rfl⟩
 ·have hs : ¬ sg b = 0 := fun e => hb (hz.1 e)
  have he : divS a b = (sg a).tdiv (sg b) % 4294967296 := by unfold divS; rw [if_neg hb]
  rw [div_abs _ _ hs] at he
  have hq : 0 ≤ ((sg a).natAbs : Int) / ((sg b).natAbs : Int) ∧ ((sg a).natAbs : Int) / ((sg b).natAbs : Int) ≤ 2147483648 := by
   have := Int.ediv_le_self (a := ((sg a).natAbs : Int)) ((sg b).natAbs : Int) (by omega)
   have := Int.ediv_nonneg (a := ((sg a).natAbs : Int)) (b := ((sg b).natAbs : Int)) (by omega) (by omega)
   omega
  have H := Lib.hid he
  clear hz he
  have hx : sg a < 0 ∨ sg a = 0 ∨ 0 < sg a := by omega
  have hy : sg b < 0 ∨ 0 < sg b := by omega
  clear hs
  rcases hx with hx | hx | hx <;> rcases hy with hy | hy
  all_goals
   go_enter Try.func169, Try.ntmps169
   go_wp2_with (first | (go_at_call 195; refine (rsigned_c _ _ (by omega) (by omega)).mono ?_; rintro e w' ⟨rfl, rfl⟩) | (go_at_call 197; refine (rcut_c _ _ (by omega) (by omega)).mono ?_; rintro e w' ⟨rfl, rfl⟩) | (go_at_call 196; refine (rabs_c _ _ (by omega) (by omega)).mono ?_; rintro e w' ⟨rfl, rfl⟩))
   go_ret
   refine ⟨ret_int ?_, rfl⟩
   rw [H.out]
   first
    | (rw [if_pos (by omega)]; simp; done)
    | (rw [if_neg (by omega)]; simp; done)
    | (rw [if_neg (by omega)]; simp [hx]; done)
theorem rrem_c (a b : Int) (w : World) (h : 0 ≤ a) (h' : a < 4294967296) (h1 : 0 ≤ b) (h1' : b < 4294967296) :
  Calls Try.prog 170 #[.int .u32 a, .int .u32 b] w fun e w' => e = .returned (.int .u32 (remS a b)) ∧ w = w' := by
 have ha := sg_bd a h h'
 have hb' := sg_bd b h1 h1'
 have hz := sg_zero b h1 h1'
 by_cases hb : b = 0
 ·have hs : sg b = 0 := hz.2 hb
  clear hz
  go_enter Try.func170, Try.ntmps170
  go_wp2_with (first | (go_at_call 195; refine (rsigned_c _ _ (by omega) (by omega)).mono ?_; rintro e w' ⟨rfl, rfl⟩) | (go_at_call 197; refine (rcut_c _ _ (by omega) (by omega)).mono ?_; rintro e w' ⟨rfl, rfl⟩) | (go_at_call 196; refine (rabs_c _ _ (by omega) (by omega)).mono ?_; rintro e w' ⟨rfl, rfl⟩))
  go_ret
  exact ⟨ret_int (by unfold remS; rw [if_pos hb]), rfl⟩
 ·have hs : ¬ sg b = 0 := fun e => hb (hz.1 e)
  have he : remS a b = (sg a).tmod (sg b) % 4294967296 := by unfold remS; rw [if_neg hb]
  rw [rem_abs] at he
  have hq : 0 ≤ ((sg a).natAbs : Int) % ((sg b).natAbs : Int) ∧ ((sg a).natAbs : Int) % ((sg b).natAbs : Int) ≤ 2147483648 := by
   have := Int.emod_lt_of_pos ((sg a).natAbs : Int) (b := ((sg b).natAbs : Int)) (by omega)
   have := Int.emod_nonneg ((sg a).natAbs : Int) (b := ((sg b).natAbs : Int)) (by omega)
   omega
  have H := Lib.hid he
  clear hz he
  have hx : sg a < 0 ∨ 0 ≤ sg a := by omega
  have hy : sg b < 0 ∨ 0 < sg b := by omega
  clear hs
  rcases hx with hx | hx <;> rcases hy with hy | hy
  all_goals
   go_enter Try.func170, Try.ntmps170
   go_wp2_with (first | (go_at_call 195; refine (rsigned_c _ _ (by omega) (by omega)).mono ?_; rintro e w' ⟨rfl, rfl⟩) | (go_at_call 197; refine (rcut_c _ _ (by omega) (by omega)).mono ?_; rintro e w' ⟨rfl, rfl⟩) | (go_at_call 196; refine (rabs_c _ _ (by omega) (by omega)).mono ?_; rintro e w' ⟨rfl, rfl⟩))
   go_ret
   refine ⟨ret_int ?_, rfl⟩
   rw [H.out]
   first
    | (rw [if_pos (by omega)]; simp; done)
    | (rw [if_neg (by omega)]; simp; done)

/-- 2^n, n the lowest five bits: by a loop -/
theorem rpower_c (b : Int) (w : World) (h : 0 ≤ b) (h' : b < 4294967296) :
  Calls Try.prog 213 #[.int .u32 b] w fun e w' => e = .returned (.int .i64 (pw (b % 32).toNat)) ∧ w = w' := by
 go_enter Try.func213, Try.ntmps213
 go_wp2
 go_loop [3, 4] (fun p i => ∃ k : Nat, (k : Int) ≤ b % 32 ∧ i = .int .i64 k ∧ p = .int .i64 (pw k)) (fun _ i => (b % 32).toNat - (intOf i).toNat)
 case atStart => exact ⟨0, by omega, rfl, rfl⟩
 case round =>
  obtain ⟨k, hk, rfl, rfl⟩ := hrel
  have h31 := pw_31 k (by omega)
  have h30 := pw_pos k
  by_cases hlt : (k : Int) < b % 32
  ·go_wp2
   go_round
   case rel => exact ⟨k + 1, by omega, by go_num, by rw [pw_succ]⟩
   case measure => simp [intOf]; omega
  ·go_wp2
   go_ret
   exact ⟨ret_int (by rw [show (b % 32).toNat = k by omega]), rfl⟩
theorem pw_5 (b : Int) (h : 0 ≤ b) : 1 ≤ pw (b % 32).toNat ∧ pw (b % 32).toNat ≤ 2147483648 := ⟨pw_pos _, pw_31 _ (by omega)⟩
theorem pw_quo (k : Nat) (h : k ≤ 32) : 1 ≤ 4294967296 / pw k ∧ 4294967296 / pw k ≤ 4294967296 := by
 obtain ⟨p, q, h1, h2, h3, h4, h5, h6, h7⟩ := pow_split k h
 unfold pw; rw [h1, h2]; omega

theorem rleft_c (a b : Int) (w : World) (h : 0 ≤ a) (h' : a < 4294967296) (h1 : 0 ≤ b) (h1' : b < 4294967296) :
  Calls Try.prog 201 #[.int .u32 a, .int .u32 b] w fun e w' => e = .returned (.int .u32 (shl32 a b)) ∧ ∃ n, w.drewN n = w' := by
 have he := shl_eq a b h1
 have hp := pw_5 b h1
 have hq := pw_quo (b % 32).toNat (by omega)
 have hr := he.2
 have H : Hid (a % (4294967296 / pw (b % 32).toNat) * pw (b % 32).toNat % 4294967296 = shl32 a b) := he.1
 have hr' : 0 ≤ (a % (4294967296 / pw (b % 32).toNat)) * pw (b % 32).toNat ∧ (a % (4294967296 / pw (b % 32).toNat)) * pw (b % 32).toNat < 4294967296 := hr
 clear he hr
 go_enter Try.func201, Try.ntmps201
 go_wp2_with fail
 go_quiet ((first | (go_at_call 213; exact Calls.quiet_of_same ((rpower_c _ _ (by omega) (by omega)).mono fun _ _ h => ⟨h.1, h.2.symm⟩)) | (go_at_call 197; exact Calls.quiet_of_same ((rcut_c _ _ (by omega) (by omega)).mono fun _ _ h => ⟨h.1, h.2.symm⟩))))
 go_wp2
 go_ret
 exact ⟨ret_int H.out, _, rfl⟩
theorem rights_eq (x p : Int) (hp : 1 ≤ p) : (if x < 0 ∧ x.tdiv p * p ≠ x then x.tdiv p - 1 else x.tdiv p) = x / p := by
 have h1 := Int.emod_nonneg x (show p ≠ 0 by omega)
 have h2 := Int.emod_lt_of_pos x (show 0 < p by omega)
 have h3 := Int.mul_ediv_add_emod x p
 have h4 := Int.tdiv_eq_ediv (a := x) (b := p)
 by_cases hx : 0 ≤ x
 ·rw [if_neg (by omega), Int.tdiv_eq_ediv_of_nonneg hx]
 ·by_cases hd : x % p = 0
  ·have : p ∣ x := Int.dvd_of_emod_eq_zero hd
   rw [if_pos (Or.inr this), Int.add_zero] at h4
   rw [h4, if_neg]
   rintro ⟨_, h⟩
   apply h
   have := Int.mul_comm (x / p) p
   omega
  ·have hn : ¬ p ∣ x := fun h => hd (Int.emod_eq_zero_of_dvd h)
   have hs : p.sign = 1 := Int.sign_eq_one_of_pos (by omega)
   rw [if_neg (by intro h; rcases h with h | h; exact hx h; exact hn h), hs] at h4
   rw [h4, if_pos]
   ·omega
   ·refine ⟨by omega, ?_⟩
    have := Int.mul_comm (x / p) p
    rw [Int.add_mul]; omega
theorem rrights_c (a b : Int) (w : World) (h : 0 ≤ a) (h' : a < 4294967296) (h1 : 0 ≤ b) (h1' : b < 4294967296) :
  Calls Try.prog 202 #[.int .u32 a, .int .u32 b] w fun e w' => e = .returned (.int .u32 (sar32 a b)) ∧ w = w' := by
 have hp := pw_5 b h1
 have ha := sg_bd a h h'
 have he := rights_eq (sg a) (pw (b % 32).toNat) hp.1
 have hd := tdiv_bd (sg a) (pw (b % 32).toNat) (by omega) (by omega)
 have hE : Hid (sar32 a b = sg a / pw (b % 32).toNat % 4294967296) := rfl
 by_cases hx : sg a < 0
 ·have hm : -2147483648 ≤ (sg a).tdiv (pw (b % 32).toNat) * pw (b % 32).toNat ∧ (sg a).tdiv (pw (b % 32).toNat) * pw (b % 32).toNat ≤ 2147483648 := by
   have h1 : ((sg a).tdiv (pw (b % 32).toNat) * pw (b % 32).toNat).natAbs ≤ (sg a).natAbs := by
    rw [Int.natAbs_mul, Int.natAbs_tdiv]; exact Nat.div_mul_le_self _ _
   omega
  by_cases hq : (sg a).tdiv (pw (b % 32).toNat) * pw (b % 32).toNat = sg a
  ·rw [if_neg (by omega)] at he
   have H := Lib.hid he
   have hq' : ((sg a).tdiv (pw (b % 32).toNat) * pw (b % 32).toNat != sg a) = false := by simp [hq]
   clear he hq
   go_enter Try.func202, Try.ntmps202
   go_wp2_with (first | (go_at_call 195; refine (rsigned_c _ _ (by omega) (by omega)).mono ?_; rintro e w' ⟨rfl, rfl⟩) | (go_at_call 213; refine (rpower_c _ _ (by omega) (by omega)).mono ?_; rintro e w' ⟨rfl, rfl⟩) | (go_at_call 197; refine (rcut_c _ _ (by omega) (by omega)).mono ?_; rintro e w' ⟨rfl, rfl⟩))
   go_ret
   exact ⟨ret_int (by rw [hE.out, ← H.out]), rfl⟩
  ·rw [if_pos ⟨hx, hq⟩] at he
   have H := Lib.hid he
   have hq' : ((sg a).tdiv (pw (b % 32).toNat) * pw (b % 32).toNat != sg a) = true := by simp [hq]
   clear he hq
   go_enter Try.func202, Try.ntmps202
   go_wp2_with (first | (go_at_call 195; refine (rsigned_c _ _ (by omega) (by omega)).mono ?_; rintro e w' ⟨rfl, rfl⟩) | (go_at_call 213; refine (rpower_c _ _ (by omega) (by omega)).mono ?_; rintro e w' ⟨rfl, rfl⟩) | (go_at_call 197; refine (rcut_c _ _ (by omega) (by omega)).mono ?_; rintro e w' ⟨rfl, rfl⟩))
   go_ret
   exact ⟨ret_int (by rw [hE.out, ← H.out]), rfl⟩
 ·have h0 : 0 ≤ sg a := by omega
  have hd : 0 ≤ sg a / pw (b % 32).toNat ∧ sg a / pw (b % 32).toNat ≤ sg a := ⟨Int.ediv_nonneg h0 (by omega), Int.ediv_le_self _ h0⟩
  clear he
  go_enter Try.func202, Try.ntmps202
  go_wp2_with (first | (go_at_call 195; refine (rsigned_c _ _ (by omega) (by omega)).mono ?_; rintro e w' ⟨rfl, rfl⟩) | (go_at_call 213; refine (rpower_c _ _ (by omega) (by omega)).mono ?_; rintro e w' ⟨rfl, rfl⟩) | (go_at_call 197; refine (rcut_c _ _ (by omega) (by omega)).mono ?_; rintro e w' ⟨rfl, rfl⟩))
  go_ret
  exact ⟨ret_int (by rw [hE.out, Int.tdiv_eq_ediv_of_nonneg h0]), rfl⟩
end Go.Proofs.Ytkhfddodmjnecaa
