/-
 Contracts of the functions of word and of its reference: each returns the number that the plain arithmetic of W1 says, and leaves the world as it is. Conditions: each word lies between 0 and 2^32 - 1.; The game of a drawn region, where lengths and greatest numbers may be taken first too.; Contract of the statements' ins: are an instruction's numbers such as statements go through?; Contract of flow's Reach.; Contract of flow's Reach.; How the reference's walk lies in memory, and what its stores and appends make of it.; The marking of live registers finds what going all ways on finds (plain lists, no program).
-/
import Derived.Test.YtkhfddodmjnecaaGreatDoorRows
import Derived.WalkKit
import Derived.ProofKit
import Derived.OpenShut
import Derived.Outline
import Derived.Lib.Hide
import Derived.Deep.QuietTactic
import Derived.BigQuiet
import Derived.Test.YtkhfddodmjnecaaGreatDoorZFoldKnown08
import Derived.Test.YtkhfddodmjnecaaGreatDoorZFoldKnown03
import Derived.Test.YtkhfddodmjnecaaGreatDoorZFoldKnown01
import Derived.Test.YtkhfddodmjnecaaGreatDoorZFoldKnown00
import Derived.Test.YtkhfddodmjnecaaGreatDoorZFoldKnown02

set_option linter.all false
namespace Go.Proofs.YtkhfddodmjnecaaGreatDoor
open Go.ChangeShapes Go.WideShapes Go.ChangeAt Go.RowKit
set_option maxHeartbeats 400000
set_option linter.unusedVariables false

theorem ret_int {k : IntKind} {a b : Int} (h : a = b) : Ending.returned (.int k a) = .returned (.int k b) := by rw [h]
theorem ret_int2 {k k' : IntKind} {a b c d : Int} (h : a = b) (h' : c = d) : Ending.returned (.tuple #[.int k a, .int k' c]) = .returned (.tuple #[.int k b, .int k' d]) := by rw [h, h']
theorem wraps_u32 (n : Int) (h₀ : 0 ≤ n) (h₁ : n < 2 ^ 32) : IntKind.u32.wrap n = n := by rw [IntKind.wrap_u32]; omega
theorem u32_and31 (x : Int) (h₀ : 0 ≤ x) (h₁ : x < 4294967296) : bits .and .u32 x 31 = x % 32 := bits_mask .u32 32 (by decide) wraps_u32 5 (by decide) x h₀ h₁
attribute [local go_sem] u32_and31

theorem add_c (a b : Int) (w : World)  :
  Calls Tryz.prog 122 #[.int .u32 a, .int .u32 b] w fun e w' => e = .returned (.int .u32 ((a + b) % 4294967296)) ∧ w = w' := by
 go_enter Tryz.func122, Tryz.ntmps122
 go_wp2
 go_ret
 exact ⟨rfl, rfl⟩

theorem sub_c (a b : Int) (w : World)  :
  Calls Tryz.prog 123 #[.int .u32 a, .int .u32 b] w fun e w' => e = .returned (.int .u32 ((a - b) % 4294967296)) ∧ w = w' := by
 go_enter Tryz.func123, Tryz.ntmps123
 go_wp2
 go_ret
 exact ⟨rfl, rfl⟩

theorem mul_c (a b : Int) (w : World)  :
  Calls Tryz.prog 124 #[.int .u32 a, .int .u32 b] w fun e w' => e = .returned (.int .u32 ((a * b) % 4294967296)) ∧ w = w' := by
 go_enter Tryz.func124, Tryz.ntmps124
 go_wp2
 go_ret
 exact ⟨rfl, rfl⟩

theorem div_c (a b : Int) (w : World) (h : 0 ≤ a) (h' : a < 4294967296) (h1 : 0 ≤ b) (h1' : b < 4294967296) :
  Calls Tryz.prog 125 #[.int .u32 a, .int .u32 b] w fun e w' => e = .returned (.int .u32 (divS a b)) ∧ w = w' := by
 by_cases hb : b = 0
 ·go_enter Tryz.func125, Tryz.ntmps125
  go_wp2
  go_ret
  exact ⟨ret_int (by unfold divS; rw [if_pos hb]), rfl⟩
 ·have hz := sg_zero b h1 h1'
  have hs : ¬ wrap64 (wrap32 b) = 0 := by
   have hb' := sg_bd b h1 h1'
   rw [wrap32_sg b h1 h1', wrap64_in _ (by omega) (by omega)]; omega
  clear hz
  go_enter Tryz.func125, Tryz.ntmps125
  go_wp2
  go_ret
  exact ⟨ret_int (div_eq a b h h' h1 h1' hb), rfl⟩

theorem rem_c (a b : Int) (w : World) (h : 0 ≤ a) (h' : a < 4294967296) (h1 : 0 ≤ b) (h1' : b < 4294967296) :
  Calls Tryz.prog 126 #[.int .u32 a, .int .u32 b] w fun e w' => e = .returned (.int .u32 (remS a b)) ∧ w = w' := by
 by_cases hb : b = 0
 ·go_enter Tryz.func126, Tryz.ntmps126
  go_wp2
  go_ret
  exact ⟨ret_int (by unfold remS; rw [if_pos hb]), rfl⟩
 ·have hz := sg_zero b h1 h1'
  have hs : ¬ wrap64 (wrap32 b) = 0 := by
   have hb' := sg_bd b h1 h1'
   rw [wrap32_sg b h1 h1', wrap64_in _ (by omega) (by omega)]; omega
  clear hz
  go_enter Tryz.func126, Tryz.ntmps126
  go_wp2
  go_ret
  exact ⟨ret_int (rem_eq a b h h' h1 h1' hb), rfl⟩

theorem left_c (a b : Int) (w : World) (h : 0 ≤ a) (h' : a < 4294967296) (h1 : 0 ≤ b) (h1' : b < 4294967296) :
  Calls Tryz.prog 127 #[.int .u32 a, .int .u32 b] w fun e w' => e = .returned (.int .u32 (shl32 a b)) ∧ w = w' := by
 go_enter Tryz.func127, Tryz.ntmps127
 go_wp2
 go_ret
 exact ⟨rfl, rfl⟩

theorem rights_c (a b : Int) (w : World) (h : 0 ≤ a) (h' : a < 4294967296) (h1 : 0 ≤ b) (h1' : b < 4294967296) :
  Calls Tryz.prog 128 #[.int .u32 a, .int .u32 b] w fun e w' => e = .returned (.int .u32 (sar32 a b)) ∧ w = w' := by
 go_enter Tryz.func128, Tryz.ntmps128
 go_wp2
 go_ret
 exact ⟨ret_int (by unfold sar32; rw [← wrap32_sg a h h']), rfl⟩

theorem less_c (a b : Int) (w : World) (h : 0 ≤ a) (h' : a < 4294967296) (h1 : 0 ≤ b) (h1' : b < 4294967296) :
  Calls Tryz.prog 130 #[.int .u32 a, .int .u32 b] w fun e w' => e = .returned (.int .u32 (lessS a b)) ∧ w = w' := by
 have ea := wrap32_sg a h h'
 have eb := wrap32_sg b h1 h1'
 by_cases hl : wrap32 a < wrap32 b
 all_goals
  have H := Lib.hid ea; clear ea
  have H' := Lib.hid eb; clear eb
  go_enter Tryz.func130, Tryz.ntmps130
  go_wp2
  go_ret
  refine ⟨ret_int ?_, rfl⟩
  unfold lessS
  rw [← H.out, ← H'.out]
  simp [hl]

theorem rsigned_c (a : Int) (w : World) (h : 0 ≤ a) (h' : a < 4294967296) :
  Calls Tryz.prog 98 #[.int .u32 a] w fun e w' => e = .returned (.int .i64 (sg a)) ∧ w = w' := by
 by_cases ha : a < 2147483648
 all_goals
  go_enter Tryz.func98, Tryz.ntmps98
  go_wp2
  go_ret
  exact ⟨ret_int (by unfold sg; split <;> omega), rfl⟩
theorem rcut_c (n : Int) (w : World) (h : -9223372036854775808 ≤ n) (h' : n < 9223372036854775808) :
  Calls Tryz.prog 100 #[.int .i64 n] w fun e w' => e = .returned (.int .u32 (n % 4294967296)) ∧ w = w' := by
 by_cases hn : 0 ≤ n
 ·go_enter Tryz.func100, Tryz.ntmps100
  go_wp2
  go_ret
  exact ⟨rfl, rfl⟩
 ·have e2 := cut_neg n (by omega)
  by_cases h0 : n % 4294967296 = 0
  ·rw [if_pos h0] at e2
   have H := Lib.hid e2
   have e3 : n.tmod 4294967296 = 0 := by omega
   have Hz := Lib.hid h0; clear h0 e2
   go_enter Tryz.func100, Tryz.ntmps100
   go_wp2
   go_ret
   exact ⟨ret_int (by rw [Hz.out]), rfl⟩
  ·rw [if_neg h0] at e2
   have e3 : n.tmod 4294967296 < 0 := by omega
   have e4 : -4294967296 < n.tmod 4294967296 := by omega
   have H := Lib.hid e2; clear e2 h0
   go_enter Tryz.func100, Tryz.ntmps100
   go_wp2
   go_ret
   exact ⟨ret_int (by rw [H.out]; omega), rfl⟩

theorem radd_c (a b : Int) (w : World) (h : 0 ≤ a) (h' : a < 4294967296) (h1 : 0 ≤ b) (h1' : b < 4294967296) :
  Calls Tryz.prog 101 #[.int .u32 a, .int .u32 b] w fun e w' => e = .returned (.int .u32 ((a + b) % 4294967296)) ∧ w = w' := by
 go_enter Tryz.func101, Tryz.ntmps101
 go_wp2_with (go_at_call 100; refine (rcut_c _ _ (by omega) (by omega)).mono ?_; rintro e w' ⟨rfl, rfl⟩)
 go_ret
 exact ⟨rfl, rfl⟩

theorem rsub_c (a b : Int) (w : World) (h : 0 ≤ a) (h' : a < 4294967296) (h1 : 0 ≤ b) (h1' : b < 4294967296) :
  Calls Tryz.prog 102 #[.int .u32 a, .int .u32 b] w fun e w' => e = .returned (.int .u32 ((a - b) % 4294967296)) ∧ w = w' := by
 go_enter Tryz.func102, Tryz.ntmps102
 go_wp2_with (go_at_call 100; refine (rcut_c _ _ (by omega) (by omega)).mono ?_; rintro e w' ⟨rfl, rfl⟩)
 go_ret
 exact ⟨rfl, rfl⟩

theorem rhalf_c (a b : Int) (w : World) (h : 0 ≤ a) (h' : a < 4294967296) (h1 : 0 ≤ b) (h1' : b < 4294967296) :
  Calls Tryz.prog 137 #[.int .u32 a, .int .u32 b] w fun e w' => e = .returned (.tuple #[.int .u32 (highU a b), .int .u32 (a * b % 4294967296)]) ∧ w = w' := by
 obtain ⟨ll, hl, lh, hh, e1, e2, e3, e4, b1, b1', b2, b2', b3, b3', b4, b4', ep⟩ := half_eq a b h h' h1 h1'
 have H := Lib.hid ep; clear ep
 go_enter Tryz.func137, Tryz.ntmps137
 go_wp2
 go_ret2
 refine ⟨ret_int2 ?_ ?_, rfl⟩
 ·unfold highU; rw [H.out]; omega
 ·rw [H.out]; omega

theorem rmul_c (a b : Int) (w : World) (h : 0 ≤ a) (h' : a < 4294967296) (h1 : 0 ≤ b) (h1' : b < 4294967296) :
  Calls Tryz.prog 103 #[.int .u32 a, .int .u32 b] w fun e w' => e = .returned (.int .u32 ((a * b) % 4294967296)) ∧ w = w' := by
 go_enter Tryz.func103, Tryz.ntmps103
 go_wp2_with (go_at_call 137; refine (rhalf_c _ _ _ (by omega) (by omega) (by omega) (by omega)).mono ?_; rintro e w' ⟨rfl, rfl⟩)
 go_ret
 exact ⟨rfl, rfl⟩

theorem rabs_c (n : Int) (w : World) (h : -2147483648 ≤ n) (h' : n ≤ 2147483648) :
  Calls Tryz.prog 99 #[.int .i64 n] w fun e w' => e = .returned (.int .i64 (n.natAbs : Int)) ∧ w = w' := by
 by_cases hn : n < 0
 all_goals
  go_enter Tryz.func99, Tryz.ntmps99
  go_wp2
  go_ret
  exact ⟨ret_int (by omega), rfl⟩

theorem rdiv_c (a b : Int) (w : World) (h : 0 ≤ a) (h' : a < 4294967296) (h1 : 0 ≤ b) (h1' : b < 4294967296) :
  Calls Tryz.prog 66 #[.int .u32 a, .int .u32 b] w fun e w' => e = .returned (.int .u32 (divS a b)) ∧ w = w' := by
 have ha := sg_bd a h h'
 have hb' := sg_bd b h1 h1'
 have hz := sg_zero b h1 h1'
 by_cases hb : b = 0
 ·have hs : sg b = 0 := hz.2 hb
  clear hz
  go_enter Tryz.func66, Tryz.ntmps66
  go_wp2_with (first | (go_at_call 98; refine (rsigned_c _ _ (by omega) (by omega)).mono ?_; rintro e w' ⟨rfl, rfl⟩) | (go_at_call 100; refine (rcut_c _ _ (by omega) (by omega)).mono ?_; rintro e w' ⟨rfl, rfl⟩) | (go_at_call 99; refine (rabs_c _ _ (by omega) (by omega)).mono ?_; rintro e w' ⟨rfl, rfl⟩))
  go_ret
  exact ⟨ret_int (by unfold divS; rw [if_pos hb]), rfl⟩
 ·have hs : ¬ sg b = 0 := fun e => hb (hz.1 e)
  have he : divS a b = (sg a).tdiv (sg b) % 4294967296 := by unfold divS; rw [if_neg hb]
  rw [div_abs _ _ hs] at he
  have hq : 0 ≤ ((sg a).natAbs : Int) / ((sg b).natAbs : Int) ∧ ((sg a).natAbs : Int) / ((sg b).natAbs : Int) ≤ 2147483648 := by
   have := Int.ediv_le_self (a := ((sg a).natAbs : Int)) ((sg b).natAbs : Int) (by omega)
   have := Int.ediv_nonneg (a := ((sg a).natAbs : Int)) (b := ((sg b).natAbs : Int)) (by omega) (by omega)
   omega
  have H := Lib.hid he
  clear hz he
  have hx : sg a < 0 ∨ sg a = 0 ∨ 0 < sg a := by omega
  have hy : sg b < 0 ∨ 0 < sg b := by omega
  clear hs
  rcases hx with hx | hx | hx <;> rcases hy with hy | hy
  all_goals
   go_enter Tryz.func66, Tryz.ntmps66
   go_wp2_with (first | (go_at_call 98; refine (rsigned_c _ _ (by omega) (by omega)).mono ?_; rintro e w' ⟨rfl, rfl⟩) | (go_at_call 100; refine (rcut_c _ _ (by omega) (by omega)).mono ?_; rintro e w' ⟨rfl, rfl⟩) | (go_at_call 99; refine (rabs_c _ _ (by omega) (by omega)).mono ?_; rintro e w' ⟨rfl, rfl⟩))
   go_ret
   refine ⟨ret_int ?_, rfl⟩
   rw [H.out]
   first
    | (rw [if_pos (by omega)]; simp; done)
    | (rw [if_neg (by omega)]; simp; done)
    | (rw [if_neg (by omega)]; simp [hx]; done)
theorem rrem_c (a b : Int) (w : World) (h : 0 ≤ a) (h' : a < 4294967296) (h1 : 0 ≤ b) (h1' : b < 4294967296) :
  Calls Tryz.prog 67 #[.int .u32 a, .int .u32 b] w fun e w' => e = .returned (.int .u32 (remS a b)) ∧ w = w' := by
 have ha := sg_bd a h h'
 have hb' := sg_bd b h1 h1'
 have hz := sg_zero b h1 h1'
 by_cases hb : b = 0
 ·have hs : sg b = 0 := hz.2 hb
  clear hz
  go_enter Tryz.func67, Tryz.ntmps67
  go_wp2_with (first | (go_at_call 98; refine (rsigned_c _ _ (by omega) (by omega)).mono ?_; rintro e w' ⟨rfl, rfl⟩) | (go_at_call 100; refine (rcut_c _ _ (by omega) (by omega)).mono ?_; rintro e w' ⟨rfl, rfl⟩) | (go_at_call 99; refine (rabs_c _ _ (by omega) (by omega)).mono ?_; rintro e w' ⟨rfl, rfl⟩))
  go_ret
  exact ⟨ret_int (by unfold remS; rw [if_pos hb]), rfl⟩
 ·have hs : ¬ sg b = 0 := fun e => hb (hz.1 e)
  have he : remS a b = (sg a).tmod (sg b) % 4294967296 := by unfold remS; rw [if_neg hb]
  rw [rem_abs] at he
  have hq : 0 ≤ ((sg a).natAbs : Int) % ((sg b).natAbs : Int) ∧ ((sg a).natAbs : Int) % ((sg b).natAbs : Int) ≤ 2147483648 := by
   have := Int.emod_lt_of_pos ((sg a).natAbs : Int) (b := ((sg b).natAbs : Int)) (by omega)
   have := Int.emod_nonneg ((sg a).natAbs : Int) (b := ((sg b).natAbs : Int)) (by omega)
   omega
  have H := Lib.hid he
  clear hz he
  have hx : sg a < 0 ∨ 0 ≤ sg a := by omega
  have hy : sg b < 0 ∨ 0 < sg b := by omega
  clear hs
  rcases hx with hx | hx <;> rcases hy with hy | hy
  all_goals
   go_enter Tryz.func67, Tryz.ntmps67
   go_wp2_with (first | (go_at_call 98; refine (rsigned_c _ _ (by omega) (by omega)).mono ?_; rintro e w' ⟨rfl, rfl⟩) | (go_at_call 100; refine (rcut_c _ _ (by omega) (by omega)).mono ?_; rintro e w' ⟨rfl, rfl⟩) | (go_at_call 99; refine (rabs_c _ _ (by omega) (by omega)).mono ?_; rintro e w' ⟨rfl, rfl⟩))
   go_ret
   refine ⟨ret_int ?_, rfl⟩
   rw [H.out]
   first
    | (rw [if_pos (by omega)]; simp; done)
    | (rw [if_neg (by omega)]; simp; done)

/-- 2^n, n the lowest five bits: by a loop -/
theorem rpower_c (b : Int) (w : World) (h : 0 ≤ b) (h' : b < 4294967296) :
  Calls Tryz.prog 138 #[.int .u32 b] w fun e w' => e = .returned (.int .i64 (pw (b % 32).toNat)) ∧ w = w' := by
 go_enter Tryz.func138, Tryz.ntmps138
 go_wp2
 go_loop [3, 4] (fun p i => ∃ k : Nat, (k : Int) ≤ b % 32 ∧ i = .int .i64 k ∧ p = .int .i64 (pw k)) (fun _ i => (b % 32).toNat - (intOf i).toNat)
 case atStart => exact ⟨0, by omega, rfl, rfl⟩
 case round =>
  obtain ⟨k, hk, rfl, rfl⟩ := hrel
  have h31 := pw_31 k (by omega)
  have h30 := pw_pos k
  by_cases hlt : (k : Int) < b % 32
  ·go_wp2
   go_round
   case rel => exact ⟨k + 1, by omega, by go_num, by rw [pw_succ]⟩
   case measure => simp [intOf]; omega
  ·go_wp2
   go_ret
   exact ⟨ret_int (by rw [show (b % 32).toNat = k by omega]), rfl⟩
theorem pw_5 (b : Int) (h : 0 ≤ b) : 1 ≤ pw (b % 32).toNat ∧ pw (b % 32).toNat ≤ 2147483648 := ⟨pw_pos _, pw_31 _ (by omega)⟩
theorem pw_quo (k : Nat) (h : k ≤ 32) : 1 ≤ 4294967296 / pw k ∧ 4294967296 / pw k ≤ 4294967296 := by
 obtain ⟨p, q, h1, h2, h3, h4, h5, h6, h7⟩ := pow_split k h
 unfold pw; rw [h1, h2]; omega

theorem rleft_c (a b : Int) (w : World) (h : 0 ≤ a) (h' : a < 4294967296) (h1 : 0 ≤ b) (h1' : b < 4294967296) :
  Calls Tryz.prog 104 #[.int .u32 a, .int .u32 b] w fun e w' => e = .returned (.int .u32 (shl32 a b)) ∧ ∃ n, w.drewN n = w' := by
 have he := shl_eq a b h1
 have hp := pw_5 b h1
 have hq := pw_quo (b % 32).toNat (by omega)
 have hr := he.2
 have H : Hid (a % (4294967296 / pw (b % 32).toNat) * pw (b % 32).toNat % 4294967296 = shl32 a b) := he.1
 have hr' : 0 ≤ (a % (4294967296 / pw (b % 32).toNat)) * pw (b % 32).toNat ∧ (a % (4294967296 / pw (b % 32).toNat)) * pw (b % 32).toNat < 4294967296 := hr
 clear he hr
 go_enter Tryz.func104, Tryz.ntmps104
 go_wp2_with fail
 go_quiet ((first | (go_at_call 138; exact Calls.quiet_of_same ((rpower_c _ _ (by omega) (by omega)).mono fun _ _ h => ⟨h.1, h.2.symm⟩)) | (go_at_call 100; exact Calls.quiet_of_same ((rcut_c _ _ (by omega) (by omega)).mono fun _ _ h => ⟨h.1, h.2.symm⟩))))
 go_wp2
 go_ret
 exact ⟨ret_int H.out, _, rfl⟩
theorem rights_eq (x p : Int) (hp : 1 ≤ p) : (if x < 0 ∧ x.tdiv p * p ≠ x then x.tdiv p - 1 else x.tdiv p) = x / p := by
 have h1 := Int.emod_nonneg x (show p ≠ 0 by omega)
 have h2 := Int.emod_lt_of_pos x (show 0 < p by omega)
 have h3 := Int.mul_ediv_add_emod x p
 have h4 := Int.tdiv_eq_ediv (a := x) (b := p)
 by_cases hx : 0 ≤ x
 ·rw [if_neg (by omega), Int.tdiv_eq_ediv_of_nonneg hx]
 ·by_cases hd : x % p = 0
  ·have : p ∣ x := Int.dvd_of_emod_eq_zero hd
   rw [if_pos (Or.inr this), Int.add_zero] at h4
   rw [h4, if_neg]
   rintro ⟨_, h⟩
   apply h
   have := Int.mul_comm (x / p) p
   omega
  ·have hn : ¬ p ∣ x := fun h => hd (Int.emod_eq_zero_of_dvd h)
   have hs : p.sign = 1 := Int.sign_eq_one_of_pos (by omega)
   rw [if_neg (by intro h; rcases h with h | h; exact hx h; exact hn h), hs] at h4
   rw [h4, if_pos]
   ·omega
   ·refine ⟨by omega, ?_⟩
    have := Int.mul_comm (x / p) p
    rw [Int.add_mul]; omega
theorem rrights_c (a b : Int) (w : World) (h : 0 ≤ a) (h' : a < 4294967296) (h1 : 0 ≤ b) (h1' : b < 4294967296) :
  Calls Tryz.prog 105 #[.int .u32 a, .int .u32 b] w fun e w' => e = .returned (.int .u32 (sar32 a b)) ∧ w = w' := by
 have hp := pw_5 b h1
 have ha := sg_bd a h h'
 have he := rights_eq (sg a) (pw (b % 32).toNat) hp.1
 have hd := tdiv_bd (sg a) (pw (b % 32).toNat) (by omega) (by omega)
 have hE : Hid (sar32 a b = sg a / pw (b % 32).toNat % 4294967296) := rfl
 by_cases hx : sg a < 0
 ·have hm : -2147483648 ≤ (sg a).tdiv (pw (b % 32).toNat) * pw (b % 32).toNat ∧ (sg a).tdiv (pw (b % 32).toNat) * pw (b % 32).toNat ≤ 2147483648 := by
   have h1 : ((sg a).tdiv (pw (b % 32).toNat) * pw (b % 32).toNat).natAbs ≤ (sg a).natAbs := by
    rw [Int.natAbs_mul, Int.natAbs_tdiv]; exact Nat.div_mul_le_self _ _
   omega
  by_cases hq : (sg a).tdiv (pw (b % 32).toNat) * pw (b % 32).toNat = sg a
  ·rw [if_neg (by omega)] at he
   have H := Lib.hid he
   have hq' : ((sg a).tdiv (pw (b % 32).toNat) * pw (b % 32).toNat != sg a) = false := by simp [hq]
   clear he hq
   go_enter Tryz.func105, Tryz.ntmps105
   go_wp2_with (first | (go_at_call 98; refine (rsigned_c _ _ (by omega) (by omega)).mono ?_; rintro e w' ⟨rfl, rfl⟩) | (go_at_call 138; refine (rpower_c _ _ (by omega) (by omega)).mono ?_; rintro e w' ⟨rfl, rfl⟩) | (go_at_call 100; refine (rcut_c _ _ (by omega) (by omega)).mono ?_; rintro e w' ⟨rfl, rfl⟩))
   go_ret
   exact ⟨ret_int (by rw [hE.out, ← H.out]), rfl⟩
  ·rw [if_pos ⟨hx, hq⟩] at he
   have H := Lib.hid he
   have hq' : ((sg a).tdiv (pw (b % 32).toNat) * pw (b % 32).toNat != sg a) = true := by simp [hq]
   clear he hq
   go_enter Tryz.func105, Tryz.ntmps105
   go_wp2_with (first | (go_at_call 98; refine (rsigned_c _ _ (by omega) (by omega)).mono ?_; rintro e w' ⟨rfl, rfl⟩) | (go_at_call 138; refine (rpower_c _ _ (by omega) (by omega)).mono ?_; rintro e w' ⟨rfl, rfl⟩) | (go_at_call 100; refine (rcut_c _ _ (by omega) (by omega)).mono ?_; rintro e w' ⟨rfl, rfl⟩))
   go_ret
   exact ⟨ret_int (by rw [hE.out, ← H.out]), rfl⟩
 ·have h0 : 0 ≤ sg a := by omega
  have hd : 0 ≤ sg a / pw (b % 32).toNat ∧ sg a / pw (b % 32).toNat ≤ sg a := ⟨Int.ediv_nonneg h0 (by omega), Int.ediv_le_self _ h0⟩
  clear he
  go_enter Tryz.func105, Tryz.ntmps105
  go_wp2_with (first | (go_at_call 98; refine (rsigned_c _ _ (by omega) (by omega)).mono ?_; rintro e w' ⟨rfl, rfl⟩) | (go_at_call 138; refine (rpower_c _ _ (by omega) (by omega)).mono ?_; rintro e w' ⟨rfl, rfl⟩) | (go_at_call 100; refine (rcut_c _ _ (by omega) (by omega)).mono ?_; rintro e w' ⟨rfl, rfl⟩))
  go_ret
  exact ⟨ret_int (by rw [hE.out, Int.tdiv_eq_ediv_of_nonneg h0]), rfl⟩
end Go.Proofs.YtkhfddodmjnecaaGreatDoor

set_option linter.all false
namespace Go.Proofs.YtkhfddodmjnecaaGreatDoor
open Go Go.RowKit

def lookB (o : Oper) : Bool :=
 match o.op with
 | .call c => (match c.callee with | .builtin .len | .builtin .max => true | _ => false)
 | _ => false
theorem lookB_spec {P : Program} {o : Oper} {ρ : Operand → Value} {w : World} {n : Next} {w' : World} (h : lookB o = true) (hr : (execOp ρ o).run P w = .ok n w') : ∃ v, n = .value v := by
 unfold lookB at h
 split at h
 ·rename_i c hc
  split at h
  ·rename_i hb
   simp only [execOp, hc, resolve, hb, Sem.run_bind, Sem.run_pure, Result.andThen_ok, invoke] at hr
   exact bind_value hr
  ·rename_i hb
   simp only [execOp, hc, resolve, hb, Sem.run_bind, Sem.run_pure, Result.andThen_ok, invoke] at hr
   exact bind_value hr
  ·cases h
 ·cases h
section
variable {P : Program} {ops : Array Oper} {Q : Act → World → Prop} {S : Nat → Prop}
theorem E_mob2 {f : Nat} {listed : Array Bool} {a : Act} {w : World} (i : Nat) (o : Oper) (hio : ops[i]? = some o)
  (hc : (closedB ops listed && (Region.noSelect ops && (Region.ready .any ops listed).contains i && Region.free .any ops listed i && (lookOp o || lookB o))) = true)
  (h : wpQuiet P ops (fun w' => ∃ x, w' = kp S w x) (fun a' => wpE S P ops Q f (listed.setIfInBounds i true) a' w) [o] a) : wpE S P ops Q (f + 1) listed a w := by
 simp only [Bool.and_eq_true] at hc
 obtain ⟨hcl, ⟨⟨hs, hr⟩, hf⟩, hk⟩ := hc
 simp only [wpQuiet] at h
 have hy : ∃ v, YieldsE S P ops w o v a ∧ wpE S P ops Q f (listed.setIfInBounds i true) (a.put o.dst v) w := by
  split at h
  ·rename_i hw
   obtain ⟨v, hv, hn⟩ := h
   refine ⟨v, .inl ⟨hw, fun w' hb => ?_⟩, hn⟩
   have h3 := hv w' (keep_kp hb)
   unfold Oper.quietAt at h3
   generalize hrr : (execOp a.eval o).run P w' = r at h3
   cases r with
   | ok n w1 =>
    have hu : ∃ v, n = .value v := by
     rw [Bool.or_eq_true] at hk
     rcases hk with hk | hk
     ·exact lookOp_spec hk hrr
     ·exact lookB_spec hk hrr
    obtain ⟨u, rfl⟩ := hu
    simp only [Oper.quietUpon] at h3
    obtain ⟨rfl, rfl⟩ := h3
    rfl
   | halt x w1 => simp only [Oper.quietUpon] at h3
  ·rename_i hw
   exact ⟨undef, .inr ⟨by simpa using hw, rfl⟩, h⟩
 obtain ⟨v, hy, hn⟩ := hy
 exact wpE_first hio (Region.noSelect_spec hs) f listed a w (Region.free_spec hio hf) (closed_of hcl) (by simpa using hr) hy hn
end
end Go.Proofs.YtkhfddodmjnecaaGreatDoor

set_option linter.all false
namespace Go.Proofs.YtkhfddodmjnecaaGreatDoor
open Go.ChangeShapes Go.WideShapes Go.ChangeAt Go.RowKit
set_option maxHeartbeats 2000000
set_option maxRecDepth 20000

def okN (x : Int) : Bool := !(decide (1099511627776 < x) || decide (x < -1099511627776))
def numsI (i : In) : List Int := [i.op, i.d, i.a, i.b, i.fn, i.obj, i.off, i.size]
def insF (i : In) : Bool := (numsI i).all okN && (i.args.all okN && decide (i.args.length ≤ 12))
theorem all_take (l : List Int) (k : Nat) (h : k < l.length) (h1 : (l.take k).all okN = true) (h2 : okN (l.getD k 0) = true) : (l.take (k + 1)).all okN = true := by
 rw [take_snoc l k h, List.all_append, h1]; simp at h2 ⊢; exact h2
theorem all_no (l : List Int) (k : Nat) (h : k < l.length) (h2 : okN (l.getD k 0) = false) : l.all okN = false := by
 rw [List.all_eq_false]
 exact ⟨l.getD k 0, by simp [List.getD, h], by rw [h2]; decide⟩
theorem okN_no {x : Int} (h : okN x = false) : 1099511627776 < x ∨ (¬ 1099511627776 < x ∧ x < -1099511627776) := by
 unfold okN at h; simp at h; omega
theorem okN_yes {x : Int} (h : okN x = true) : ¬ 1099511627776 < x ∧ ¬ x < -1099511627776 := by
 unfold okN at h; simp at h; omega
theorem ins_c (i : In) (v : Value) (w : World) (hv : InV w v i) (hn : i.args.length ≤ 9223372036854775807) :
  Calls Tryz.prog 56 #[v] w fun e w' => e = .returned (.bool (insF i)) ∧ Below w.heap.size w w' := by
 obtain ⟨va, rfl, a, c, rfl, hc1, hc2, hcell⟩ := hv
 have HC := Lib.hid hcell
 clear hcell
 have HI : Hid (insF i = ((numsI i).all okN && (i.args.all okN && decide (i.args.length ≤ 12)))) := rfl
 have hnl : (numsI i).length = 8 := rfl
 have HN : Hid (∀ (w1 : World), OwnI (w1.alloc (.cells #[.int .i64 i.op, .int .i64 i.d, .int .i64 i.a, .int .i64 i.b, .int .i64 i.fn, .int .i64 i.obj, .int .i64 i.off, .int .i64 i.size] 3)) 0 (.slice (some ⟨w1.heap.size, 0, none⟩) 8 8) (numsI i)) := fun w1 => OwnI.mk w1 0 (numsI i) (Nat.zero_le _) (by rw [hnl]; simp [maxLen])
 have hB : Hid (∀ o o', Below w.heap.size w ((w.alloc o).alloc o')) := fun o o' => (below_alloc w o).trans ((below_alloc _ o').mono (by simp))
 go_enter Tryz.func56, Tryz.ntmps56
 go_wp2_with fail
 go_loopw [4] (fun k wr => ∃ n : Nat, n ≤ 8 ∧ k = .int .i64 (n : Int) ∧ wr = ((w.alloc (.cells #[.int .i64 i.op, .int .i64 i.d, .int .i64 i.a, .int .i64 i.b, .int .i64 i.fn, .int .i64 i.obj, .int .i64 i.off, .int .i64 i.size, .int .u32 i.num, .slice a i.args.length c, .bool i.log] 48)).alloc (.cells #[.int .i64 i.op, .int .i64 i.d, .int .i64 i.a, .int .i64 i.b, .int .i64 i.fn, .int .i64 i.obj, .int .i64 i.off, .int .i64 i.size] 3)) ∧ Hid (((numsI i).take n).all okN = true)) (fun k _ => 8 - (intOf k).toNat)
 case atStart => exact ⟨0, Nat.zero_le _, rfl, rfl, rfl⟩
 case round =>
  obtain ⟨n, hn8, rfl, hwr, HA⟩ := hrel
  have hBr : Hid (Below w.heap.size w wr) := by rw [hwr]; exact hB.out _ _
  have HNr : OwnI wr 0 (.slice (some ⟨w.heap.size + 1, 0, none⟩) 8 8) (numsI i) := by
   rw [hwr]
   have := HN.out (w.alloc (.cells #[.int .i64 i.op, .int .i64 i.d, .int .i64 i.a, .int .i64 i.b, .int .i64 i.fn, .int .i64 i.obj, .int .i64 i.off, .int .i64 i.size, .int .u32 i.num, .slice a i.args.length c, .bool i.log] 48))
   simpa using this
  have q9 : wr.cell? ⟨w.heap.size, 9, none⟩ = some (.slice a i.args.length c) := by rw [hwr]; simp
  by_cases hlt : n < 8
  ·have hcn := HNr.cellAt.2.2.2.2.1 n hlt
   have hY := all_take (numsI i) n (by rw [hnl]; exact hlt) HA.out
   have hZ := all_no (numsI i) n (by rw [hnl]; exact hlt)
   generalize (numsI i).getD n 0 = x at *
   cases hx : okN x
   ·have HF : Hid (insF i = false) := by show _ = _; rw [HI.out, hZ hx]; rfl
    have hx' := okN_no hx
    clear hY hZ hx HNr hwr
    rcases hx' with hx' | ⟨hx', hx2⟩
    ·have e1 : decide (1099511627776 < x) = true := decide_eq_true hx'
     go_wp2_with fail
     go_ret
     exact ⟨ret_b HF.out.symm, hBr.out⟩
    ·have e1 : decide (1099511627776 < x) = false := decide_eq_false hx'
     have e2 : decide (x < -1099511627776) = true := decide_eq_true hx2
     go_wp2_with fail
     go_ret
     exact ⟨ret_b HF.out.symm, hBr.out⟩
   ·have HA2 := Lib.hid (hY hx)
    obtain ⟨hx1, hx2⟩ := okN_yes hx
    have e1 : decide (1099511627776 < x) = false := decide_eq_false hx1
    have e2 : decide (x < -1099511627776) = false := decide_eq_false hx2
    clear hY hZ hx HNr
    have hwr2 := Lib.hid hwr
    clear hwr
    go_wp2_with fail
    go_roundw
    case rel => exact ⟨n + 1, by omega, by go_num, hwr2.out, HA2⟩
    case measure => simp [intOf]; omega
  ·have HA3 : Hid ((numsI i).all okN = true) := by have := HA.out; rwa [List.take_of_length_le (by rw [hnl]; omega)] at this
   clear HNr hwr HA
   go_wp2_with fail
   go_loopw [5] (fun k wr => ∃ n : Nat, n ≤ i.args.length ∧ k = .int .i64 (n : Int) ∧ Hid (Below w.heap.size w wr) ∧ wr.cell? ⟨w.heap.size, 9, none⟩ = some (.slice a i.args.length c) ∧ Hid ((i.args.take n).all okN = true)) (fun k _ => i.args.length - (intOf k).toNat)
   case atStart => exact ⟨0, Nat.zero_le _, rfl, hBr, q9, rfl⟩
   case round =>
    clear q9
    obtain ⟨n, hnn, rfl, hBr, q9, HA⟩ := hrel
    by_cases hlt : n < i.args.length
    ·obtain ⟨b, o, rfl, hc⟩ := HC.out n hlt
     simp only [Nat.mul_one, Nat.add_zero] at hc
     replace hc := Ext.below hBr.out _ _ hc
     have hY := all_take i.args n hlt HA.out
     have hZ := all_no i.args n hlt
     generalize i.args.getD n 0 = x at *
     cases hx : okN x
     ·have HF : Hid (insF i = false) := by show _ = _; rw [HI.out, HA3.out, hZ hx]; rfl
      have hx' := okN_no hx
      clear hY hZ hx
      rcases hx' with hx' | ⟨hx', hx2⟩
      ·have e1 : decide (1099511627776 < x) = true := decide_eq_true hx'
       go_wp2_with fail
       go_ret
       exact ⟨ret_b HF.out.symm, hBr.out⟩
      ·have e1 : decide (1099511627776 < x) = false := decide_eq_false hx'
       have e2 : decide (x < -1099511627776) = true := decide_eq_true hx2
       go_wp2_with fail
       go_ret
       exact ⟨ret_b HF.out.symm, hBr.out⟩
     ·have HA2 := Lib.hid (hY hx)
      obtain ⟨hx1, hx2⟩ := okN_yes hx
      have e1 : decide (1099511627776 < x) = false := decide_eq_false hx1
      have e2 : decide (x < -1099511627776) = false := decide_eq_false hx2
      clear hY hZ hx
      go_wp2_with fail
      go_roundw
      case rel => exact ⟨n + 1, by omega, by go_num, hBr, q9, HA2⟩
      case measure => simp [intOf]; omega
    ·have HA4 : Hid (i.args.all okN = true) := by have := HA.out; rwa [List.take_of_length_le (by omega)] at this
     have HF : Hid (insF i = decide ((i.args.length : Int) ≤ 12)) := by show _ = _; rw [HI.out, HA3.out, HA4.out]; simp; omega
     go_wp2_with fail
     go_ret
     exact ⟨ret_b HF.out.symm, hBr.out⟩
end Go.Proofs.YtkhfddodmjnecaaGreatDoor

set_option linter.all false
namespace Go.Proofs.YtkhfddodmjnecaaGreatDoor
open Go.ChangeShapes Go.WideShapes Go.ChangeAt Go.RowKit
set_option maxHeartbeats 2000000
set_option maxRecDepth 20000

/-- numbers of blocks that there are -/
def Blks (p : Pr) (l : List Int) : Prop := ∀ t ∈ l, 0 ≤ t ∧ t < (p.blks.length : Int)
theorem foldl_ord (p : Pr) (f : Nat) (n : Int) (ih : ∀ t s, (0 ≤ t ∧ t < (p.blks.length : Int)) → Blks p s.ord → Blks p (rI p f t s).ord) : ∀ (l : List Int) (s : S3), Blks p l → Blks p s.ord → Blks p (l.foldl (hI p f n) s).ord
 | [], _, _, hs => hs
 | t :: l, s, hl, hs => by
  rw [List.foldl_cons]
  refine foldl_ord p f n ih l _ (fun x hx => hl x (List.mem_cons_of_mem _ hx)) ?_
  unfold hI
  split
  ·exact hs
  ·split
   ·exact ih t s (hl t List.mem_cons_self) hs
   ·exact hs
theorem rI_ord (p : Pr) : ∀ (f : Nat) (n : Int) (s : S3), (0 ≤ n ∧ n < (p.blks.length : Int)) → Blks p s.ord → Blks p (rI p f n s).ord
 | 0, _, _, _, hs => hs
 | f + 1, n, s, hn, hs => by
  rw [rI_succ]
  have := foldl_ord p f n (rI_ord p f) (outsP p n.toNat) (s.enter n) (fun t ht => outsP_mem ht) hs
  intro t ht
  rcases List.mem_append.1 ht with ht | ht
  ·exact this t ht
  ·rw [List.mem_singleton.1 ht]; exact hn
theorem wkD_ord (p : Pr) : Blks p (wkD p).ord := by
 rcases Nat.eq_zero_or_pos p.blks.length with h0 | h0
 ·unfold wkD
  rw [h0]
  intro t ht
  cases ht
 ·exact rI_ord p _ 0 _ (by omega) (fun t ht => by cases ht)
/-- which blocks are reached -/
def reachP (p : Pr) : List Bool := marksB (List.replicate p.blks.length false) (wkD p).ord.reverse
end Go.Proofs.YtkhfddodmjnecaaGreatDoor

set_option linter.all false
namespace Go.Proofs.YtkhfddodmjnecaaGreatDoor
open Go.ChangeShapes Go.WideShapes Go.ChangeAt Go.RowKit
set_option maxHeartbeats 2000000
set_option maxRecDepth 20000

end Go.Proofs.YtkhfddodmjnecaaGreatDoor

set_option linter.all false
namespace Go.Proofs.YtkhfddodmjnecaaGreatDoor
open Go.ChangeShapes Go.WideShapes Go.ChangeAt Go.RowKit
set_option maxHeartbeats 400000
set_option maxRecDepth 10000

/-- what lies in none of the walk's blocks stays, and its rows are those of before or new -/
structure FrR (w w' : World) (bw bs : Nat) (ov bv ov' bv' : Value) : Prop where
 os : w'.os = w.os
 tape : w'.tape = w.tape
 output : w'.output = w.output
 size : w.heap.size ≤ w'.heap.size
 block : ∀ k, k < w.heap.size → k ≠ bw → k ≠ bs → ov.ownBlock ≠ some k → bv.ownBlock ≠ some k → w'.heap[k]? = w.heap[k]?
 no : NewB w ov ov'
 nb : NewB w bv bv'
theorem FrR.refl (w : World) (bw bs : Nat) (ov bv : Value) : FrR w w bw bs ov bv ov bv := ⟨rfl, rfl, rfl, Nat.le_refl _, fun _ _ _ _ _ _ => rfl, .refl _ _, .refl _ _⟩
theorem newB_far {w : World} {v v' : Value} {k : Nat} (h : NewB w v v') (hk : k < w.heap.size) (hv : v.ownBlock ≠ some k) : v'.ownBlock ≠ some k := by
 rcases h with e | ⟨j, hj, e⟩
 ·rw [e]; exact hv
 ·rw [e]; intro e2; simp only [Option.some.injEq] at e2; omega
theorem NewB.trans {w w1 : World} {v v1 v2 : Value} (h : NewB w v v1) (h1 : NewB w1 v1 v2) (hs : w.heap.size ≤ w1.heap.size) : NewB w v v2 := by
 rcases h1 with e | ⟨j, hj, e⟩
 ·rcases h with e0 | ⟨k, hk, e0⟩
  ·exact .inl (e.trans e0)
  ·exact .inr ⟨k, hk, e.trans e0⟩
 ·exact .inr ⟨j, Nat.le_trans hs hj, e⟩
theorem FrR.trans {a b c : World} {bw bs : Nat} {o1 b1 o2 b2 o3 b3 : Value} (h : FrR a b bw bs o1 b1 o2 b2) (h' : FrR b c bw bs o2 b2 o3 b3) : FrR a c bw bs o1 b1 o3 b3 :=
 ⟨h'.os.trans h.os, h'.tape.trans h.tape, h'.output.trans h.output, Nat.le_trans h.size h'.size,
   fun k hk k1 k2 k3 k4 => (h'.block k (Nat.lt_of_lt_of_le hk h.size) k1 k2 (newB_far h.no hk k3) (newB_far h.nb hk k4)).trans (h.block k hk k1 k2 k3 k4),
   h.no.trans h'.no h.size, h.nb.trans h'.nb h.size⟩
section
variable {w : World} {bw bs B n : Nat} {s : S3} {ov bv : Value}
end
end Go.Proofs.YtkhfddodmjnecaaGreatDoor

set_option linter.all false
namespace Go.Proofs.YtkhfddodmjnecaaGreatDoor
open Go Go.RowKit
/-- live at the start of a block, by all ways on -/
def LvS (p : Pr) (r : Int) (n : Nat) : Prop :=
 ∀ S : Nat → Prop, (∀ n, withinB (p.blks.getD n default) 0 r = 1 → S n) → (∀ n t, withinB (p.blks.getD n default) 0 r = 0 → t ∈ outsP p n → S t.toNat → S n) → S n
theorem LvS.on {p : Pr} {r : Int} (n : Nat) (t : Int) (h : withinB (p.blks.getD n default) 0 r = 0) (ht : t ∈ outsP p n) (h' : LvS p r t.toNat) : LvS p r n := fun S h1 h2 => h2 n t h ht (h' S h1 h2)
theorem getD_setb (l : List Bool) (i j : Nat) (h : i < l.length) : (l.set i true).getD j false = if j = i then true else l.getD j false := by
 simp only [List.getD, List.getElem?_set]
 by_cases e : i = j
 ·subst e; simp [h]
 ·simp [e, Ne.symm e]
theorem setB_get (l : List Bool) (x : Int) (is : Bool) (r : Nat) (h : r < l.length) : (setB l x is).getD r false = if x = r then is else l.getD r false := by
 unfold setB
 split
 ·simp only [List.getD, List.getElem?_set]
  by_cases e : x.toNat = r
  ·rw [if_pos e, if_pos (by omega), if_pos (by omega)]; rfl
  ·rw [if_neg e, if_neg (by omega)]
 ·rw [if_neg (by omega)]
theorem marksB_get (l : List Bool) (rs : List Int) (r : Nat) (h : r < l.length) : (marksB l rs).getD r false = (l.getD r false || hasL rs r) := by
 unfold marksB
 induction rs generalizing l with
 | nil => simp [hasL]
 | cons x rs ih =>
  rw [List.foldl_cons, ih _ (by rw [setB_len]; exact h), setB_get _ _ _ _ h]
  unfold hasL
  rw [List.contains_cons]
  by_cases e : x = r
  ·subst e; simp
  ·rw [if_neg e, show ((r : Int) == x) = false from beq_eq_false_iff_ne.2 (Ne.symm e), Bool.false_or]
end Go.Proofs.YtkhfddodmjnecaaGreatDoor
