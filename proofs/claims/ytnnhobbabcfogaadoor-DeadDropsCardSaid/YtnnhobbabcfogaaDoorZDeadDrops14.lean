/-
 Contract of the statements' same.; Plain arithmetic of 32-bit words: signed readings, products by halves, truncated and floored division.
-/
import Derived.Test.YtnnhobbabcfogaaDoorZDeadDrops13
import Derived.RowKit

set_option linter.all false
namespace Go.Proofs.YtnnhobbabcfogaaDoor
open Go.ChangeShapes Go.WideShapes Go.ChangeAt Go.RowKit
set_option maxHeartbeats 2000000
set_option maxRecDepth 20000

theorem below_drewNs {B : Nat} {w w1 : World} (h : Below B w w1) (n : Nat) : Below B w (w1.drewN n) := ⟨h.os, h.tape, h.output, h.size, h.block⟩
theorem list_extI (a b : List Int) (hl : a.length = b.length) (h : ∀ i, i < a.length → a.getD i 0 = b.getD i 0) : a = b := by
 apply List.ext_getElem hl
 intro i h1 h2
 have := h i h1
 simpa [List.getD, h1, h2] using this
end Go.Proofs.YtnnhobbabcfogaaDoor

set_option linter.all false
namespace Go.Proofs.YtnnhobbabcfogaaDoor
open Go.RowKit

/-- a word as a signed number -/
def sg (a : Int) : Int := if a < 2147483648 then a else a - 4294967296
/-- shifted to the left by so many -/
def shl32 (a b : Int) : Int := (a * 2 ^ (b % 32).toNat) % 4294967296
def shr32 (a b : Int) : Int := a / 2 ^ (b % 32).toNat
def sar32 (a b : Int) : Int := (sg a / 2 ^ (b % 32).toNat) % 4294967296
def divS (a b : Int) : Int := if b = 0 then 4294967295 else ((sg a).tdiv (sg b)) % 4294967296
def remS (a b : Int) : Int := if b = 0 then a else ((sg a).tmod (sg b)) % 4294967296
def divU (a b : Int) : Int := if b = 0 then 4294967295 else a / b
def remU (a b : Int) : Int := if b = 0 then a else a % b
def lessS (a b : Int) : Int := if sg a < sg b then 1 else 0
def lessU (a b : Int) : Int := if a < b then 1 else 0
def signX (a n : Int) : Int := if n < 1 ∨ 31 < n then a else (if a % 2 ^ n.toNat < 2 ^ (n.toNat - 1) then a % 2 ^ n.toNat else a % 2 ^ n.toNat - 2 ^ n.toNat) % 4294967296
def highS (a b : Int) : Int := sg a * sg b / 4294967296 % 4294967296
def highU (a b : Int) : Int := a * b / 4294967296
def highSU (a b : Int) : Int := sg a * b / 4294967296 % 4294967296

theorem wrap32_sg (a : Int) (h : 0 ≤ a) (h' : a < 4294967296) : wrap32 a = sg a := by
 unfold sg wrap32; split <;> omega
theorem sg_bd (a : Int) (h : 0 ≤ a) (h' : a < 4294967296) : -2147483648 ≤ sg a ∧ sg a < 2147483648 := by
 unfold sg; split <;> omega
theorem sg_mod (a : Int) (h : 0 ≤ a) (h' : a < 4294967296) : sg a % 4294967296 = a := by
 unfold sg; split <;> omega
theorem wrap64_in (a : Int) (h : -9223372036854775808 ≤ a) (h' : a < 9223372036854775808) : wrap64 a = a := by
 unfold wrap64; omega

theorem mul_bd (a b A B : Int) (ha : -A ≤ a) (ha' : a ≤ A) (hb : -B ≤ b) (hb' : b ≤ B) : -(A * B) ≤ a * b ∧ a * b ≤ A * B := by
 have h1 : a.natAbs * b.natAbs ≤ A.natAbs * B.natAbs := Nat.mul_le_mul (by omega) (by omega)
 have h2 : (a * b).natAbs = a.natAbs * b.natAbs := Int.natAbs_mul a b
 have h3 : (A * B).natAbs = A.natAbs * B.natAbs := Int.natAbs_mul A B
 have hA : 0 ≤ A := by omega
 have hB : 0 ≤ B := by omega
 have h4 : 0 ≤ A * B := Int.mul_nonneg hA hB
 omega
theorem mul_nn (a b A B : Int) (ha : 0 ≤ a) (ha' : a ≤ A) (hb : 0 ≤ b) (hb' : b ≤ B) : 0 ≤ a * b ∧ a * b ≤ A * B :=
 ⟨Int.mul_nonneg ha hb, (mul_bd a b A B (by omega) ha' (by omega) hb').2⟩

theorem u64wrap (a : Int) : IntKind.u64.wrap a = a % 18446744073709551616 := by
 simp [IntKind.wrap, IntKind.bits, IntKind.signed]

theorem high_eq (a b : Int) (h : 0 ≤ a) (h' : a < 4294967296) (h1 : 0 ≤ b) (h1' : b < 4294967296) :
  IntKind.u64.wrap (wrap64 (wrap64 (wrap32 a) * wrap64 (wrap32 b))) / 4294967296 % 4294967296 = highS a b := by
 have ha := sg_bd a h h'
 have hb := sg_bd b h1 h1'
 rw [wrap32_sg a h h', wrap32_sg b h1 h1', wrap64_in (sg a) (by omega) (by omega), wrap64_in (sg b) (by omega) (by omega), u64wrap]
 have hm := mul_bd (sg a) (sg b) 2147483648 2147483648 (by omega) (by omega) (by omega) (by omega)
 unfold highS
 generalize sg a * sg b = p at *
 rw [wrap64_in p (by omega) (by omega)]
 omega
theorem highsu_eq (a b : Int) (h : 0 ≤ a) (h' : a < 4294967296) (h1 : 0 ≤ b) (h1' : b < 4294967296) :
  IntKind.u64.wrap (wrap64 (wrap64 (wrap32 a) * b)) / 4294967296 % 4294967296 = highSU a b := by
 have ha := sg_bd a h h'
 rw [wrap32_sg a h h', wrap64_in (sg a) (by omega) (by omega), u64wrap]
 have hm := mul_bd (sg a) b 2147483648 4294967295 (by omega) (by omega) (by omega) (by omega)
 unfold highSU
 generalize sg a * b = p at *
 rw [wrap64_in p (by omega) (by omega)]
 omega
theorem highu_eq (a b : Int) (h : 0 ≤ a) (h' : a < 4294967296) (h1 : 0 ≤ b) (h1' : b < 4294967296) :
  IntKind.u64.wrap (a * b) / 4294967296 % 4294967296 = highU a b := by
 rw [u64wrap]
 have hm := mul_nn a b 4294967295 4294967295 (by omega) (by omega) (by omega) (by omega)
 unfold highU
 generalize a * b = p at *
 omega

/-- a number of 64 bits cut to a word: by a truncated remainder -/
theorem cut_neg (n : Int) (h : n < 0) : n.tmod 4294967296 = n % 4294967296 - (if n % 4294967296 = 0 then 0 else 4294967296) := by
 rw [Int.tmod_eq_emod]; split <;> split <;> omega

/-- the halves of a product -/
theorem half_eq (a b : Int) (h : 0 ≤ a) (h' : a < 4294967296) (h1 : 0 ≤ b) (h1' : b < 4294967296) :
  ∃ ll hl lh hh : Int, (a % 65536) * (b % 65536) = ll ∧ (a / 65536) * (b % 65536) = hl ∧ (a % 65536) * (b / 65536) = lh ∧ (a / 65536) * (b / 65536) = hh ∧
   0 ≤ ll ∧ ll ≤ 4294836225 ∧ 0 ≤ hl ∧ hl ≤ 4294836225 ∧ 0 ≤ lh ∧ lh ≤ 4294836225 ∧ 0 ≤ hh ∧ hh ≤ 4294836225 ∧ a * b = hh * 4294967296 + (hl + lh) * 65536 + ll := by
 refine ⟨_, _, _, _, rfl, rfl, rfl, rfl, ?_⟩
 have e1 := mul_nn (a % 65536) (b % 65536) 65535 65535 (by omega) (by omega) (by omega) (by omega)
 have e2 := mul_nn (a / 65536) (b % 65536) 65535 65535 (by omega) (by omega) (by omega) (by omega)
 have e3 := mul_nn (a % 65536) (b / 65536) 65535 65535 (by omega) (by omega) (by omega) (by omega)
 have e4 := mul_nn (a / 65536) (b / 65536) 65535 65535 (by omega) (by omega) (by omega) (by omega)
 refine ⟨e1.1, by omega, e2.1, by omega, e3.1, by omega, e4.1, by omega, ?_⟩
 have ha : a = 65536 * (a / 65536) + a % 65536 := by omega
 have hb : b = 65536 * (b / 65536) + b % 65536 := by omega
 generalize a / 65536 = x at *
 generalize a % 65536 = y at *
 generalize b / 65536 = u at *
 generalize b % 65536 = v at *
 subst ha hb
 simp only [Int.add_mul, Int.mul_add]
 have t1 : 65536 * x * (65536 * u) = 4294967296 * (x * u) := by
  rw [Int.mul_assoc, ← Int.mul_assoc x, Int.mul_comm x 65536, Int.mul_assoc 65536 x u, ← Int.mul_assoc]; rfl
 have t2 : 65536 * x * v = 65536 * (x * v) := Int.mul_assoc _ _ _
 have t3 : y * (65536 * u) = 65536 * (y * u) := by rw [← Int.mul_assoc, Int.mul_comm y 65536, Int.mul_assoc]
 rw [t1, t2, t3]
 omega

/-- the upper half of a product of words as the document reckons it -/
theorem highsu_half (a b : Int) (h : 0 ≤ a) (h' : a < 4294967296) (h1 : 0 ≤ b) (h1' : b < 4294967296) :
  (if sg a < 0 then (highU a b - b) % 4294967296 else highU a b) = highSU a b := by
 unfold highU highSU sg
 have hm := mul_nn a b 4294967295 4294967295 (by omega) (by omega) (by omega) (by omega)
 split
 ·split
  ·omega
  ·omega
 ·split
  ·have : (a - 4294967296) * b = a * b - 4294967296 * b := by rw [Int.sub_mul]
   rw [this]; omega
  ·omega
theorem high_half (a b : Int) (h : 0 ≤ a) (h' : a < 4294967296) (h1 : 0 ≤ b) (h1' : b < 4294967296) :
  (if sg b < 0 then (highSU a b - a) % 4294967296 else highSU a b) = highS a b := by
 have hs := sg_bd a h h'
 have hsm := sg_mod a h h'
 unfold highS highSU
 by_cases hb : b < 2147483648
 ·have : sg b = b := by unfold sg; rw [if_pos hb]
  rw [this, if_neg (by omega)]
 ·have : sg b = b - 4294967296 := by unfold sg; rw [if_neg hb]
  rw [this, if_pos (by omega)]
  have : sg a * (b - 4294967296) = sg a * b - sg a * 4294967296 := by rw [Int.mul_sub]
  rw [this]; omega

theorem pow32 (b : Int) (h : 0 ≤ b) : (1 : Int) ≤ 2 ^ (b % 32).toNat ∧ (2 : Int) ^ (b % 32).toNat ≤ 2147483648 := by
 have h1 : (b % 32).toNat ≤ 31 := by omega
 generalize (b % 32).toNat = n at *
 have h2 : (2 : Nat) ^ n ≤ 2 ^ 31 := Nat.pow_le_pow_right (by omega) h1
 have h3 : 0 < (2 : Nat) ^ n := Nat.pow_pos (by omega)
 have h4 : (2 : Int) ^ n = ((2 ^ n : Nat) : Int) := by simp
 rw [h4]; omega
theorem pow_split (n : Nat) (h : n ≤ 32) : ∃ p q : Int, (2 : Int) ^ n = p ∧ (4294967296 : Int) / p = q ∧ p * q = 4294967296 ∧ 1 ≤ p ∧ 1 ≤ q ∧ p ≤ 4294967296 ∧ q ≤ 4294967296 := by
 refine ⟨_, _, rfl, rfl, ?_⟩
 have : n = 0 ∨ n = 1 ∨ n = 2 ∨ n = 3 ∨ n = 4 ∨ n = 5 ∨ n = 6 ∨ n = 7 ∨ n = 8 ∨ n = 9 ∨ n = 10 ∨ n = 11 ∨ n = 12 ∨ n = 13 ∨ n = 14 ∨ n = 15 ∨ n = 16 ∨ n = 17 ∨ n = 18 ∨ n = 19 ∨ n = 20 ∨ n = 21 ∨ n = 22 ∨ n = 23 ∨ n = 24 ∨ n = 25 ∨ n = 26 ∨ n = 27 ∨ n = 28 ∨ n = 29 ∨ n = 30 ∨ n = 31 ∨ n = 32 := by omega
 rcases this with h | h | h | h | h | h | h | h | h | h | h | h | h | h | h | h | h | h | h | h | h | h | h | h | h | h | h | h | h | h | h | h | h <;> subst h <;> decide
/-- shifted to the left: what is lost is lost first -/
theorem shl_eq (a b : Int) (h : 0 ≤ b) : ((a % (4294967296 / 2 ^ (b % 32).toNat)) * 2 ^ (b % 32).toNat) % 4294967296 = shl32 a b ∧ (0 ≤ (a % (4294967296 / 2 ^ (b % 32).toNat)) * 2 ^ (b % 32).toNat ∧ (a % (4294967296 / 2 ^ (b % 32).toNat)) * 2 ^ (b % 32).toNat < 4294967296) := by
 obtain ⟨p, q, h1, h2, h3, h4, h5, h6, h7⟩ := pow_split (b % 32).toNat (by omega)
 unfold shl32
 rw [h1, h2]
 have e1 := Int.emod_nonneg a (show q ≠ 0 by omega)
 have e2 := Int.emod_lt_of_pos a (show 0 < q by omega)
 have e3 : (a % q) * p = (a * p) % 4294967296 := by
  rw [← h3, Int.mul_comm a p, Int.mul_emod_mul_of_pos _ _ (by omega), Int.mul_comm]
 rw [e3]
 omega

/-- a power of two -/
def pw (k : Nat) : Int := 2 ^ k
theorem pw_succ (k : Nat) : pw (k + 1) = 2 * pw k := by unfold pw; rw [Int.pow_succ]; omega
theorem pw_pos (k : Nat) : 1 ≤ pw k := by
 unfold pw
 have h3 : 0 < (2 : Nat) ^ k := Nat.pow_pos (by omega)
 have h4 : (2 : Int) ^ k = ((2 ^ k : Nat) : Int) := by simp
 rw [h4]; omega
theorem pw_le (k m : Nat) (h : k ≤ m) : pw k ≤ pw m := by
 unfold pw
 have h2 : (2 : Nat) ^ k ≤ 2 ^ m := Nat.pow_le_pow_right (by omega) h
 have h4 : (2 : Int) ^ k = ((2 ^ k : Nat) : Int) := by simp
 have h5 : (2 : Int) ^ m = ((2 ^ m : Nat) : Int) := by simp
 rw [h4, h5]; omega
theorem pw_31 (k : Nat) (h : k ≤ 31) : pw k ≤ 2147483648 := pw_le k 31 h

theorem emod_pw (a : Int) (k : Nat) : 0 ≤ a % pw k ∧ a % pw k < pw k :=
 ⟨Int.emod_nonneg _ (by have := pw_pos k; omega), Int.emod_lt_of_pos _ (by have := pw_pos k; omega)⟩
theorem pw_mul (i j : Nat) : pw (i + j) = pw i * pw j := by unfold pw; rw [Int.pow_add]

/-- so many low bits as a signed number: by two shifts -/
theorem sign_eq (a n : Int) (h : 1 ≤ n) (h' : n ≤ 31) :
  sg (a * 2 ^ (32 - n).toNat % 4294967296) / 2 ^ (32 - n).toNat % 4294967296 = signX a n := by
 obtain ⟨k, rfl⟩ : ∃ k : Nat, n = (k + 1 : Nat) := ⟨n.toNat - 1, by omega⟩
 have e1 : pw (k + 1) * pw (31 - k) = 4294967296 := by rw [← pw_mul, show k + 1 + (31 - k) = 32 by omega]; rfl
 have e2 : (32 - ((k + 1 : Nat) : Int)).toNat = 31 - k := by omega
 unfold signX
 rw [e2, if_neg (by omega), show ((k + 1 : Nat) : Int).toNat = k + 1 by omega, show k + 1 - 1 = k by omega]
 show sg (a * pw (31 - k) % 4294967296) / pw (31 - k) % 4294967296 = (if a % pw (k + 1) < pw k then a % pw (k + 1) else a % pw (k + 1) - pw (k + 1)) % 4294967296
 have b1 := pw_pos (31 - k)
 have b2 := pw_pos k
 have e3 : a * pw (31 - k) % 4294967296 = (a % pw (k + 1)) * pw (31 - k) := by
  rw [← e1, Int.mul_comm a, Int.mul_comm (pw (k + 1)), Int.mul_emod_mul_of_pos _ _ (by omega), Int.mul_comm]
 have b3 := emod_pw a (k + 1)
 rw [e3]
 generalize a % pw (k + 1) = r at *
 rw [pw_succ] at *
 generalize pw (31 - k) = q at *
 generalize pw k = p at *
 have e4 : p * q = 2147483648 := by rw [Int.mul_assoc] at e1; omega
 unfold sg
 by_cases hr : r < p
 ·rw [if_pos hr, if_pos, Int.mul_ediv_cancel _ (by omega)]
  have : (r + 1) * q ≤ p * q := Int.mul_le_mul_of_nonneg_right (by omega) (by omega)
  rw [Int.add_mul] at this; omega
 ·rw [if_neg hr, if_neg]
  ·have : r * q - 4294967296 = (r - 2 * p) * q := by rw [Int.sub_mul, Int.mul_assoc]; omega
   rw [this, Int.mul_ediv_cancel _ (by omega)]
  ·have : p * q ≤ r * q := Int.mul_le_mul_of_nonneg_right (by omega) (by omega)
   omega
theorem sign_bd (a n : Int) (h : 0 ≤ a) (h' : a < 4294967296) : 0 ≤ signX a n ∧ signX a n < 4294967296 := by
 unfold signX; split <;> omega

theorem sg_zero (b : Int) (h : 0 ≤ b) (h' : b < 4294967296) : sg b = 0 ↔ b = 0 := by unfold sg; split <;> omega
theorem sg_inj (a b : Int) (h : 0 ≤ a) (h' : a < 4294967296) (h1 : 0 ≤ b) (h1' : b < 4294967296) : sg a = sg b ↔ a = b := by
 unfold sg; split <;> split <;> omega

theorem tdiv_bd (x y : Int) (h : -2147483648 ≤ x) (h' : x < 2147483648) : -2147483648 ≤ x.tdiv y ∧ x.tdiv y ≤ 2147483648 := by
 have h1 : (x.tdiv y).natAbs ≤ x.natAbs := by rw [Int.natAbs_tdiv]; exact Nat.div_le_self _ _
 omega
theorem tmod_bd (x y : Int) (h : -2147483648 ≤ x) (h' : x < 2147483648) : -2147483648 ≤ x.tmod y ∧ x.tmod y ≤ 2147483648 := by
 have h1 : (x.tmod y).natAbs ≤ x.natAbs := by rw [Int.natAbs_tmod]; exact Nat.mod_le _ _
 omega
theorem div_eq (a b : Int) (h : 0 ≤ a) (h' : a < 4294967296) (h1 : 0 ≤ b) (h1' : b < 4294967296) (hb : b ≠ 0) :
  wrap64 ((wrap64 (wrap32 a)).tdiv (wrap64 (wrap32 b))) % 4294967296 = divS a b := by
 have ha := sg_bd a h h'
 have hb' := sg_bd b h1 h1'
 rw [wrap32_sg a h h', wrap32_sg b h1 h1', wrap64_in (sg a) (by omega) (by omega), wrap64_in (sg b) (by omega) (by omega)]
 have := tdiv_bd (sg a) (sg b) (by omega) (by omega)
 rw [wrap64_in _ (by omega) (by omega)]
 unfold divS; rw [if_neg hb]
theorem rem_eq (a b : Int) (h : 0 ≤ a) (h' : a < 4294967296) (h1 : 0 ≤ b) (h1' : b < 4294967296) (hb : b ≠ 0) :
  (wrap64 (wrap32 a)).tmod (wrap64 (wrap32 b)) % 4294967296 = remS a b := by
 have ha := sg_bd a h h'
 have hb' := sg_bd b h1 h1'
 rw [wrap32_sg a h h', wrap32_sg b h1 h1', wrap64_in (sg a) (by omega) (by omega), wrap64_in (sg b) (by omega) (by omega)]
 unfold remS; rw [if_neg hb]
/-- a quotient by amounts, with its sign -/
theorem div_abs (x y : Int) (hy : y ≠ 0) : x.tdiv y = (if (x < 0 ∧ 0 < y) ∨ (0 < x ∧ y < 0) then -(((x.natAbs / y.natAbs : Nat) : Int)) else ((x.natAbs / y.natAbs : Nat) : Int)) := by
 have h1 : (x.tdiv y).natAbs = x.natAbs / y.natAbs := Int.natAbs_tdiv x y
 have h2 : 0 ≤ x → 0 ≤ y → 0 ≤ x.tdiv y := fun a b => Int.tdiv_nonneg a b
 have h3 : x ≤ 0 → y ≤ 0 → 0 ≤ x.tdiv y := fun a b => by rw [← Int.neg_tdiv_neg]; exact Int.tdiv_nonneg (by omega) (by omega)
 have h4 : x ≤ 0 → 0 ≤ y → x.tdiv y ≤ 0 := fun a b => by have := Int.tdiv_nonneg (a := -x) (b := y) (by omega) b; rw [Int.neg_tdiv] at this; omega
 have h5 : 0 ≤ x → y ≤ 0 → x.tdiv y ≤ 0 := fun a b => by have := Int.tdiv_nonneg (a := x) (b := -y) a (by omega); rw [Int.tdiv_neg] at this; omega
 split <;> omega
theorem rem_abs (x y : Int) : x.tmod y = (if x < 0 then -(((x.natAbs % y.natAbs : Nat) : Int)) else ((x.natAbs % y.natAbs : Nat) : Int)) := by
 have h1 : (x.tmod y).natAbs = x.natAbs % y.natAbs := Int.natAbs_tmod x y
 have h2 : 0 ≤ x → 0 ≤ x.tmod y := fun a => Int.tmod_nonneg y a
 have h4 : x ≤ 0 → x.tmod y ≤ 0 := fun a => by have := Int.tmod_nonneg (a := -x) y (by omega); rw [Int.neg_tmod] at this; omega
 split <;> omega
end Go.Proofs.YtnnhobbabcfogaaDoor
