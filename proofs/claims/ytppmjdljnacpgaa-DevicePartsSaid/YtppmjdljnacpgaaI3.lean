/-
  Instructions and words of RV32IM as plain functions: which registers a form has, which numbers it has room for, a number's bits in their places, a word's number, and that words and instructions fit each other.
-/
import Derived.Test.YtppmjdljnacpgaaI1
import Derived.WalkKit
set_option linter.all false
namespace Go.Proofs.Ytppmjdljnacpgaa
open Go.RowKit
set_option linter.unusedVariables false

def hasRd (f : Int) : Bool := f == 82 || f == 73 || f == 72 || f == 85 || f == 74
def hasRs1 (f : Int) : Bool := f == 82 || f == 73 || f == 72 || f == 83 || f == 66
def hasRs2 (f : Int) : Bool := f == 82 || f == 83 || f == 66
def hasImm (f : Int) : Bool := !(f == 82)
def RegP (n : Int) (need : Bool) : Prop := if need = true then 0 ≤ n ∧ n < 32 else n = 0
def ReachP (f n : Int) : Prop :=
  if f = 85 then -2147483648 ≤ n ∧ n < 2147483648 ∧ n % 4096 = 0
  else if f = 74 then -1048576 ≤ n ∧ n < 1048576 ∧ n % 2 = 0
  else if f = 73 then -2048 ≤ n ∧ n < 2048
  else if f = 72 then 0 ≤ n ∧ n < 32
  else if f = 83 then -2048 ≤ n ∧ n < 2048
  else if f = 66 then -4096 ≤ n ∧ n < 4096 ∧ n % 2 = 0
  else n = 0
instance (n : Int) (b : Bool) : Decidable (RegP n b) := by unfold RegP; infer_instance
instance (f n : Int) : Decidable (ReachP f n) := by unfold ReachP; infer_instance
structure RightP (op rd rs1 rs2 imm : Int) : Prop where
  form : fmI op ≠ 0
  rd : RegP rd (hasRd (fmI op))
  rs1 : RegP rs1 (hasRs1 (fmI op))
  rs2 : RegP rs2 (hasRs2 (fmI op))
  imm : ReachP (fmI op) imm
instance (op rd rs1 rs2 imm : Int) : Decidable (RightP op rd rs1 rs2 imm) :=
  decidable_of_iff (fmI op ≠ 0 ∧ RegP rd (hasRd (fmI op)) ∧ RegP rs1 (hasRs1 (fmI op)) ∧ RegP rs2 (hasRs2 (fmI op)) ∧ ReachP (fmI op) imm)
    ⟨fun ⟨a, b, c, d, e⟩ => ⟨a, b, c, d, e⟩, fun ⟨a, b, c, d, e⟩ => ⟨a, b, c, d, e⟩⟩
def rightB (op rd rs1 rs2 imm : Int) : Bool := decide (RightP op rd rs1 rs2 imm)

/-- a number's bits (of 32) in the places of a form -/
def spreadF (f m : Int) : Int :=
  if f = 85 then m / 4096 * 4096
  else if f = 74 then m / 1048576 % 2 * 2147483648 + m / 2 % 1024 * 2097152 + m / 2048 % 2 * 1048576 + m / 4096 % 256 * 4096
  else if f = 73 then m % 4096 * 1048576
  else if f = 72 then m % 4096 * 1048576
  else if f = 83 then m / 32 % 128 * 33554432 + m % 32 * 128
  else if f = 66 then m / 4096 % 2 * 2147483648 + m / 32 % 64 * 33554432 + m / 2 % 16 * 256 + m / 2048 % 2 * 128
  else 0
def sx (n h : Int) : Int := if n < h then n else n - 2 * h
/-- the number of a word of a form -/
def immF (f w : Int) : Int :=
  if f = 85 then sx (w / 4096 * 4096) 2147483648
  else if f = 74 then sx (w / 2147483648 % 2 * 1048576 + w / 2097152 % 1024 * 2 + w / 1048576 % 2 * 2048 + w / 4096 % 256 * 4096) 1048576
  else if f = 73 then sx (w / 1048576 % 4096) 2048
  else if f = 72 then w / 1048576 % 32
  else if f = 83 then sx (w / 33554432 % 128 * 32 + w / 128 % 32) 2048
  else if f = 66 then sx (w / 2147483648 % 2 * 4096 + w / 33554432 % 64 * 32 + w / 256 % 16 * 2 + w / 128 % 2 * 2048) 4096
  else 0
def wordP (k : Nat) (rd rs1 rs2 imm : Int) : Int :=
  cd k + rd * 128 + th k * 4096 + rs1 * 32768 + rs2 * 1048576 + sv k * 33554432 + spreadF (fm k) (imm % 4294967296)
def rdW (k : Nat) (w : Int) : Int := if hasRd (fm k) = true then w / 128 % 32 else 0
def rs1W (k : Nat) (w : Int) : Int := if hasRs1 (fm k) = true then w / 32768 % 32 else 0
def rs2W (k : Nat) (w : Int) : Int := if hasRs2 (fm k) = true then w / 1048576 % 32 else 0
def fitsP (k : Nat) (w : Int) : Prop :=
  w % 128 = cd k ∧ (fm k = 85 ∨ fm k = 74 ∨ w / 4096 % 8 = th k) ∧ (¬ (fm k = 82 ∨ fm k = 72) ∨ w / 33554432 = sv k)
instance (k : Nat) (w : Int) : Decidable (fitsP k w) := by unfold fitsP; infer_instance

theorem fmI_nat (k : Nat) (h : k < 46) : fmI (k : Int) = fm k := by unfold fmI; rw [if_pos (by omega)]; rfl
/-- the seven forms -/
theorem forms (k : Nat) (h1 : 1 ≤ k) (h : k < 46) : fm k = 82 ∨ fm k = 73 ∨ fm k = 72 ∨ fm k = 85 ∨ fm k = 74 ∨ fm k = 83 ∨ fm k = 66 := by
  have := fm_all ⟨k, h⟩
  simp at this; omega
theorem sv_zero (k : Nat) (h : k < 46) (hf : fm k ≠ 82) (hf' : fm k ≠ 72) : sv k = 0 := by
  have := sv_all ⟨k, h⟩
  simp at this; omega
theorem th_zero (k : Nat) (h : k < 46) (hf : fm k = 85 ∨ fm k = 74) : th k = 0 := by
  have := th_all ⟨k, h⟩
  simp at this; omega

/-- what a word's parts make is an instruction -/
theorem cand_right (k : Nat) (h1 : 1 ≤ k) (h : k < 46) (w : Int) (hw : 0 ≤ w) (hw' : w < 4294967296) :
    RightP (k : Int) (rdW k w) (rs1W k w) (rs2W k w) (immF (fm k) w) := by
  have hf := forms k h1 h
  refine ⟨?_, ?_, ?_, ?_, ?_⟩ <;> rw [fmI_nat k h]
  · omega
  · unfold RegP rdW; split <;> omega
  · unfold RegP rs1W; split <;> omega
  · unfold RegP rs2W; split <;> omega
  · unfold ReachP immF sx
    rcases hf with hf | hf | hf | hf | hf | hf | hf <;> rw [hf] <;> simp only [Int.reduceEq, if_true, if_false] <;> (repeat' split) <;> omega
/-- the slices of a jump's and a branch's numbers -/
theorem j_slices (d e g c : Int) (hd : 0 ≤ d ∧ d < 2) (he : 0 ≤ e ∧ e < 1024) (hg : 0 ≤ g ∧ g < 2) (hc : 0 ≤ c ∧ c < 256) (n m : Int)
    (hn : n = d * 1048576 + e * 2 + g * 2048 + c * 4096) (hm : m = (if n < 1048576 then n else n - 2 * 1048576) % 4294967296) :
    m / 1048576 % 2 = d ∧ m / 2 % 1024 = e ∧ m / 2048 % 2 = g ∧ m / 4096 % 256 = c := by
  have hd' : d = 0 ∨ d = 1 := by omega
  have hg' : g = 0 ∨ g = 1 := by omega
  rcases hd' with rfl | rfl <;> rcases hg' with rfl | rfl <;> split at hm <;> refine ⟨?_, ?_, ?_, ?_⟩ <;> omega
theorem b_slices (d e g c : Int) (hd : 0 ≤ d ∧ d < 2) (he : 0 ≤ e ∧ e < 64) (hg : 0 ≤ g ∧ g < 16) (hc : 0 ≤ c ∧ c < 2) (n m : Int)
    (hn : n = d * 4096 + e * 32 + g * 2 + c * 2048) (hm : m = (if n < 4096 then n else n - 2 * 4096) % 4294967296) :
    m / 4096 % 2 = d ∧ m / 32 % 64 = e ∧ m / 2 % 16 = g ∧ m / 2048 % 2 = c := by
  have hd' : d = 0 ∨ d = 1 := by omega
  have hc' : c = 0 ∨ c = 1 := by omega
  rcases hd' with rfl | rfl <;> rcases hc' with rfl | rfl <;> split at hm <;> refine ⟨?_, ?_, ?_, ?_⟩ <;> omega
/-- a word's number, put back in its places -/
theorem spread_imm (f w : Int) (hw : 0 ≤ w) (hw' : w < 4294967296) :
    spreadF f (immF f w % 4294967296) = if f = 85 ∨ f = 74 then w / 4096 * 4096 else if f = 73 then w / 1048576 * 1048576 else if f = 72 then w / 1048576 % 32 * 1048576
      else if f = 83 ∨ f = 66 then w / 33554432 * 33554432 + w / 128 % 32 * 128 else 0 := by
  by_cases f1 : f = 85
  · subst f1; simp [spreadF, immF, sx]; split <;> omega
  by_cases f2 : f = 74
  · subst f2
    obtain ⟨e1, e2, e3, e4⟩ := j_slices (w / 2147483648 % 2) (w / 2097152 % 1024) (w / 1048576 % 2) (w / 4096 % 256) (by omega) (by omega) (by omega) (by omega) _ _ rfl rfl
    simp only [spreadF, immF, sx, Int.reduceEq, if_true, if_false]
    rw [e1, e2, e3, e4]
    clear e1 e2 e3 e4
    have q1 : w / 1048576 = w / 4096 / 256 := by omega
    have q2 : w / 2097152 = w / 4096 / 256 / 2 := by omega
    have q3 : w / 2147483648 = w / 4096 / 256 / 2 / 1024 := by omega
    have q4 : w / 4096 < 1048576 := by omega
    rw [q1, q2, q3]
    generalize w / 4096 = q at *
    simp; omega
  by_cases f3 : f = 73
  · subst f3; simp [spreadF, immF, sx]; split <;> omega
  by_cases f4 : f = 72
  · subst f4; simp [spreadF, immF, sx]; omega
  by_cases f5 : f = 83
  · subst f5; simp [spreadF, immF, sx]; split <;> omega
  by_cases f6 : f = 66
  · subst f6
    obtain ⟨e1, e2, e3, e4⟩ := b_slices (w / 2147483648 % 2) (w / 33554432 % 64) (w / 256 % 16) (w / 128 % 2) (by omega) (by omega) (by omega) (by omega) _ _ rfl rfl
    simp only [spreadF, immF, sx, Int.reduceEq, if_true, if_false]
    rw [e1, e2, e3, e4]
    clear e1 e2 e3 e4
    have q1 : w / 2147483648 = w / 33554432 / 64 := by omega
    have q4 : w / 33554432 < 128 := by omega
    have q2 : w / 256 = w / 128 / 2 := by omega
    rw [q1, q2]
    generalize w / 33554432 = q at *
    generalize w / 128 = r at *
    simp; omega
  · simp [spreadF, f1, f2, f3, f4, f5, f6]
theorem fits_word (k : Nat) (h1 : 1 ≤ k) (h : k < 46) (w : Int) (hw : 0 ≤ w) (hw' : w < 4294967296) :
    fitsP k w ↔ wordP k (rdW k w) (rs1W k w) (rs2W k w) (immF (fm k) w) = w := by
  have hf := forms k h1 h
  have hb := bd_lt k h
  have hs := sv_zero k h
  have ht := th_zero k h
  unfold fitsP wordP rdW rs1W rs2W hasRd hasRs1 hasRs2
  rw [spread_imm _ w hw hw']
  rcases hf with hf | hf | hf | hf | hf | hf | hf <;> rw [hf] at hs ht ⊢ <;> simp at hs ht ⊢ <;> omega
/-- a number's places, read back -/
theorem j_back (x rd imm : Int) (hx : 0 ≤ x ∧ x < 128) (hr : 0 ≤ rd ∧ rd < 32) (h : -1048576 ≤ imm ∧ imm < 1048576 ∧ imm % 2 = 0) (m w : Int) (hm : m = imm % 4294967296)
    (hw : w = x + rd * 128 + (m / 1048576 % 2 * 2147483648 + m / 2 % 1024 * 2097152 + m / 2048 % 2 * 1048576 + m / 4096 % 256 * 4096)) :
    0 ≤ w ∧ w < 4294967296 ∧ w % 128 = x ∧ w / 128 % 32 = rd ∧ sx (w / 2147483648 % 2 * 1048576 + w / 2097152 % 1024 * 2 + w / 1048576 % 2 * 2048 + w / 4096 % 256 * 4096) 1048576 = imm := by
  obtain ⟨d, e, g, c, hd, he, hg, hc, hq⟩ : ∃ d e g c : Int, m / 1048576 % 2 = d ∧ m / 2 % 1024 = e ∧ m / 2048 % 2 = g ∧ m / 4096 % 256 = c ∧ imm = e * 2 + g * 2048 + c * 4096 - d * 1048576 := by
    refine ⟨_, _, _, _, rfl, rfl, rfl, rfl, ?_⟩
    subst hm
    by_cases hi : 0 ≤ imm
    · rw [Int.emod_eq_of_lt hi (by omega)]; omega
    · have : imm % 4294967296 = imm + 4294967296 := by omega
      rw [this]; omega
  have bd : 0 ≤ d ∧ d < 2 := by omega
  have be : 0 ≤ e ∧ e < 1024 := by omega
  have bg : 0 ≤ g ∧ g < 2 := by omega
  have bc : 0 ≤ c ∧ c < 256 := by omega
  rw [hd, he, hg, hc] at hw
  clear hd he hg hc hm
  have v1 : w / 4096 = c + 256 * (g + 2 * (e + 1024 * d)) := by omega
  have v2 : w / 1048576 = w / 4096 / 256 := by omega
  have v3 : w / 2097152 = w / 4096 / 256 / 2 := by omega
  have v4 : w / 2147483648 = w / 4096 / 256 / 2 / 1024 := by omega
  have v5 : w / 4096 / 256 = g + 2 * (e + 1024 * d) := by rw [v1]; omega
  have v6 : w / 4096 / 256 / 2 = e + 1024 * d := by rw [v5]; omega
  have v7 : (e + 1024 * d) / 1024 = d := by omega
  have w1 : w / 2147483648 % 2 = d := by rw [v4, v6, v7]; omega
  have w2 : w / 2097152 % 1024 = e := by rw [v3, v6]; omega
  have w3 : w / 1048576 % 2 = g := by rw [v2, v5]; omega
  have w4 : w / 4096 % 256 = c := by rw [v1]; omega
  rw [w1, w2, w3, w4]
  unfold sx
  have hd' : d = 0 ∨ d = 1 := by omega
  refine ⟨by omega, by omega, by omega, by omega, ?_⟩
  rcases hd' with rfl | rfl <;> split <;> omega
theorem b_back (x t a b imm : Int) (hx : 0 ≤ x ∧ x < 128) (ht : 0 ≤ t ∧ t < 8) (ha : 0 ≤ a ∧ a < 32) (hb : 0 ≤ b ∧ b < 32) (h : -4096 ≤ imm ∧ imm < 4096 ∧ imm % 2 = 0) (m w : Int) (hm : m = imm % 4294967296)
    (hw : w = x + t * 4096 + a * 32768 + b * 1048576 + (m / 4096 % 2 * 2147483648 + m / 32 % 64 * 33554432 + m / 2 % 16 * 256 + m / 2048 % 2 * 128)) :
    0 ≤ w ∧ w < 4294967296 ∧ w % 128 = x ∧ w / 4096 % 8 = t ∧ w / 32768 % 32 = a ∧ w / 1048576 % 32 = b ∧ sx (w / 2147483648 % 2 * 4096 + w / 33554432 % 64 * 32 + w / 256 % 16 * 2 + w / 128 % 2 * 2048) 4096 = imm := by
  obtain ⟨d, e, g, c, hd, he, hg, hc, hq⟩ : ∃ d e g c : Int, m / 4096 % 2 = d ∧ m / 32 % 64 = e ∧ m / 2 % 16 = g ∧ m / 2048 % 2 = c ∧ imm = e * 32 + g * 2 + c * 2048 - d * 4096 := by
    refine ⟨_, _, _, _, rfl, rfl, rfl, rfl, ?_⟩
    subst hm
    by_cases hi : 0 ≤ imm
    · rw [Int.emod_eq_of_lt hi (by omega)]; omega
    · have : imm % 4294967296 = imm + 4294967296 := by omega
      rw [this]; omega
  have bd : 0 ≤ d ∧ d < 2 := by omega
  have be : 0 ≤ e ∧ e < 64 := by omega
  have bg : 0 ≤ g ∧ g < 16 := by omega
  have bc : 0 ≤ c ∧ c < 2 := by omega
  rw [hd, he, hg, hc] at hw
  clear hd he hg hc hm
  have v1 : w / 128 = c + 2 * (g + 16 * (t + 8 * (a + 32 * (b + 32 * (e + 64 * d))))) := by omega
  have v2 : w / 256 = w / 128 / 2 := by omega
  have v3 : w / 33554432 = w / 128 / 262144 := by omega
  have v4 : w / 2147483648 = w / 33554432 / 64 := by omega
  have v5 : w / 33554432 = e + 64 * d := by rw [v3, v1]; omega
  have v6 : (e + 64 * d) / 64 = d := by omega
  have v7 : w / 128 / 2 = g + 16 * (t + 8 * (a + 32 * (b + 32 * (e + 64 * d)))) := by rw [v1]; omega
  have w1 : w / 2147483648 % 2 = d := by rw [v4, v5, v6]; omega
  have w2 : w / 33554432 % 64 = e := by rw [v5]; omega
  have w3 : w / 256 % 16 = g := by rw [v2, v7]; omega
  have w4 : w / 128 % 2 = c := by rw [v1]; omega
  have u1 : w / 4096 = t + 8 * (a + 32 * (b + 32 * (e + 64 * d))) := by omega
  have u2 : w / 32768 = a + 32 * (b + 32 * (e + 64 * d)) := by omega
  have u3 : w / 1048576 = b + 32 * (e + 64 * d) := by omega
  have u0 : w % 128 = x := by clear v1 v2 v3 v4 v5 v6 v7 w1 w2 w3 w4 u1 u2 u3; omega
  have z1 : w / 4096 % 8 = t := by rw [u1]; omega
  have z2 : w / 32768 % 32 = a := by rw [u2]; omega
  have z3 : w / 1048576 % 32 = b := by rw [u3]; omega
  have z4 : 0 ≤ w ∧ w < 4294967296 := by clear v1 v2 v3 v4 v5 v6 v7 w1 w2 w3 w4 u1 u2 u3; omega
  rw [w1, w2, w3, w4]
  unfold sx
  have hd' : d = 0 ∨ d = 1 := by omega
  refine ⟨z4.1, z4.2, u0, z1, z2, z3, ?_⟩
  clear v1 v2 v3 v4 v5 v6 v7 w1 w2 w3 w4 u1 u2 u3 u0 z1 z2 z3 z4 hw
  rcases hd' with rfl | rfl <;> split <;> omega
theorem s_back (x t a b imm : Int) (hx : 0 ≤ x ∧ x < 128) (ht : 0 ≤ t ∧ t < 8) (ha : 0 ≤ a ∧ a < 32) (hb : 0 ≤ b ∧ b < 32) (h : -2048 ≤ imm ∧ imm < 2048) (m w : Int) (hm : m = imm % 4294967296)
    (hw : w = x + t * 4096 + a * 32768 + b * 1048576 + (m / 32 % 128 * 33554432 + m % 32 * 128)) :
    0 ≤ w ∧ w < 4294967296 ∧ w % 128 = x ∧ w / 4096 % 8 = t ∧ w / 32768 % 32 = a ∧ w / 1048576 % 32 = b ∧ sx (w / 33554432 % 128 * 32 + w / 128 % 32) 2048 = imm := by
  obtain ⟨e, g, he, hg, hq⟩ : ∃ e g : Int, m / 32 % 128 = e ∧ m % 32 = g ∧ imm = sx (e * 32 + g) 2048 := by
    refine ⟨_, _, rfl, rfl, ?_⟩
    subst hm
    unfold sx
    by_cases hi : 0 ≤ imm
    · rw [Int.emod_eq_of_lt hi (by omega)]; split <;> omega
    · have : imm % 4294967296 = imm + 4294967296 := by omega
      rw [this]; split <;> omega
  have be : 0 ≤ e ∧ e < 128 := by omega
  have bg : 0 ≤ g ∧ g < 32 := by omega
  rw [he, hg] at hw
  clear he hg hm
  have z4 : 0 ≤ w ∧ w < 4294967296 := by omega
  have u0 : w % 128 = x := by omega
  have u1 : w / 4096 = t + 8 * (a + 32 * (b + 32 * e)) := by omega
  have u2 : w / 32768 = a + 32 * (b + 32 * e) := by omega
  have u3 : w / 1048576 = b + 32 * e := by omega
  have u4 : w / 33554432 = e := by omega
  have u5 : w / 128 = g + 32 * (t + 8 * (a + 32 * (b + 32 * e))) := by omega
  have z1 : w / 4096 % 8 = t := by rw [u1]; omega
  have z2 : w / 32768 % 32 = a := by rw [u2]; omega
  have z3 : w / 1048576 % 32 = b := by rw [u3]; omega
  have z5 : w / 33554432 % 128 = e := by rw [u4]; omega
  have z6 : w / 128 % 32 = g := by rw [u5]; omega
  rw [z5, z6]
  exact ⟨z4.1, z4.2, u0, z1, z2, z3, hq.symm⟩
/-- the parts of an instruction's word -/
theorem word_parts (k : Nat) (h1 : 1 ≤ k) (h : k < 46) (rd rs1 rs2 imm : Int) (hr : RightP (k : Int) rd rs1 rs2 imm) (w : Int) (hw : wordP k rd rs1 rs2 imm = w) :
    0 ≤ w ∧ w < 4294967296 ∧ fitsP k w ∧ rdW k w = rd ∧ rs1W k w = rs1 ∧ rs2W k w = rs2 ∧ immF (fm k) w = imm := by
  have hf := forms k h1 h
  have hb := bd_lt k h
  have hs := sv_zero k h
  have ht := th_zero k h
  obtain ⟨_, r1, r2, r3, r4⟩ := hr
  rw [fmI_nat k h] at r1 r2 r3 r4
  unfold RegP hasRd at r1
  unfold RegP hasRs1 at r2
  unfold RegP hasRs2 at r3
  unfold ReachP at r4
  unfold wordP spreadF at hw
  unfold fitsP rdW rs1W rs2W hasRd hasRs1 hasRs2 immF
  rcases hf with hf | hf | hf | hf | hf | hf | hf <;> rw [hf] at hs ht r1 r2 r3 r4 hw ⊢ <;> simp at hs ht r1 r2 r3 r4 hw ⊢
  · refine ⟨?_, ?_, ?_, ?_, ?_, ?_, ?_⟩ <;> omega
  · unfold sx; refine ⟨?_, ?_, ?_, ?_, ?_, ?_, ?_⟩ <;> (try split) <;> omega
  · refine ⟨?_, ?_, ?_, ?_, ?_, ?_, ?_⟩ <;> omega
  · unfold sx; refine ⟨?_, ?_, ?_, ?_, ?_, ?_, ?_⟩ <;> (try split) <;> omega
  · obtain ⟨e1, e2, e3, e4, e5⟩ := j_back (cd k) rd imm (by omega) (by omega) r4 _ w rfl (by rw [← hw, ht, hs, r2, r3]; omega)
    rw [e5]
    refine ⟨?_, ?_, ?_, ?_, ?_, ?_, rfl⟩ <;> omega
  · obtain ⟨e1, e2, e3, e4, e5, e6, e7⟩ := s_back (cd k) (th k) rs1 rs2 imm (by omega) (by omega) (by omega) (by omega) r4 _ w rfl (by rw [← hw, hs, r1]; omega)
    rw [e7]
    refine ⟨?_, ?_, ?_, ?_, ?_, ?_, rfl⟩ <;> omega
  · obtain ⟨e1, e2, e3, e4, e5, e6, e7⟩ := b_back (cd k) (th k) rs1 rs2 imm (by omega) (by omega) (by omega) (by omega) r4 _ w rfl (by rw [← hw, hs, r1]; omega)
    rw [e7]
    refine ⟨?_, ?_, ?_, ?_, ?_, ?_, rfl⟩ <;> omega
/-- a word fits at most one instruction -/
theorem fits_once (k m : Nat) (h1 : 1 ≤ k) (h : k < 46) (h1' : 1 ≤ m) (h' : m < 46) (w : Int) (hk : fitsP k w) (hm : fitsP m w) : k = m := by
  have := clash_all ⟨k, h⟩ ⟨m, h'⟩
  simp only [Fin.mk.injEq] at this
  unfold fitsP at hk hm
  omega
end Go.Proofs.Ytppmjdljnacpgaa
