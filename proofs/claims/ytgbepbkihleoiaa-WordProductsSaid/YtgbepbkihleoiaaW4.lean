/-
  The walks of the two statements of word that say how parts join: both halves of a product, a quotient and a remainder.
  Conditions: each word lies between 0 and 2^32 - 1.
-/
import Derived.Test.YtgbepbkihleoiaaW3
namespace Go.Proofs.Ytgbepbkihleoiaa
open Go.ChangeShapes Go.WideShapes Go.ChangeAt Go.RowKit
set_option maxHeartbeats 400000
set_option linter.unusedVariables false

theorem wraps_u64 (n : Int) (h₀ : 0 ≤ n) (h₁ : n < 2 ^ 64) : IntKind.u64.wrap n = n := by rw [IntKind.wrap_u64]; omega
theorem u64_or32 (x y : Int) (h₀ : 0 ≤ x) (h₁ : x < 4294967296) (h₂ : 0 ≤ y) (h₃ : y < 4294967296) : bits .or .u64 (x * 4294967296) y = x * 4294967296 + y :=
  bits_join .u64 64 (by decide) wraps_u64 32 _ y (by omega) (by omega) (by omega) (by omega) (by omega) (by omega)
theorem highs_whole (a b : Int) (h : 0 ≤ a) (h' : a < 4294967296) (h1 : 0 ≤ b) (h1' : b < 4294967296) : highS a b * 4294967296 + a * b % 4294967296 = (sg a * sg b) % 18446744073709551616 := by
  have hm := mul_bd (sg a) (sg b) 2147483648 2147483648 (by have := sg_bd a h h'; omega) (by have := sg_bd a h h'; omega) (by have := sg_bd b h1 h1'; omega) (by have := sg_bd b h1 h1'; omega)
  have : a * b % 4294967296 = (sg a * sg b) % 4294967296 := by
    unfold sg
    split <;> split
    · rfl
    · rw [Int.mul_sub]; omega
    · rw [Int.sub_mul]; omega
    · rw [Int.sub_mul, Int.mul_sub, Int.mul_sub]; omega
  rw [this]
  unfold highS
  generalize sg a * sg b = p at *
  omega
theorem WordProducts_w (a b : Int) (w : World) (h : 0 ≤ a) (h' : a < 4294967296) (h1 : 0 ≤ b) (h1' : b < 4294967296) :
    Calls Try.prog 7 #[.int .u32 a, .int .u32 b] w fun e w' => e = .returned (.bool true) ∧ w = w' := by
  have hm := mul_nn a b 4294967295 4294967295 (by omega) (by omega) (by omega) (by omega)
  have ha := sg_bd a h h'
  have hb := sg_bd b h1 h1'
  have hn := mul_bd (sg a) (sg b) 2147483648 2147483648 (by omega) (by omega) (by omega) (by omega)
  have hu := highu_bd a b h h' h1 h1'
  have hs := highs_bd a b
  have e1 : highU a b * 4294967296 + a * b % 4294967296 = a * b := by unfold highU; omega
  have e2 := highs_whole a b h h' h1 h1'
  rw [← u64wrap] at e2
  have e0 : bits .or .u64 (highU a b * 4294967296) (a * b % 4294967296) = a * b := by
    rw [u64_or32 _ _ (by omega) (by omega) (by omega) (by omega)]; exact e1
  have e3 : bits .or .u64 (highS a b * 4294967296) (a * b % 4294967296) = IntKind.u64.wrap (sg a * sg b) := by
    rw [u64_or32 _ _ (by omega) (by omega) (by omega) (by omega)]; exact e2
  go_enter Try.func7, Try.ntmps7
  go_wp2_with (first | (go_at_call 16; refine (awake_c _ ).mono ?_; rintro e w' ⟨rfl, rfl⟩) | (go_at_call 38; refine (rsigned_c _ _ (by omega) (by omega) ).mono ?_; rintro e w' ⟨rfl, rfl⟩) | (go_at_call 30; refine (mul_c _ _ _ ).mono ?_; rintro e w' ⟨rfl, rfl⟩) | (go_at_call 32; refine (high_c _ _ _ (by omega) (by omega) (by omega) (by omega) ).mono ?_; rintro e w' ⟨rfl, rfl⟩) | (go_at_call 34; refine (highu_c _ _ _ (by omega) (by omega) (by omega) (by omega) ).mono ?_; rintro e w' ⟨rfl, rfl⟩))
  go_ret
  exact ⟨rfl, rfl⟩
theorem div_whole (a b : Int) (h : 0 ≤ a) (h' : a < 4294967296) (h1 : 0 ≤ b) (h1' : b < 4294967296) (hb : b ≠ 0) : (divS a b * b % 4294967296 + remS a b) % 4294967296 = a := by
  have e := Int.mul_tdiv_add_tmod (sg a) (sg b)
  unfold divS remS
  rw [if_neg hb, if_neg hb]
  have hsb : b = sg b % 4294967296 := (sg_mod b h1 h1').symm
  have hsa : a = sg a % 4294967296 := (sg_mod a h h').symm
  generalize (sg a).tdiv (sg b) = q at *
  generalize (sg a).tmod (sg b) = t at *
  have : q % 4294967296 * b % 4294967296 = (sg b * q) % 4294967296 := by
    rw [Int.mul_emod, Int.emod_emod_of_dvd _ (Int.dvd_refl _), Int.mul_comm, Int.mul_emod (sg b) q, ← hsb, Int.emod_eq_of_lt h1 h1']
  rw [this, ← Int.add_emod, e]
  exact hsa.symm
theorem rems_sg (a b : Int) (h : 0 ≤ a) (h' : a < 4294967296) (h1 : 0 ≤ b) (h1' : b < 4294967296) (hb : b ≠ 0) : sg (remS a b) = (sg a).tmod (sg b) := by
  have ha := sg_bd a h h'
  have hb' := sg_bd b h1 h1'
  have hz := sg_zero b h1 h1'
  have hr := rem_abs (sg a) (sg b)
  have h2 : ((sg a).natAbs % (sg b).natAbs) < (sg b).natAbs := Nat.mod_lt _ (by omega)
  have h3 : ((sg a).natAbs % (sg b).natAbs) ≤ (sg a).natAbs := Nat.mod_le _ _
  unfold remS
  rw [if_neg hb]
  generalize (sg a).tmod (sg b) = t at *
  have : -2147483648 ≤ t ∧ t < 2147483648 := by split at hr <;> omega
  unfold sg
  split <;> omega
set_option maxHeartbeats 4000000 in
theorem WordDivides_w (a b : Int) (w : World) (h : 0 ≤ a) (h' : a < 4294967296) (h1 : 0 ≤ b) (h1' : b < 4294967296) :
    Calls Try.prog 10 #[.int .u32 a, .int .u32 b] w fun e w' => e = .returned (.bool true) ∧ w = w' := by
  by_cases hb0 : b = 0
  · go_enter Try.func10, Try.ntmps10
    go_wp2_with (go_at_call 16; refine (awake_c _ ).mono ?_; rintro e w' ⟨rfl, rfl⟩)
    go_ret
    exact ⟨rfl, rfl⟩
  · have ha := sg_bd a h h'
    have hb := sg_bd b h1 h1'
    have hz := sg_zero b h1 h1'
    have hsb : ¬ sg b = 0 := fun e => hb0 (hz.1 e)
    have e1 := div_whole a b h h' h1 h1' hb0
    have e2 := rems_sg a b h h' h1 h1' hb0
    have hr := rem_abs (sg a) (sg b)
    have h2 : ((sg a).natAbs % (sg b).natAbs) < (sg b).natAbs := Nat.mod_lt _ (by omega)
    have h3 : ((sg a).natAbs % (sg b).natAbs) ≤ (sg a).natAbs := Nat.mod_le _ _
    have e3 : ((divU a b * b) % 4294967296 + remU a b) % 4294967296 = a := by
      unfold divU remU; rw [if_neg hb0, if_neg hb0]
      have := Int.mul_ediv_add_emod a b
      rw [Int.mul_comm] at this; omega
    have h4 : 0 ≤ remU a b ∧ remU a b < b := by
      unfold remU; rw [if_neg hb0]; exact ⟨Int.emod_nonneg _ hb0, Int.emod_lt_of_pos _ (by omega)⟩
    have h5 : 0 ≤ remS a b ∧ remS a b < 4294967296 := by unfold remS; rw [if_neg hb0]; omega
    clear hz
    rw [← e2] at hr
    clear e2
    generalize hx : sg a = x at *
    generalize hy : sg b = y at *
    generalize hzz : sg (remS a b) = z at *
    have hc : (x < 0 ∧ z < 0 ∨ z = 0 ∨ 0 < x ∧ 0 < z) ∧ (z < y ∨ z < -y) ∧ (y < z ∨ -y < z) := by split at hr <;> omega
    have hyy : y < 0 ∨ 0 < y := by omega
    have hxx : x < 0 ∨ x = 0 ∨ 0 < x := by omega
    have hzy : y < 0 → (y < z ∧ z < -y) := by intro; split at hr <;> omega
    have hzy' : 0 < y → (-y < z ∧ z < y) := by intro; split at hr <;> omega
    clear hr h2 h3
    obtain ⟨hc, hd, hd'⟩ := hc
    clear hd hd'
    rcases hyy with hyy | hyy
    all_goals
      first
        | (have hq := hzy hyy; clear hzy hzy')
        | (have hq := hzy' hyy; clear hzy hzy')
      rcases hc with hc | hc | hc <;> rcases hxx with hxx | hxx | hxx
    all_goals try (exfalso; omega)
    all_goals
      go_enter Try.func10, Try.ntmps10
      go_wp2_with (first | (go_at_call 16; refine (awake_c _ ).mono ?_; rintro e w' ⟨rfl, rfl⟩) | (go_at_call 38; refine (rsigned_c _ _ (by omega) (by omega) ).mono ?_; rintro e w' ⟨rfl, rfl⟩) | (go_at_call 45; refine (rem_c _ _ _ (by omega) (by omega) (by omega) (by omega) ).mono ?_; rintro e w' ⟨rfl, rfl⟩) | (go_at_call 49; refine (remu_c _ _ _ (by omega) (by omega) (by omega) (by omega) ).mono ?_; rintro e w' ⟨rfl, rfl⟩) | (go_at_call 43; refine (div_c _ _ _ (by omega) (by omega) (by omega) (by omega) ).mono ?_; rintro e w' ⟨rfl, rfl⟩) | (go_at_call 47; refine (divu_c _ _ _ (by omega) (by omega) (by omega) (by omega) ).mono ?_; rintro e w' ⟨rfl, rfl⟩) | (go_at_call 26; refine (add_c _ _ _ ).mono ?_; rintro e w' ⟨rfl, rfl⟩) | (go_at_call 30; refine (mul_c _ _ _ ).mono ?_; rintro e w' ⟨rfl, rfl⟩))
      go_ret
      exact ⟨rfl, rfl⟩

end Go.Proofs.Ytgbepbkihleoiaa
