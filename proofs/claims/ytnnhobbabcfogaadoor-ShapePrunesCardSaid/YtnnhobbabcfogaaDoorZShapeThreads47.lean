/-
  A number as text, the document's way: the walk.
-/
import Derived.Test.YtnnhobbabcfogaaDoorZShapeThreads46
import Derived.Lib.ItoaMem
set_option linter.all false
namespace Go.Proofs.YtnnhobbabcfogaaDoor
open Go.ChangeShapes Go.WideShapes Go.ChangeAt Go.RowKit
set_option maxHeartbeats 2000000
set_option linter.unusedVariables false
set_option maxRecDepth 100000

def dgF (d : Nat) : UInt8 := UInt8.ofNat (48 + d)
/-- one digit out of all -/
theorem digit_run (u : Nat) (w : World) : (Instr.slice 9 (.string { data := #[48, 49, 50, 51, 52, 53, 54, 55, 56, 57] }) (some (.int .i64 ((u : Int) % 10))) (some (.int .i64 ((u : Int) % 10 + 1))) none).run Tryd.prog w = .ok (.string { data := #[dgF (u % 10)] }) w := by
  rw [show (u : Int) % 10 = ((u % 10 : Nat) : Int) by omega]
  have h : u % 10 < 10 := Nat.mod_lt _ (by decide)
  generalize u % 10 = d at *
  have : d = 0 ∨ d = 1 ∨ d = 2 ∨ d = 3 ∨ d = 4 ∨ d = 5 ∨ d = 6 ∨ d = 7 ∨ d = 8 ∨ d = 9 := by omega
  rcases this with rfl | rfl | rfl | rfl | rfl | rfl | rfl | rfl | rfl | rfl <;> rfl
theorem dec_one (u : Nat) : Lib.decDigits u = if u / 10 = 0 then [dgF (u % 10)] else Lib.decDigits (u / 10) ++ [dgF (u % 10)] := by
  by_cases h : u < 10
  · rw [if_pos (by omega), Lib.decDigits_one h, Nat.mod_eq_of_lt h]; rfl
  · rw [if_neg (by omega)]
    rw [Lib.decDigits, dif_neg h]; rfl
def NumI (u m : Nat) (L : List UInt8) : Prop := Lib.decDigits u = if m = 0 then L else Lib.decDigits m ++ L
theorem NumI.step {u m : Nat} {L : List UInt8} (h : NumI u m L) (hm : 0 < m) : NumI u (m / 10) (dgF (m % 10) :: L) := by
  unfold NumI at *
  rw [h, if_neg (by omega), dec_one m]
  split <;> simp
theorem NumI.len {u m : Nat} {L : List UInt8} (h : NumI u m L) (hu : u ≤ 9223372036854775807) : L.length ≤ 21 := by
  have h1 := Lib.itoa_length_le (u : Int) (by omega) (by omega)
  rw [Lib.itoa_nonneg] at h1
  unfold NumI at h
  split at h
  · rw [h] at h1; exact h1
  · rw [h, List.length_append] at h1; omega
theorem num_pos (u : Nat) (hu : u ≤ 9223372036854775807) (w : World) :
    Calls Tryd.prog 46 #[.int .i64 (u : Int)] w fun e w' => e = .returned (.string ⟨(Lib.decDigits u).toArray⟩) ∧ w = w' := by
  have h0 : 0 ≤ (u : Int) := by omega
  have h1 : (u : Int) ≤ 9223372036854775807 := by omega
  have hm : 0 ≤ (u : Int) % 10 := by omega
  have hm' : (u : Int) % 10 ≤ 9 := by omega
  have g0 : decide ((u : Int) < 0) = false := decide_eq_false (by omega)
  have hsl := digit_run u
  go_enter Tryd.func46, Tryd.ntmps46
  go_wp2_with fail
  clear hsl
  go_loop [4, 5] (fun s m => ∃ (m' : Nat) (L : List UInt8), m = .int .i64 (m' : Int) ∧ s = .string ⟨L.toArray⟩ ∧ m' ≤ u ∧ Hid (NumI u m' L)) (fun _ m => (intOf m).toNat)
  case atStart => exact ⟨u / 10, [dgF (u % 10)], by simp, rfl, by omega, dec_one u⟩
  case round =>
    obtain ⟨m, L, rfl, rfl, hmu, HN⟩ := hrel
    have hL := HN.out.len hu
    by_cases hp : 0 < m
    · have g1 : decide (0 < (m : Int)) = true := decide_eq_true (by omega)
      have g2 : decide (0 < m) = true := decide_eq_true (by omega)
      have k0 : 0 ≤ (m : Int) := by omega
      have k1 : (m : Int) ≤ 9223372036854775807 := by omega
      have k2 : 0 ≤ (m : Int) % 10 := by omega
      have k3 : (m : Int) % 10 ≤ 9 := by omega
      have hsl := digit_run m
      have HS := Lib.hid (HN.out.step hp)
      go_wp2_with fail
      rw [show ({ data := #[dgF (m % 10)] } ++ { data := L.toArray } : ByteArray) = ⟨(dgF (m % 10) :: L).toArray⟩ from two_str [dgF (m % 10)] L]
      exact ⟨⟨m / 10, _, by simp, rfl, by omega, HS⟩, by simp [intOf]; omega⟩
    · obtain rfl : m = 0 := by omega
      have g1 : decide (0 < ((0 : Nat) : Int)) = false := rfl
      have HE : Hid (Lib.decDigits u = L) := by have := HN.out; unfold NumI at this; show _ = _; simpa using this
      go_wp2_with fail
      go_ret
      exact ⟨by rw [HE.out]; rfl, rfl⟩
theorem num_c (n : Int) (hn : -9223372036854775807 ≤ n) (hn' : n ≤ 9223372036854775807) (w : World) :
    Calls Tryd.prog 46 #[.int .i64 n] w fun e w' => e = .returned (.string ⟨(Lib.itoa n).toArray⟩) ∧ w = w' := by
  by_cases h : n < 0
  · have g0 : decide (n < 0) = true := decide_eq_true h
    obtain ⟨u, rfl⟩ : ∃ u : Nat, n = -(u : Int) := ⟨n.natAbs, by omega⟩
    have hlen := Lib.itoa_length_le (-(u : Int)) (by omega) (by omega)
    have e := Lib.hid (Lib.itoa_neg u (by omega))
    rw [e.out] at hlen
    simp only [List.length_cons] at hlen
    have EN := Lib.hid (num_pos u (by omega) w)
    go_enter Tryd.func46, Tryd.ntmps46
    go_wp2_with fail
    refine EN.out.mono ?_
    rintro e w' ⟨rfl, rfl⟩
    go_wp2_with fail
    rw [show ({ data := #[45] } ++ { data := (Lib.decDigits u).toArray } : ByteArray) = ⟨(45 :: Lib.decDigits u).toArray⟩ from two_str [45] _, ← e.out]
    go_ret
    exact ⟨rfl, rfl⟩
  · obtain ⟨u, rfl⟩ : ∃ u : Nat, n = (u : Int) := ⟨n.toNat, by omega⟩
    rw [Lib.itoa_nonneg]
    exact num_pos u (by omega) w
theorem numb_c (n : Int) (hn : -9223372036854775807 ≤ n) (hn' : n ≤ 9223372036854775807) (w : World) :
    Calls Tryd.prog 47 #[.int .i64 n] w fun e w' => e = .returned (.string ⟨(32 :: Lib.itoa n).toArray⟩) ∧ w = w' := by
  have hlen := Lib.itoa_length_le n (by omega) (by omega)
  have EN := Lib.hid (num_c n hn hn' w)
  go_enter Tryd.func47, Tryd.ntmps47
  go_wp2_with fail
  refine EN.out.mono ?_
  rintro e w' ⟨rfl, rfl⟩
  go_wp2_with fail
  rw [show ({ data := #[32] } ++ { data := (Lib.itoa n).toArray } : ByteArray) = ⟨(32 :: Lib.itoa n).toArray⟩ from two_str [32] _]
  go_ret
  exact ⟨rfl, rfl⟩
end Go.Proofs.YtnnhobbabcfogaaDoor
