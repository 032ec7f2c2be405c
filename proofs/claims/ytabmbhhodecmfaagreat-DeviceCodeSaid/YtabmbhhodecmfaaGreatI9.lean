/-
  Contracts of the reference's functions of instructions on forms and numbers.
  Conditions: words lie between 0 and 2^32 - 1; the form is one of the letters.
-/
import Derived.Test.YtabmbhhodecmfaaGreatI4
import Derived.Test.YtabmbhhodecmfaaGreatQ
set_option linter.all false
namespace Go.Proofs.YtabmbhhodecmfaaGreat
open Go.ChangeShapes Go.WideShapes Go.ChangeAt Go.RowKit
set_option maxHeartbeats 400000
set_option linter.unusedVariables false

theorem pw_l0 : pw 0 = 1 := rfl
theorem pw_l1 : pw 1 = 2 := rfl
theorem pw_l2 : pw 2 = 4 := rfl
theorem pw_l3 : pw 3 = 8 := rfl
theorem pw_l4 : pw 4 = 16 := rfl
theorem pw_l5 : pw 5 = 32 := rfl
theorem pw_l6 : pw 6 = 64 := rfl
theorem pw_l7 : pw 7 = 128 := rfl
theorem pw_l8 : pw 8 = 256 := rfl
theorem pw_l9 : pw 9 = 512 := rfl
theorem pw_l10 : pw 10 = 1024 := rfl
theorem pw_l11 : pw 11 = 2048 := rfl
theorem pw_l12 : pw 12 = 4096 := rfl
theorem pw_l13 : pw 13 = 8192 := rfl
theorem pw_l14 : pw 14 = 16384 := rfl
theorem pw_l15 : pw 15 = 32768 := rfl
theorem pw_l16 : pw 16 = 65536 := rfl
theorem pw_l17 : pw 17 = 131072 := rfl
theorem pw_l18 : pw 18 = 262144 := rfl
theorem pw_l19 : pw 19 = 524288 := rfl
theorem pw_l20 : pw 20 = 1048576 := rfl
theorem pw_l21 : pw 21 = 2097152 := rfl
theorem pw_l22 : pw 22 = 4194304 := rfl
theorem pw_l23 : pw 23 = 8388608 := rfl
theorem pw_l24 : pw 24 = 16777216 := rfl
theorem pw_l25 : pw 25 = 33554432 := rfl
theorem pw_l26 : pw 26 = 67108864 := rfl
theorem pw_l27 : pw 27 = 134217728 := rfl
theorem pw_l28 : pw 28 = 268435456 := rfl
theorem pw_l29 : pw 29 = 536870912 := rfl
theorem pw_l30 : pw 30 = 1073741824 := rfl
theorem pw_l31 : pw 31 = 2147483648 := rfl
theorem pw_l32 : pw 32 = 4294967296 := rfl
attribute [local go_sem] pw_l0 pw_l1 pw_l2 pw_l3 pw_l4 pw_l5 pw_l6 pw_l7 pw_l8 pw_l9 pw_l10 pw_l11 pw_l12 pw_l13 pw_l14 pw_l15 pw_l16 pw_l17 pw_l18 pw_l19 pw_l20 pw_l21 pw_l22 pw_l23 pw_l24 pw_l25 pw_l26 pw_l27 pw_l28 pw_l29 pw_l30 pw_l31 pw_l32
theorem cd_spec : ∀ k : Fin 46, (k.val = 1 → cd k = 55) ∧ (k.val = 2 → cd k = 23) ∧ (k.val = 3 → cd k = 111) ∧ (k.val = 4 → cd k = 103) ∧ (5 ≤ k.val → k.val ≤ 10 → cd k = 99) ∧ (11 ≤ k.val → k.val ≤ 15 → cd k = 3) ∧ (16 ≤ k.val → k.val ≤ 18 → cd k = 35) ∧ (19 ≤ k.val → k.val ≤ 27 → cd k = 19) ∧ (28 ≤ k.val → cd k = 51) := by decide
theorem sv_spec : ∀ k : Fin 46, (k.val = 27 ∨ k.val = 29 ∨ k.val = 35 → sv k = 32) ∧ (38 ≤ k.val → sv k = 1) ∧ (k.val ≠ 27 → k.val ≠ 29 → k.val ≠ 35 → k.val < 38 → sv k = 0) := by decide
theorem fm_spec : ∀ k : Fin 46, (1 ≤ k.val → k.val ≤ 2 → fm k = 85) ∧ (k.val = 3 → fm k = 74) ∧ (k.val = 4 → fm k = 73) ∧ (5 ≤ k.val → k.val ≤ 10 → fm k = 66) ∧ (11 ≤ k.val → k.val ≤ 15 → fm k = 73) ∧ (16 ≤ k.val → k.val ≤ 18 → fm k = 83) ∧ (19 ≤ k.val → k.val ≤ 24 → fm k = 73) ∧ (25 ≤ k.val → k.val ≤ 27 → fm k = 72) ∧ (28 ≤ k.val → fm k = 82) := by decide

theorem val_in (f : Nat → Int) (k : Nat) (v : Int) (lo hi : Nat) (h : lo ≤ k) (h' : k ≤ hi) (h46 : hi < 46) (hd : ∀ j : Fin 46, lo ≤ j.val → j.val ≤ hi → f j.val = v) : v = f k := (hd ⟨k, by omega⟩ h h').symm
theorem rform_c (op : Int) (w : World) :
    Calls Tryz.prog 37 #[.int .i64 op] w fun e w' => e = .returned (.int .u8 (fmI op)) ∧ w = w' := by
  by_cases h : 1 ≤ op ∧ op < 46
  · obtain ⟨k, rfl⟩ := Int.eq_ofNat_of_zero_le (show 0 ≤ op by omega)
    have hk : k < 46 := by omega
    have hf := Lib.hid (fmI_nat k hk)
    have hs := Lib.hid (fm_spec ⟨k, hk⟩)
    have h1 := h.1
    go_enter Tryz.func37, Tryz.ntmps37
    go_wp2
    all_goals
      go_ret
      refine ⟨ret_int ?_, rfl⟩
      rw [hf.out]
      (try simp only [beq_eq_false_iff_ne, beq_iff_eq, ne_eq] at *)
      first
        | exact val_in fm k 85 1 2 (by omega) (by omega) (by omega) (by decide)
        | exact val_in fm k 74 3 3 (by omega) (by omega) (by omega) (by decide)
        | exact val_in fm k 73 4 4 (by omega) (by omega) (by omega) (by decide)
        | exact val_in fm k 66 5 10 (by omega) (by omega) (by omega) (by decide)
        | exact val_in fm k 73 11 15 (by omega) (by omega) (by omega) (by decide)
        | exact val_in fm k 83 16 18 (by omega) (by omega) (by omega) (by decide)
        | exact val_in fm k 73 19 24 (by omega) (by omega) (by omega) (by decide)
        | exact val_in fm k 72 25 27 (by omega) (by omega) (by omega) (by decide)
        | exact val_in fm k 82 28 45 (by omega) (by omega) (by omega) (by decide)
  · have h' : op < 1 ∨ 45 < op := by omega
    have hf : fmI op = 0 := by
      by_cases h0 : op = 0
      · subst h0; rfl
      · exact fmI_out op (by omega)
    have hf := Lib.hid hf
    clear h
    rcases h' with h | h
    all_goals
      go_enter Tryz.func37, Tryz.ntmps37
      go_wp2
      go_ret
      exact ⟨ret_int hf.out.symm, rfl⟩
theorem rcode_c (k : Nat) (h1 : 1 ≤ k) (hk : k < 46) (w : World) :
    Calls Tryz.prog 71 #[.int .i64 (k : Int)] w fun e w' => e = .returned (.int .i64 (cd k)) ∧ w = w' := by
  have hs := Lib.hid (cd_spec ⟨k, hk⟩)
  go_enter Tryz.func71, Tryz.ntmps71
  go_wp2
  all_goals
    go_ret
    refine ⟨ret_int ?_, rfl⟩
    (try simp only [beq_eq_false_iff_ne, beq_iff_eq, ne_eq] at *)
    first
      | exact val_in cd k 55 1 1 (by omega) (by omega) (by omega) (by decide)
      | exact val_in cd k 23 2 2 (by omega) (by omega) (by omega) (by decide)
      | exact val_in cd k 111 3 3 (by omega) (by omega) (by omega) (by decide)
      | exact val_in cd k 103 4 4 (by omega) (by omega) (by omega) (by decide)
      | exact val_in cd k 99 5 10 (by omega) (by omega) (by omega) (by decide)
      | exact val_in cd k 3 11 15 (by omega) (by omega) (by omega) (by decide)
      | exact val_in cd k 35 16 18 (by omega) (by omega) (by omega) (by decide)
      | exact val_in cd k 19 19 27 (by omega) (by omega) (by omega) (by decide)
      | exact val_in cd k 51 28 45 (by omega) (by omega) (by omega) (by decide)
theorem rseventh_c (k : Nat) (h1 : 1 ≤ k) (hk : k < 46) (w : World) :
    Calls Tryz.prog 73 #[.int .i64 (k : Int)] w fun e w' => e = .returned (.int .i64 (sv k)) ∧ w = w' := by
  have hs := Lib.hid (sv_spec ⟨k, hk⟩)
  have hc : k = 27 ∨ k = 29 ∨ k = 35 ∨ k ≤ 26 ∨ k = 28 ∨ (30 ≤ k ∧ k ≤ 34) ∨ (36 ≤ k ∧ k ≤ 37) ∨ 38 ≤ k := by omega
  rcases hc with rfl | rfl | rfl | hc | rfl | hc | hc | hc
  all_goals
    try have q1 : ((k : Int) == 27) = false := by rw [beq_eq_false_iff_ne]; omega
    try have q2 : ((k : Int) == 29) = false := by rw [beq_eq_false_iff_ne]; omega
    try have q3 : ((k : Int) == 35) = false := by rw [beq_eq_false_iff_ne]; omega
    go_enter Tryz.func73, Tryz.ntmps73
    go_wp2
    all_goals
      go_ret
      refine ⟨ret_int ?_, rfl⟩
      first
        | rfl
        | exact val_in sv k 32 27 27 (by omega) (by omega) (by omega) (by decide)
        | exact val_in sv k 32 29 29 (by omega) (by omega) (by omega) (by decide)
        | exact val_in sv k 32 35 35 (by omega) (by omega) (by omega) (by decide)
        | exact val_in sv k 0 1 26 (by omega) (by omega) (by omega) (by decide)
        | exact val_in sv k 0 28 28 (by omega) (by omega) (by omega) (by decide)
        | exact val_in sv k 0 30 34 (by omega) (by omega) (by omega) (by decide)
        | exact val_in sv k 0 36 37 (by omega) (by omega) (by omega) (by decide)
        | exact val_in sv k 1 38 45 (by omega) (by omega) (by omega) (by decide)
theorem rhas_R1 (w : World) :
    Calls Tryz.prog 39 #[.int .u8 82, .int .i64 1] w fun e w' => e = .returned (.bool true) ∧ w = w' := by
  go_enter Tryz.func39, Tryz.ntmps39
  go_wp2
  go_ret
  exact ⟨rfl, rfl⟩
theorem rhas_R2 (w : World) :
    Calls Tryz.prog 39 #[.int .u8 82, .int .i64 2] w fun e w' => e = .returned (.bool true) ∧ w = w' := by
  go_enter Tryz.func39, Tryz.ntmps39
  go_wp2
  go_ret
  exact ⟨rfl, rfl⟩
theorem rhas_R3 (w : World) :
    Calls Tryz.prog 39 #[.int .u8 82, .int .i64 3] w fun e w' => e = .returned (.bool true) ∧ w = w' := by
  go_enter Tryz.func39, Tryz.ntmps39
  go_wp2
  go_ret
  exact ⟨rfl, rfl⟩
theorem rhas_I1 (w : World) :
    Calls Tryz.prog 39 #[.int .u8 73, .int .i64 1] w fun e w' => e = .returned (.bool true) ∧ w = w' := by
  go_enter Tryz.func39, Tryz.ntmps39
  go_wp2
  go_ret
  exact ⟨rfl, rfl⟩
theorem rhas_I2 (w : World) :
    Calls Tryz.prog 39 #[.int .u8 73, .int .i64 2] w fun e w' => e = .returned (.bool true) ∧ w = w' := by
  go_enter Tryz.func39, Tryz.ntmps39
  go_wp2
  go_ret
  exact ⟨rfl, rfl⟩
theorem rhas_I3 (w : World) :
    Calls Tryz.prog 39 #[.int .u8 73, .int .i64 3] w fun e w' => e = .returned (.bool false) ∧ w = w' := by
  go_enter Tryz.func39, Tryz.ntmps39
  go_wp2
  go_ret
  exact ⟨rfl, rfl⟩
theorem rhas_H1 (w : World) :
    Calls Tryz.prog 39 #[.int .u8 72, .int .i64 1] w fun e w' => e = .returned (.bool true) ∧ w = w' := by
  go_enter Tryz.func39, Tryz.ntmps39
  go_wp2
  go_ret
  exact ⟨rfl, rfl⟩
theorem rhas_H2 (w : World) :
    Calls Tryz.prog 39 #[.int .u8 72, .int .i64 2] w fun e w' => e = .returned (.bool true) ∧ w = w' := by
  go_enter Tryz.func39, Tryz.ntmps39
  go_wp2
  go_ret
  exact ⟨rfl, rfl⟩
theorem rhas_H3 (w : World) :
    Calls Tryz.prog 39 #[.int .u8 72, .int .i64 3] w fun e w' => e = .returned (.bool false) ∧ w = w' := by
  go_enter Tryz.func39, Tryz.ntmps39
  go_wp2
  go_ret
  exact ⟨rfl, rfl⟩
theorem rhas_U1 (w : World) :
    Calls Tryz.prog 39 #[.int .u8 85, .int .i64 1] w fun e w' => e = .returned (.bool true) ∧ w = w' := by
  go_enter Tryz.func39, Tryz.ntmps39
  go_wp2
  go_ret
  exact ⟨rfl, rfl⟩
theorem rhas_U2 (w : World) :
    Calls Tryz.prog 39 #[.int .u8 85, .int .i64 2] w fun e w' => e = .returned (.bool false) ∧ w = w' := by
  go_enter Tryz.func39, Tryz.ntmps39
  go_wp2
  go_ret
  exact ⟨rfl, rfl⟩
theorem rhas_U3 (w : World) :
    Calls Tryz.prog 39 #[.int .u8 85, .int .i64 3] w fun e w' => e = .returned (.bool false) ∧ w = w' := by
  go_enter Tryz.func39, Tryz.ntmps39
  go_wp2
  go_ret
  exact ⟨rfl, rfl⟩
theorem rhas_J1 (w : World) :
    Calls Tryz.prog 39 #[.int .u8 74, .int .i64 1] w fun e w' => e = .returned (.bool true) ∧ w = w' := by
  go_enter Tryz.func39, Tryz.ntmps39
  go_wp2
  go_ret
  exact ⟨rfl, rfl⟩
theorem rhas_J2 (w : World) :
    Calls Tryz.prog 39 #[.int .u8 74, .int .i64 2] w fun e w' => e = .returned (.bool false) ∧ w = w' := by
  go_enter Tryz.func39, Tryz.ntmps39
  go_wp2
  go_ret
  exact ⟨rfl, rfl⟩
theorem rhas_J3 (w : World) :
    Calls Tryz.prog 39 #[.int .u8 74, .int .i64 3] w fun e w' => e = .returned (.bool false) ∧ w = w' := by
  go_enter Tryz.func39, Tryz.ntmps39
  go_wp2
  go_ret
  exact ⟨rfl, rfl⟩
theorem rhas_S1 (w : World) :
    Calls Tryz.prog 39 #[.int .u8 83, .int .i64 1] w fun e w' => e = .returned (.bool false) ∧ w = w' := by
  go_enter Tryz.func39, Tryz.ntmps39
  go_wp2
  go_ret
  exact ⟨rfl, rfl⟩
theorem rhas_S2 (w : World) :
    Calls Tryz.prog 39 #[.int .u8 83, .int .i64 2] w fun e w' => e = .returned (.bool true) ∧ w = w' := by
  go_enter Tryz.func39, Tryz.ntmps39
  go_wp2
  go_ret
  exact ⟨rfl, rfl⟩
theorem rhas_S3 (w : World) :
    Calls Tryz.prog 39 #[.int .u8 83, .int .i64 3] w fun e w' => e = .returned (.bool true) ∧ w = w' := by
  go_enter Tryz.func39, Tryz.ntmps39
  go_wp2
  go_ret
  exact ⟨rfl, rfl⟩
theorem rhas_B1 (w : World) :
    Calls Tryz.prog 39 #[.int .u8 66, .int .i64 1] w fun e w' => e = .returned (.bool false) ∧ w = w' := by
  go_enter Tryz.func39, Tryz.ntmps39
  go_wp2
  go_ret
  exact ⟨rfl, rfl⟩
theorem rhas_B2 (w : World) :
    Calls Tryz.prog 39 #[.int .u8 66, .int .i64 2] w fun e w' => e = .returned (.bool true) ∧ w = w' := by
  go_enter Tryz.func39, Tryz.ntmps39
  go_wp2
  go_ret
  exact ⟨rfl, rfl⟩
theorem rhas_B3 (w : World) :
    Calls Tryz.prog 39 #[.int .u8 66, .int .i64 3] w fun e w' => e = .returned (.bool true) ∧ w = w' := by
  go_enter Tryz.func39, Tryz.ntmps39
  go_wp2
  go_ret
  exact ⟨rfl, rfl⟩
theorem rreg_c (n : Int) (b : Bool) (w : World) :
    Calls Tryz.prog 69 #[.int .i64 n, .bool b] w fun e w' => e = .returned (.bool (decide (RegP n b))) ∧ w = w' := by
  cases b <;> by_cases h0 : n < 0 <;> by_cases h1 : n = 0 <;> by_cases h2 : n < 32
  all_goals try (exfalso; omega)
  all_goals
    go_enter Tryz.func69, Tryz.ntmps69
    go_wp2
    go_ret
    exact ⟨ret_bool (by unfold RegP; rw [Bool.eq_iff_iff]; simp; try omega), rfl⟩
theorem rroom_R (n : Int) (w : World) :
    Calls Tryz.prog 70 #[.int .u8 82, .int .i64 n] w fun e w' => e = .returned (.bool (decide (ReachP 82 n))) ∧ w = w' := by
  have hp : decide (ReachP 82 n) = decide (n = 0) := decide_eq_decide.2 (by unfold ReachP; simp; try omega)
  have H := Lib.hid hp
  clear hp
  by_cases q0 : n = 0
  all_goals try (exfalso; omega)
  all_goals
    go_enter Tryz.func70, Tryz.ntmps70
    go_wp2
    go_ret
    exact ⟨ret_bool (by rw [H.out]; simp [*]; try omega), rfl⟩
theorem rroom_I (n : Int) (w : World) :
    Calls Tryz.prog 70 #[.int .u8 73, .int .i64 n] w fun e w' => e = .returned (.bool (decide (ReachP 73 n))) ∧ w = w' := by
  have hp : decide (ReachP 73 n) = decide (-2048 ≤ n ∧ n ≤ 2047) := decide_eq_decide.2 (by unfold ReachP; simp; try omega)
  have H := Lib.hid hp
  clear hp
  by_cases q0 : -2048 ≤ n <;> by_cases q1 : n ≤ 2047
  all_goals try (exfalso; omega)
  all_goals
    go_enter Tryz.func70, Tryz.ntmps70
    go_wp2
    go_ret
    exact ⟨ret_bool (by rw [H.out]; simp [*]; try omega), rfl⟩
theorem rroom_H (n : Int) (w : World) :
    Calls Tryz.prog 70 #[.int .u8 72, .int .i64 n] w fun e w' => e = .returned (.bool (decide (ReachP 72 n))) ∧ w = w' := by
  have hp : decide (ReachP 72 n) = decide (0 ≤ n ∧ n ≤ 31) := decide_eq_decide.2 (by unfold ReachP; simp; try omega)
  have H := Lib.hid hp
  clear hp
  by_cases q0 : 0 ≤ n <;> by_cases q1 : n ≤ 31
  all_goals try (exfalso; omega)
  all_goals
    go_enter Tryz.func70, Tryz.ntmps70
    go_wp2
    go_ret
    exact ⟨ret_bool (by rw [H.out]; simp [*]; try omega), rfl⟩
theorem rroom_U (n : Int) (w : World) :
    Calls Tryz.prog 70 #[.int .u8 85, .int .i64 n] w fun e w' => e = .returned (.bool (decide (ReachP 85 n))) ∧ w = w' := by
  have ht : (n.tmod 4096 = 0) ↔ n % 4096 = 0 := by rw [Int.tmod_eq_emod]; split <;> omega
  have hp : decide (ReachP 85 n) = decide (-2147483648 ≤ n ∧ n ≤ 2147479552 ∧ n % 4096 = 0) := decide_eq_decide.2 (by unfold ReachP; simp; try omega)
  have H := Lib.hid hp
  clear hp
  by_cases q0 : -2147483648 ≤ n <;> by_cases q1 : n ≤ 2147479552 <;> by_cases q2 : n % 4096 = 0
  all_goals try (exfalso; omega)
  all_goals
    try have ht' : n.tmod 4096 = 0 := ht.2 (by assumption)
    try have ht'' : ¬ n.tmod 4096 = 0 := fun h => absurd (ht.1 h) (by assumption)
    clear ht
    go_enter Tryz.func70, Tryz.ntmps70
    go_wp2
    go_ret
    exact ⟨ret_bool (by rw [H.out]; simp [*]; try omega), rfl⟩
theorem rroom_J (n : Int) (w : World) :
    Calls Tryz.prog 70 #[.int .u8 74, .int .i64 n] w fun e w' => e = .returned (.bool (decide (ReachP 74 n))) ∧ w = w' := by
  have ht : (n.tmod 2 = 0) ↔ n % 2 = 0 := by rw [Int.tmod_eq_emod]; split <;> omega
  have hp : decide (ReachP 74 n) = decide (-1048576 ≤ n ∧ n ≤ 1048574 ∧ n % 2 = 0) := decide_eq_decide.2 (by unfold ReachP; simp; try omega)
  have H := Lib.hid hp
  clear hp
  by_cases q0 : -1048576 ≤ n <;> by_cases q1 : n ≤ 1048574 <;> by_cases q2 : n % 2 = 0
  all_goals try (exfalso; omega)
  all_goals
    try have ht' : n.tmod 2 = 0 := ht.2 (by assumption)
    try have ht'' : ¬ n.tmod 2 = 0 := fun h => absurd (ht.1 h) (by assumption)
    clear ht
    go_enter Tryz.func70, Tryz.ntmps70
    go_wp2
    go_ret
    exact ⟨ret_bool (by rw [H.out]; simp [*]; try omega), rfl⟩
theorem rroom_S (n : Int) (w : World) :
    Calls Tryz.prog 70 #[.int .u8 83, .int .i64 n] w fun e w' => e = .returned (.bool (decide (ReachP 83 n))) ∧ w = w' := by
  have hp : decide (ReachP 83 n) = decide (-2048 ≤ n ∧ n ≤ 2047) := decide_eq_decide.2 (by unfold ReachP; simp; try omega)
  have H := Lib.hid hp
  clear hp
  by_cases q0 : -2048 ≤ n <;> by_cases q1 : n ≤ 2047
  all_goals try (exfalso; omega)
  all_goals
    go_enter Tryz.func70, Tryz.ntmps70
    go_wp2
    go_ret
    exact ⟨ret_bool (by rw [H.out]; simp [*]; try omega), rfl⟩
theorem rroom_B (n : Int) (w : World) :
    Calls Tryz.prog 70 #[.int .u8 66, .int .i64 n] w fun e w' => e = .returned (.bool (decide (ReachP 66 n))) ∧ w = w' := by
  have ht : (n.tmod 2 = 0) ↔ n % 2 = 0 := by rw [Int.tmod_eq_emod]; split <;> omega
  have hp : decide (ReachP 66 n) = decide (-4096 ≤ n ∧ n ≤ 4094 ∧ n % 2 = 0) := decide_eq_decide.2 (by unfold ReachP; simp; try omega)
  have H := Lib.hid hp
  clear hp
  by_cases q0 : -4096 ≤ n <;> by_cases q1 : n ≤ 4094 <;> by_cases q2 : n % 2 = 0
  all_goals try (exfalso; omega)
  all_goals
    try have ht' : n.tmod 2 = 0 := ht.2 (by assumption)
    try have ht'' : ¬ n.tmod 2 = 0 := fun h => absurd (ht.1 h) (by assumption)
    clear ht
    go_enter Tryz.func70, Tryz.ntmps70
    go_wp2
    go_ret
    exact ⟨ret_bool (by rw [H.out]; simp [*]; try omega), rfl⟩
theorem rtwo_c (n : Int) (w : World) (h : 0 ≤ n) (h' : n ≤ 60) :
    Calls Tryz.prog 68 #[.int .i64 n] w fun e w' => e = .returned (.int .i64 (pw n.toNat)) ∧ w = w' := by
  go_enter Tryz.func68, Tryz.ntmps68
  go_wp2
  go_loop [3, 4] (fun p i => ∃ k : Nat, (k : Int) ≤ n ∧ i = .int .i64 k ∧ p = .int .i64 (pw k)) (fun _ i => n.toNat - (intOf i).toNat)
  case atStart => exact ⟨0, by omega, rfl, rfl⟩
  case round =>
    obtain ⟨k, hk, rfl, rfl⟩ := hrel
    have h31 : pw k ≤ 1152921504606846976 := pw_le k 60 (by omega)
    have h30 := pw_pos k
    by_cases hlt : (k : Int) < n
    · go_wp2
      go_round
      case rel => exact ⟨k + 1, by omega, by go_num, by rw [pw_succ]⟩
      case measure => simp [intOf]; omega
    · go_wp2
      go_ret
      exact ⟨ret_int (by rw [show n.toNat = k by omega]), rfl⟩
theorem move_0_4_7p (n : Int) (w : World) (h : 0 ≤ n) (h' : n < 4294967296) :
    Calls Tryz.prog 40 #[.int .i64 n, .int .i64 0, .int .i64 4, .int .i64 7] w fun e w' => e = .returned (.int .i64 (n % 32 * 128)) ∧ ∃ k, w.drewN k = w' := by
  go_enter Tryz.func40, Tryz.ntmps40
  go_wp2_with fail
  go_quiet ((go_at_call 68; exact Calls.quiet_of_same ((rtwo_c _ _ (by omega) (by omega)).mono fun _ _ h => ⟨h.1, h.2.symm⟩)))
  go_wp2
  go_ret
  exact ⟨ret_int (by first | rfl | omega | simp), _, rfl⟩
theorem move_0_4_7n (n : Int) (w : World) (h : -4294967296 ≤ n) (h' : n < 0) :
    Calls Tryz.prog 40 #[.int .i64 n, .int .i64 0, .int .i64 4, .int .i64 7] w fun e w' => e = .returned (.int .i64 ((n + 4294967296) % 32 * 128)) ∧ ∃ k, w.drewN k = w' := by
  go_enter Tryz.func40, Tryz.ntmps40
  go_wp2_with fail
  go_quiet ((go_at_call 68; exact Calls.quiet_of_same ((rtwo_c _ _ (by omega) (by omega)).mono fun _ _ h => ⟨h.1, h.2.symm⟩)))
  go_wp2
  go_ret
  exact ⟨ret_int (by first | rfl | omega | simp), _, rfl⟩
theorem move_0_4_20p (n : Int) (w : World) (h : 0 ≤ n) (h' : n < 4294967296) :
    Calls Tryz.prog 40 #[.int .i64 n, .int .i64 0, .int .i64 4, .int .i64 20] w fun e w' => e = .returned (.int .i64 (n % 32 * 1048576)) ∧ ∃ k, w.drewN k = w' := by
  go_enter Tryz.func40, Tryz.ntmps40
  go_wp2_with fail
  go_quiet ((go_at_call 68; exact Calls.quiet_of_same ((rtwo_c _ _ (by omega) (by omega)).mono fun _ _ h => ⟨h.1, h.2.symm⟩)))
  go_wp2
  go_ret
  exact ⟨ret_int (by first | rfl | omega | simp), _, rfl⟩
theorem move_0_4_20n (n : Int) (w : World) (h : -4294967296 ≤ n) (h' : n < 0) :
    Calls Tryz.prog 40 #[.int .i64 n, .int .i64 0, .int .i64 4, .int .i64 20] w fun e w' => e = .returned (.int .i64 ((n + 4294967296) % 32 * 1048576)) ∧ ∃ k, w.drewN k = w' := by
  go_enter Tryz.func40, Tryz.ntmps40
  go_wp2_with fail
  go_quiet ((go_at_call 68; exact Calls.quiet_of_same ((rtwo_c _ _ (by omega) (by omega)).mono fun _ _ h => ⟨h.1, h.2.symm⟩)))
  go_wp2
  go_ret
  exact ⟨ret_int (by first | rfl | omega | simp), _, rfl⟩
theorem move_0_11_20p (n : Int) (w : World) (h : 0 ≤ n) (h' : n < 4294967296) :
    Calls Tryz.prog 40 #[.int .i64 n, .int .i64 0, .int .i64 11, .int .i64 20] w fun e w' => e = .returned (.int .i64 (n % 4096 * 1048576)) ∧ ∃ k, w.drewN k = w' := by
  go_enter Tryz.func40, Tryz.ntmps40
  go_wp2_with fail
  go_quiet ((go_at_call 68; exact Calls.quiet_of_same ((rtwo_c _ _ (by omega) (by omega)).mono fun _ _ h => ⟨h.1, h.2.symm⟩)))
  go_wp2
  go_ret
  exact ⟨ret_int (by first | rfl | omega | simp), _, rfl⟩
theorem move_0_11_20n (n : Int) (w : World) (h : -4294967296 ≤ n) (h' : n < 0) :
    Calls Tryz.prog 40 #[.int .i64 n, .int .i64 0, .int .i64 11, .int .i64 20] w fun e w' => e = .returned (.int .i64 ((n + 4294967296) % 4096 * 1048576)) ∧ ∃ k, w.drewN k = w' := by
  go_enter Tryz.func40, Tryz.ntmps40
  go_wp2_with fail
  go_quiet ((go_at_call 68; exact Calls.quiet_of_same ((rtwo_c _ _ (by omega) (by omega)).mono fun _ _ h => ⟨h.1, h.2.symm⟩)))
  go_wp2
  go_ret
  exact ⟨ret_int (by first | rfl | omega | simp), _, rfl⟩
theorem move_1_4_8p (n : Int) (w : World) (h : 0 ≤ n) (h' : n < 4294967296) :
    Calls Tryz.prog 40 #[.int .i64 n, .int .i64 1, .int .i64 4, .int .i64 8] w fun e w' => e = .returned (.int .i64 (n / 2 % 16 * 256)) ∧ ∃ k, w.drewN k = w' := by
  go_enter Tryz.func40, Tryz.ntmps40
  go_wp2_with fail
  go_quiet ((go_at_call 68; exact Calls.quiet_of_same ((rtwo_c _ _ (by omega) (by omega)).mono fun _ _ h => ⟨h.1, h.2.symm⟩)))
  go_wp2
  go_ret
  exact ⟨ret_int (by first | rfl | omega | simp), _, rfl⟩
theorem move_1_4_8n (n : Int) (w : World) (h : -4294967296 ≤ n) (h' : n < 0) :
    Calls Tryz.prog 40 #[.int .i64 n, .int .i64 1, .int .i64 4, .int .i64 8] w fun e w' => e = .returned (.int .i64 ((n + 4294967296) / 2 % 16 * 256)) ∧ ∃ k, w.drewN k = w' := by
  go_enter Tryz.func40, Tryz.ntmps40
  go_wp2_with fail
  go_quiet ((go_at_call 68; exact Calls.quiet_of_same ((rtwo_c _ _ (by omega) (by omega)).mono fun _ _ h => ⟨h.1, h.2.symm⟩)))
  go_wp2
  go_ret
  exact ⟨ret_int (by first | rfl | omega | simp), _, rfl⟩
theorem move_1_10_21p (n : Int) (w : World) (h : 0 ≤ n) (h' : n < 4294967296) :
    Calls Tryz.prog 40 #[.int .i64 n, .int .i64 1, .int .i64 10, .int .i64 21] w fun e w' => e = .returned (.int .i64 (n / 2 % 1024 * 2097152)) ∧ ∃ k, w.drewN k = w' := by
  go_enter Tryz.func40, Tryz.ntmps40
  go_wp2_with fail
  go_quiet ((go_at_call 68; exact Calls.quiet_of_same ((rtwo_c _ _ (by omega) (by omega)).mono fun _ _ h => ⟨h.1, h.2.symm⟩)))
  go_wp2
  go_ret
  exact ⟨ret_int (by first | rfl | omega | simp), _, rfl⟩
theorem move_1_10_21n (n : Int) (w : World) (h : -4294967296 ≤ n) (h' : n < 0) :
    Calls Tryz.prog 40 #[.int .i64 n, .int .i64 1, .int .i64 10, .int .i64 21] w fun e w' => e = .returned (.int .i64 ((n + 4294967296) / 2 % 1024 * 2097152)) ∧ ∃ k, w.drewN k = w' := by
  go_enter Tryz.func40, Tryz.ntmps40
  go_wp2_with fail
  go_quiet ((go_at_call 68; exact Calls.quiet_of_same ((rtwo_c _ _ (by omega) (by omega)).mono fun _ _ h => ⟨h.1, h.2.symm⟩)))
  go_wp2
  go_ret
  exact ⟨ret_int (by first | rfl | omega | simp), _, rfl⟩
theorem move_5_10_25p (n : Int) (w : World) (h : 0 ≤ n) (h' : n < 4294967296) :
    Calls Tryz.prog 40 #[.int .i64 n, .int .i64 5, .int .i64 10, .int .i64 25] w fun e w' => e = .returned (.int .i64 (n / 32 % 64 * 33554432)) ∧ ∃ k, w.drewN k = w' := by
  go_enter Tryz.func40, Tryz.ntmps40
  go_wp2_with fail
  go_quiet ((go_at_call 68; exact Calls.quiet_of_same ((rtwo_c _ _ (by omega) (by omega)).mono fun _ _ h => ⟨h.1, h.2.symm⟩)))
  go_wp2
  go_ret
  exact ⟨ret_int (by first | rfl | omega | simp), _, rfl⟩
theorem move_5_10_25n (n : Int) (w : World) (h : -4294967296 ≤ n) (h' : n < 0) :
    Calls Tryz.prog 40 #[.int .i64 n, .int .i64 5, .int .i64 10, .int .i64 25] w fun e w' => e = .returned (.int .i64 ((n + 4294967296) / 32 % 64 * 33554432)) ∧ ∃ k, w.drewN k = w' := by
  go_enter Tryz.func40, Tryz.ntmps40
  go_wp2_with fail
  go_quiet ((go_at_call 68; exact Calls.quiet_of_same ((rtwo_c _ _ (by omega) (by omega)).mono fun _ _ h => ⟨h.1, h.2.symm⟩)))
  go_wp2
  go_ret
  exact ⟨ret_int (by first | rfl | omega | simp), _, rfl⟩
theorem move_5_11_25p (n : Int) (w : World) (h : 0 ≤ n) (h' : n < 4294967296) :
    Calls Tryz.prog 40 #[.int .i64 n, .int .i64 5, .int .i64 11, .int .i64 25] w fun e w' => e = .returned (.int .i64 (n / 32 % 128 * 33554432)) ∧ ∃ k, w.drewN k = w' := by
  go_enter Tryz.func40, Tryz.ntmps40
  go_wp2_with fail
  go_quiet ((go_at_call 68; exact Calls.quiet_of_same ((rtwo_c _ _ (by omega) (by omega)).mono fun _ _ h => ⟨h.1, h.2.symm⟩)))
  go_wp2
  go_ret
  exact ⟨ret_int (by first | rfl | omega | simp), _, rfl⟩
theorem move_5_11_25n (n : Int) (w : World) (h : -4294967296 ≤ n) (h' : n < 0) :
    Calls Tryz.prog 40 #[.int .i64 n, .int .i64 5, .int .i64 11, .int .i64 25] w fun e w' => e = .returned (.int .i64 ((n + 4294967296) / 32 % 128 * 33554432)) ∧ ∃ k, w.drewN k = w' := by
  go_enter Tryz.func40, Tryz.ntmps40
  go_wp2_with fail
  go_quiet ((go_at_call 68; exact Calls.quiet_of_same ((rtwo_c _ _ (by omega) (by omega)).mono fun _ _ h => ⟨h.1, h.2.symm⟩)))
  go_wp2
  go_ret
  exact ⟨ret_int (by first | rfl | omega | simp), _, rfl⟩
theorem move_7_7_11p (n : Int) (w : World) (h : 0 ≤ n) (h' : n < 4294967296) :
    Calls Tryz.prog 40 #[.int .i64 n, .int .i64 7, .int .i64 7, .int .i64 11] w fun e w' => e = .returned (.int .i64 (n / 128 % 2 * 2048)) ∧ ∃ k, w.drewN k = w' := by
  go_enter Tryz.func40, Tryz.ntmps40
  go_wp2_with fail
  go_quiet ((go_at_call 68; exact Calls.quiet_of_same ((rtwo_c _ _ (by omega) (by omega)).mono fun _ _ h => ⟨h.1, h.2.symm⟩)))
  go_wp2
  go_ret
  exact ⟨ret_int (by first | rfl | omega | simp), _, rfl⟩
theorem move_7_7_11n (n : Int) (w : World) (h : -4294967296 ≤ n) (h' : n < 0) :
    Calls Tryz.prog 40 #[.int .i64 n, .int .i64 7, .int .i64 7, .int .i64 11] w fun e w' => e = .returned (.int .i64 ((n + 4294967296) / 128 % 2 * 2048)) ∧ ∃ k, w.drewN k = w' := by
  go_enter Tryz.func40, Tryz.ntmps40
  go_wp2_with fail
  go_quiet ((go_at_call 68; exact Calls.quiet_of_same ((rtwo_c _ _ (by omega) (by omega)).mono fun _ _ h => ⟨h.1, h.2.symm⟩)))
  go_wp2
  go_ret
  exact ⟨ret_int (by first | rfl | omega | simp), _, rfl⟩
theorem move_7_11_0p (n : Int) (w : World) (h : 0 ≤ n) (h' : n < 4294967296) :
    Calls Tryz.prog 40 #[.int .i64 n, .int .i64 7, .int .i64 11, .int .i64 0] w fun e w' => e = .returned (.int .i64 (n / 128 % 32)) ∧ ∃ k, w.drewN k = w' := by
  go_enter Tryz.func40, Tryz.ntmps40
  go_wp2_with fail
  go_quiet ((go_at_call 68; exact Calls.quiet_of_same ((rtwo_c _ _ (by omega) (by omega)).mono fun _ _ h => ⟨h.1, h.2.symm⟩)))
  go_wp2
  go_ret
  exact ⟨ret_int (by first | rfl | omega | simp), _, rfl⟩
theorem move_7_11_0n (n : Int) (w : World) (h : -4294967296 ≤ n) (h' : n < 0) :
    Calls Tryz.prog 40 #[.int .i64 n, .int .i64 7, .int .i64 11, .int .i64 0] w fun e w' => e = .returned (.int .i64 ((n + 4294967296) / 128 % 32)) ∧ ∃ k, w.drewN k = w' := by
  go_enter Tryz.func40, Tryz.ntmps40
  go_wp2_with fail
  go_quiet ((go_at_call 68; exact Calls.quiet_of_same ((rtwo_c _ _ (by omega) (by omega)).mono fun _ _ h => ⟨h.1, h.2.symm⟩)))
  go_wp2
  go_ret
  exact ⟨ret_int (by first | rfl | omega | simp), _, rfl⟩
theorem move_8_11_1p (n : Int) (w : World) (h : 0 ≤ n) (h' : n < 4294967296) :
    Calls Tryz.prog 40 #[.int .i64 n, .int .i64 8, .int .i64 11, .int .i64 1] w fun e w' => e = .returned (.int .i64 (n / 256 % 16 * 2)) ∧ ∃ k, w.drewN k = w' := by
  go_enter Tryz.func40, Tryz.ntmps40
  go_wp2_with fail
  go_quiet ((go_at_call 68; exact Calls.quiet_of_same ((rtwo_c _ _ (by omega) (by omega)).mono fun _ _ h => ⟨h.1, h.2.symm⟩)))
  go_wp2
  go_ret
  exact ⟨ret_int (by first | rfl | omega | simp), _, rfl⟩
theorem move_8_11_1n (n : Int) (w : World) (h : -4294967296 ≤ n) (h' : n < 0) :
    Calls Tryz.prog 40 #[.int .i64 n, .int .i64 8, .int .i64 11, .int .i64 1] w fun e w' => e = .returned (.int .i64 ((n + 4294967296) / 256 % 16 * 2)) ∧ ∃ k, w.drewN k = w' := by
  go_enter Tryz.func40, Tryz.ntmps40
  go_wp2_with fail
  go_quiet ((go_at_call 68; exact Calls.quiet_of_same ((rtwo_c _ _ (by omega) (by omega)).mono fun _ _ h => ⟨h.1, h.2.symm⟩)))
  go_wp2
  go_ret
  exact ⟨ret_int (by first | rfl | omega | simp), _, rfl⟩
theorem move_11_11_7p (n : Int) (w : World) (h : 0 ≤ n) (h' : n < 4294967296) :
    Calls Tryz.prog 40 #[.int .i64 n, .int .i64 11, .int .i64 11, .int .i64 7] w fun e w' => e = .returned (.int .i64 (n / 2048 % 2 * 128)) ∧ ∃ k, w.drewN k = w' := by
  go_enter Tryz.func40, Tryz.ntmps40
  go_wp2_with fail
  go_quiet ((go_at_call 68; exact Calls.quiet_of_same ((rtwo_c _ _ (by omega) (by omega)).mono fun _ _ h => ⟨h.1, h.2.symm⟩)))
  go_wp2
  go_ret
  exact ⟨ret_int (by first | rfl | omega | simp), _, rfl⟩
theorem move_11_11_7n (n : Int) (w : World) (h : -4294967296 ≤ n) (h' : n < 0) :
    Calls Tryz.prog 40 #[.int .i64 n, .int .i64 11, .int .i64 11, .int .i64 7] w fun e w' => e = .returned (.int .i64 ((n + 4294967296) / 2048 % 2 * 128)) ∧ ∃ k, w.drewN k = w' := by
  go_enter Tryz.func40, Tryz.ntmps40
  go_wp2_with fail
  go_quiet ((go_at_call 68; exact Calls.quiet_of_same ((rtwo_c _ _ (by omega) (by omega)).mono fun _ _ h => ⟨h.1, h.2.symm⟩)))
  go_wp2
  go_ret
  exact ⟨ret_int (by first | rfl | omega | simp), _, rfl⟩
theorem move_11_11_20p (n : Int) (w : World) (h : 0 ≤ n) (h' : n < 4294967296) :
    Calls Tryz.prog 40 #[.int .i64 n, .int .i64 11, .int .i64 11, .int .i64 20] w fun e w' => e = .returned (.int .i64 (n / 2048 % 2 * 1048576)) ∧ ∃ k, w.drewN k = w' := by
  go_enter Tryz.func40, Tryz.ntmps40
  go_wp2_with fail
  go_quiet ((go_at_call 68; exact Calls.quiet_of_same ((rtwo_c _ _ (by omega) (by omega)).mono fun _ _ h => ⟨h.1, h.2.symm⟩)))
  go_wp2
  go_ret
  exact ⟨ret_int (by first | rfl | omega | simp), _, rfl⟩
theorem move_11_11_20n (n : Int) (w : World) (h : -4294967296 ≤ n) (h' : n < 0) :
    Calls Tryz.prog 40 #[.int .i64 n, .int .i64 11, .int .i64 11, .int .i64 20] w fun e w' => e = .returned (.int .i64 ((n + 4294967296) / 2048 % 2 * 1048576)) ∧ ∃ k, w.drewN k = w' := by
  go_enter Tryz.func40, Tryz.ntmps40
  go_wp2_with fail
  go_quiet ((go_at_call 68; exact Calls.quiet_of_same ((rtwo_c _ _ (by omega) (by omega)).mono fun _ _ h => ⟨h.1, h.2.symm⟩)))
  go_wp2
  go_ret
  exact ⟨ret_int (by first | rfl | omega | simp), _, rfl⟩
theorem move_12_12_31p (n : Int) (w : World) (h : 0 ≤ n) (h' : n < 4294967296) :
    Calls Tryz.prog 40 #[.int .i64 n, .int .i64 12, .int .i64 12, .int .i64 31] w fun e w' => e = .returned (.int .i64 (n / 4096 % 2 * 2147483648)) ∧ ∃ k, w.drewN k = w' := by
  go_enter Tryz.func40, Tryz.ntmps40
  go_wp2_with fail
  go_quiet ((go_at_call 68; exact Calls.quiet_of_same ((rtwo_c _ _ (by omega) (by omega)).mono fun _ _ h => ⟨h.1, h.2.symm⟩)))
  go_wp2
  go_ret
  exact ⟨ret_int (by first | rfl | omega | simp), _, rfl⟩
theorem move_12_12_31n (n : Int) (w : World) (h : -4294967296 ≤ n) (h' : n < 0) :
    Calls Tryz.prog 40 #[.int .i64 n, .int .i64 12, .int .i64 12, .int .i64 31] w fun e w' => e = .returned (.int .i64 ((n + 4294967296) / 4096 % 2 * 2147483648)) ∧ ∃ k, w.drewN k = w' := by
  go_enter Tryz.func40, Tryz.ntmps40
  go_wp2_with fail
  go_quiet ((go_at_call 68; exact Calls.quiet_of_same ((rtwo_c _ _ (by omega) (by omega)).mono fun _ _ h => ⟨h.1, h.2.symm⟩)))
  go_wp2
  go_ret
  exact ⟨ret_int (by first | rfl | omega | simp), _, rfl⟩
theorem move_12_19_12p (n : Int) (w : World) (h : 0 ≤ n) (h' : n < 4294967296) :
    Calls Tryz.prog 40 #[.int .i64 n, .int .i64 12, .int .i64 19, .int .i64 12] w fun e w' => e = .returned (.int .i64 (n / 4096 % 256 * 4096)) ∧ ∃ k, w.drewN k = w' := by
  go_enter Tryz.func40, Tryz.ntmps40
  go_wp2_with fail
  go_quiet ((go_at_call 68; exact Calls.quiet_of_same ((rtwo_c _ _ (by omega) (by omega)).mono fun _ _ h => ⟨h.1, h.2.symm⟩)))
  go_wp2
  go_ret
  exact ⟨ret_int (by first | rfl | omega | simp), _, rfl⟩
theorem move_12_19_12n (n : Int) (w : World) (h : -4294967296 ≤ n) (h' : n < 0) :
    Calls Tryz.prog 40 #[.int .i64 n, .int .i64 12, .int .i64 19, .int .i64 12] w fun e w' => e = .returned (.int .i64 ((n + 4294967296) / 4096 % 256 * 4096)) ∧ ∃ k, w.drewN k = w' := by
  go_enter Tryz.func40, Tryz.ntmps40
  go_wp2_with fail
  go_quiet ((go_at_call 68; exact Calls.quiet_of_same ((rtwo_c _ _ (by omega) (by omega)).mono fun _ _ h => ⟨h.1, h.2.symm⟩)))
  go_wp2
  go_ret
  exact ⟨ret_int (by first | rfl | omega | simp), _, rfl⟩
theorem move_12_31_12p (n : Int) (w : World) (h : 0 ≤ n) (h' : n < 4294967296) :
    Calls Tryz.prog 40 #[.int .i64 n, .int .i64 12, .int .i64 31, .int .i64 12] w fun e w' => e = .returned (.int .i64 (n / 4096 % 1048576 * 4096)) ∧ ∃ k, w.drewN k = w' := by
  go_enter Tryz.func40, Tryz.ntmps40
  go_wp2_with fail
  go_quiet ((go_at_call 68; exact Calls.quiet_of_same ((rtwo_c _ _ (by omega) (by omega)).mono fun _ _ h => ⟨h.1, h.2.symm⟩)))
  go_wp2
  go_ret
  exact ⟨ret_int (by first | rfl | omega | simp), _, rfl⟩
theorem move_12_31_12n (n : Int) (w : World) (h : -4294967296 ≤ n) (h' : n < 0) :
    Calls Tryz.prog 40 #[.int .i64 n, .int .i64 12, .int .i64 31, .int .i64 12] w fun e w' => e = .returned (.int .i64 ((n + 4294967296) / 4096 % 1048576 * 4096)) ∧ ∃ k, w.drewN k = w' := by
  go_enter Tryz.func40, Tryz.ntmps40
  go_wp2_with fail
  go_quiet ((go_at_call 68; exact Calls.quiet_of_same ((rtwo_c _ _ (by omega) (by omega)).mono fun _ _ h => ⟨h.1, h.2.symm⟩)))
  go_wp2
  go_ret
  exact ⟨ret_int (by first | rfl | omega | simp), _, rfl⟩
theorem move_15_19_0p (n : Int) (w : World) (h : 0 ≤ n) (h' : n < 4294967296) :
    Calls Tryz.prog 40 #[.int .i64 n, .int .i64 15, .int .i64 19, .int .i64 0] w fun e w' => e = .returned (.int .i64 (n / 32768 % 32)) ∧ ∃ k, w.drewN k = w' := by
  go_enter Tryz.func40, Tryz.ntmps40
  go_wp2_with fail
  go_quiet ((go_at_call 68; exact Calls.quiet_of_same ((rtwo_c _ _ (by omega) (by omega)).mono fun _ _ h => ⟨h.1, h.2.symm⟩)))
  go_wp2
  go_ret
  exact ⟨ret_int (by first | rfl | omega | simp), _, rfl⟩
theorem move_15_19_0n (n : Int) (w : World) (h : -4294967296 ≤ n) (h' : n < 0) :
    Calls Tryz.prog 40 #[.int .i64 n, .int .i64 15, .int .i64 19, .int .i64 0] w fun e w' => e = .returned (.int .i64 ((n + 4294967296) / 32768 % 32)) ∧ ∃ k, w.drewN k = w' := by
  go_enter Tryz.func40, Tryz.ntmps40
  go_wp2_with fail
  go_quiet ((go_at_call 68; exact Calls.quiet_of_same ((rtwo_c _ _ (by omega) (by omega)).mono fun _ _ h => ⟨h.1, h.2.symm⟩)))
  go_wp2
  go_ret
  exact ⟨ret_int (by first | rfl | omega | simp), _, rfl⟩
theorem move_20_20_11p (n : Int) (w : World) (h : 0 ≤ n) (h' : n < 4294967296) :
    Calls Tryz.prog 40 #[.int .i64 n, .int .i64 20, .int .i64 20, .int .i64 11] w fun e w' => e = .returned (.int .i64 (n / 1048576 % 2 * 2048)) ∧ ∃ k, w.drewN k = w' := by
  go_enter Tryz.func40, Tryz.ntmps40
  go_wp2_with fail
  go_quiet ((go_at_call 68; exact Calls.quiet_of_same ((rtwo_c _ _ (by omega) (by omega)).mono fun _ _ h => ⟨h.1, h.2.symm⟩)))
  go_wp2
  go_ret
  exact ⟨ret_int (by first | rfl | omega | simp), _, rfl⟩
theorem move_20_20_11n (n : Int) (w : World) (h : -4294967296 ≤ n) (h' : n < 0) :
    Calls Tryz.prog 40 #[.int .i64 n, .int .i64 20, .int .i64 20, .int .i64 11] w fun e w' => e = .returned (.int .i64 ((n + 4294967296) / 1048576 % 2 * 2048)) ∧ ∃ k, w.drewN k = w' := by
  go_enter Tryz.func40, Tryz.ntmps40
  go_wp2_with fail
  go_quiet ((go_at_call 68; exact Calls.quiet_of_same ((rtwo_c _ _ (by omega) (by omega)).mono fun _ _ h => ⟨h.1, h.2.symm⟩)))
  go_wp2
  go_ret
  exact ⟨ret_int (by first | rfl | omega | simp), _, rfl⟩
theorem move_20_20_31p (n : Int) (w : World) (h : 0 ≤ n) (h' : n < 4294967296) :
    Calls Tryz.prog 40 #[.int .i64 n, .int .i64 20, .int .i64 20, .int .i64 31] w fun e w' => e = .returned (.int .i64 (n / 1048576 % 2 * 2147483648)) ∧ ∃ k, w.drewN k = w' := by
  go_enter Tryz.func40, Tryz.ntmps40
  go_wp2_with fail
  go_quiet ((go_at_call 68; exact Calls.quiet_of_same ((rtwo_c _ _ (by omega) (by omega)).mono fun _ _ h => ⟨h.1, h.2.symm⟩)))
  go_wp2
  go_ret
  exact ⟨ret_int (by first | rfl | omega | simp), _, rfl⟩
theorem move_20_20_31n (n : Int) (w : World) (h : -4294967296 ≤ n) (h' : n < 0) :
    Calls Tryz.prog 40 #[.int .i64 n, .int .i64 20, .int .i64 20, .int .i64 31] w fun e w' => e = .returned (.int .i64 ((n + 4294967296) / 1048576 % 2 * 2147483648)) ∧ ∃ k, w.drewN k = w' := by
  go_enter Tryz.func40, Tryz.ntmps40
  go_wp2_with fail
  go_quiet ((go_at_call 68; exact Calls.quiet_of_same ((rtwo_c _ _ (by omega) (by omega)).mono fun _ _ h => ⟨h.1, h.2.symm⟩)))
  go_wp2
  go_ret
  exact ⟨ret_int (by first | rfl | omega | simp), _, rfl⟩
theorem move_20_24_0p (n : Int) (w : World) (h : 0 ≤ n) (h' : n < 4294967296) :
    Calls Tryz.prog 40 #[.int .i64 n, .int .i64 20, .int .i64 24, .int .i64 0] w fun e w' => e = .returned (.int .i64 (n / 1048576 % 32)) ∧ ∃ k, w.drewN k = w' := by
  go_enter Tryz.func40, Tryz.ntmps40
  go_wp2_with fail
  go_quiet ((go_at_call 68; exact Calls.quiet_of_same ((rtwo_c _ _ (by omega) (by omega)).mono fun _ _ h => ⟨h.1, h.2.symm⟩)))
  go_wp2
  go_ret
  exact ⟨ret_int (by first | rfl | omega | simp), _, rfl⟩
theorem move_20_24_0n (n : Int) (w : World) (h : -4294967296 ≤ n) (h' : n < 0) :
    Calls Tryz.prog 40 #[.int .i64 n, .int .i64 20, .int .i64 24, .int .i64 0] w fun e w' => e = .returned (.int .i64 ((n + 4294967296) / 1048576 % 32)) ∧ ∃ k, w.drewN k = w' := by
  go_enter Tryz.func40, Tryz.ntmps40
  go_wp2_with fail
  go_quiet ((go_at_call 68; exact Calls.quiet_of_same ((rtwo_c _ _ (by omega) (by omega)).mono fun _ _ h => ⟨h.1, h.2.symm⟩)))
  go_wp2
  go_ret
  exact ⟨ret_int (by first | rfl | omega | simp), _, rfl⟩
theorem move_20_31_0p (n : Int) (w : World) (h : 0 ≤ n) (h' : n < 4294967296) :
    Calls Tryz.prog 40 #[.int .i64 n, .int .i64 20, .int .i64 31, .int .i64 0] w fun e w' => e = .returned (.int .i64 (n / 1048576 % 4096)) ∧ ∃ k, w.drewN k = w' := by
  go_enter Tryz.func40, Tryz.ntmps40
  go_wp2_with fail
  go_quiet ((go_at_call 68; exact Calls.quiet_of_same ((rtwo_c _ _ (by omega) (by omega)).mono fun _ _ h => ⟨h.1, h.2.symm⟩)))
  go_wp2
  go_ret
  exact ⟨ret_int (by first | rfl | omega | simp), _, rfl⟩
theorem move_20_31_0n (n : Int) (w : World) (h : -4294967296 ≤ n) (h' : n < 0) :
    Calls Tryz.prog 40 #[.int .i64 n, .int .i64 20, .int .i64 31, .int .i64 0] w fun e w' => e = .returned (.int .i64 ((n + 4294967296) / 1048576 % 4096)) ∧ ∃ k, w.drewN k = w' := by
  go_enter Tryz.func40, Tryz.ntmps40
  go_wp2_with fail
  go_quiet ((go_at_call 68; exact Calls.quiet_of_same ((rtwo_c _ _ (by omega) (by omega)).mono fun _ _ h => ⟨h.1, h.2.symm⟩)))
  go_wp2
  go_ret
  exact ⟨ret_int (by first | rfl | omega | simp), _, rfl⟩
theorem move_21_30_1p (n : Int) (w : World) (h : 0 ≤ n) (h' : n < 4294967296) :
    Calls Tryz.prog 40 #[.int .i64 n, .int .i64 21, .int .i64 30, .int .i64 1] w fun e w' => e = .returned (.int .i64 (n / 2097152 % 1024 * 2)) ∧ ∃ k, w.drewN k = w' := by
  go_enter Tryz.func40, Tryz.ntmps40
  go_wp2_with fail
  go_quiet ((go_at_call 68; exact Calls.quiet_of_same ((rtwo_c _ _ (by omega) (by omega)).mono fun _ _ h => ⟨h.1, h.2.symm⟩)))
  go_wp2
  go_ret
  exact ⟨ret_int (by first | rfl | omega | simp), _, rfl⟩
theorem move_21_30_1n (n : Int) (w : World) (h : -4294967296 ≤ n) (h' : n < 0) :
    Calls Tryz.prog 40 #[.int .i64 n, .int .i64 21, .int .i64 30, .int .i64 1] w fun e w' => e = .returned (.int .i64 ((n + 4294967296) / 2097152 % 1024 * 2)) ∧ ∃ k, w.drewN k = w' := by
  go_enter Tryz.func40, Tryz.ntmps40
  go_wp2_with fail
  go_quiet ((go_at_call 68; exact Calls.quiet_of_same ((rtwo_c _ _ (by omega) (by omega)).mono fun _ _ h => ⟨h.1, h.2.symm⟩)))
  go_wp2
  go_ret
  exact ⟨ret_int (by first | rfl | omega | simp), _, rfl⟩
theorem move_25_30_5p (n : Int) (w : World) (h : 0 ≤ n) (h' : n < 4294967296) :
    Calls Tryz.prog 40 #[.int .i64 n, .int .i64 25, .int .i64 30, .int .i64 5] w fun e w' => e = .returned (.int .i64 (n / 33554432 % 64 * 32)) ∧ ∃ k, w.drewN k = w' := by
  go_enter Tryz.func40, Tryz.ntmps40
  go_wp2_with fail
  go_quiet ((go_at_call 68; exact Calls.quiet_of_same ((rtwo_c _ _ (by omega) (by omega)).mono fun _ _ h => ⟨h.1, h.2.symm⟩)))
  go_wp2
  go_ret
  exact ⟨ret_int (by first | rfl | omega | simp), _, rfl⟩
theorem move_25_30_5n (n : Int) (w : World) (h : -4294967296 ≤ n) (h' : n < 0) :
    Calls Tryz.prog 40 #[.int .i64 n, .int .i64 25, .int .i64 30, .int .i64 5] w fun e w' => e = .returned (.int .i64 ((n + 4294967296) / 33554432 % 64 * 32)) ∧ ∃ k, w.drewN k = w' := by
  go_enter Tryz.func40, Tryz.ntmps40
  go_wp2_with fail
  go_quiet ((go_at_call 68; exact Calls.quiet_of_same ((rtwo_c _ _ (by omega) (by omega)).mono fun _ _ h => ⟨h.1, h.2.symm⟩)))
  go_wp2
  go_ret
  exact ⟨ret_int (by first | rfl | omega | simp), _, rfl⟩
theorem move_25_31_5p (n : Int) (w : World) (h : 0 ≤ n) (h' : n < 4294967296) :
    Calls Tryz.prog 40 #[.int .i64 n, .int .i64 25, .int .i64 31, .int .i64 5] w fun e w' => e = .returned (.int .i64 (n / 33554432 % 128 * 32)) ∧ ∃ k, w.drewN k = w' := by
  go_enter Tryz.func40, Tryz.ntmps40
  go_wp2_with fail
  go_quiet ((go_at_call 68; exact Calls.quiet_of_same ((rtwo_c _ _ (by omega) (by omega)).mono fun _ _ h => ⟨h.1, h.2.symm⟩)))
  go_wp2
  go_ret
  exact ⟨ret_int (by first | rfl | omega | simp), _, rfl⟩
theorem move_25_31_5n (n : Int) (w : World) (h : -4294967296 ≤ n) (h' : n < 0) :
    Calls Tryz.prog 40 #[.int .i64 n, .int .i64 25, .int .i64 31, .int .i64 5] w fun e w' => e = .returned (.int .i64 ((n + 4294967296) / 33554432 % 128 * 32)) ∧ ∃ k, w.drewN k = w' := by
  go_enter Tryz.func40, Tryz.ntmps40
  go_wp2_with fail
  go_quiet ((go_at_call 68; exact Calls.quiet_of_same ((rtwo_c _ _ (by omega) (by omega)).mono fun _ _ h => ⟨h.1, h.2.symm⟩)))
  go_wp2
  go_ret
  exact ⟨ret_int (by first | rfl | omega | simp), _, rfl⟩
theorem move_31_31_12p (n : Int) (w : World) (h : 0 ≤ n) (h' : n < 4294967296) :
    Calls Tryz.prog 40 #[.int .i64 n, .int .i64 31, .int .i64 31, .int .i64 12] w fun e w' => e = .returned (.int .i64 (n / 2147483648 % 2 * 4096)) ∧ ∃ k, w.drewN k = w' := by
  go_enter Tryz.func40, Tryz.ntmps40
  go_wp2_with fail
  go_quiet ((go_at_call 68; exact Calls.quiet_of_same ((rtwo_c _ _ (by omega) (by omega)).mono fun _ _ h => ⟨h.1, h.2.symm⟩)))
  go_wp2
  go_ret
  exact ⟨ret_int (by first | rfl | omega | simp), _, rfl⟩
theorem move_31_31_12n (n : Int) (w : World) (h : -4294967296 ≤ n) (h' : n < 0) :
    Calls Tryz.prog 40 #[.int .i64 n, .int .i64 31, .int .i64 31, .int .i64 12] w fun e w' => e = .returned (.int .i64 ((n + 4294967296) / 2147483648 % 2 * 4096)) ∧ ∃ k, w.drewN k = w' := by
  go_enter Tryz.func40, Tryz.ntmps40
  go_wp2_with fail
  go_quiet ((go_at_call 68; exact Calls.quiet_of_same ((rtwo_c _ _ (by omega) (by omega)).mono fun _ _ h => ⟨h.1, h.2.symm⟩)))
  go_wp2
  go_ret
  exact ⟨ret_int (by first | rfl | omega | simp), _, rfl⟩
theorem move_31_31_20p (n : Int) (w : World) (h : 0 ≤ n) (h' : n < 4294967296) :
    Calls Tryz.prog 40 #[.int .i64 n, .int .i64 31, .int .i64 31, .int .i64 20] w fun e w' => e = .returned (.int .i64 (n / 2147483648 % 2 * 1048576)) ∧ ∃ k, w.drewN k = w' := by
  go_enter Tryz.func40, Tryz.ntmps40
  go_wp2_with fail
  go_quiet ((go_at_call 68; exact Calls.quiet_of_same ((rtwo_c _ _ (by omega) (by omega)).mono fun _ _ h => ⟨h.1, h.2.symm⟩)))
  go_wp2
  go_ret
  exact ⟨ret_int (by first | rfl | omega | simp), _, rfl⟩
theorem move_31_31_20n (n : Int) (w : World) (h : -4294967296 ≤ n) (h' : n < 0) :
    Calls Tryz.prog 40 #[.int .i64 n, .int .i64 31, .int .i64 31, .int .i64 20] w fun e w' => e = .returned (.int .i64 ((n + 4294967296) / 2147483648 % 2 * 1048576)) ∧ ∃ k, w.drewN k = w' := by
  go_enter Tryz.func40, Tryz.ntmps40
  go_wp2_with fail
  go_quiet ((go_at_call 68; exact Calls.quiet_of_same ((rtwo_c _ _ (by omega) (by omega)).mono fun _ _ h => ⟨h.1, h.2.symm⟩)))
  go_wp2
  go_ret
  exact ⟨ret_int (by first | rfl | omega | simp), _, rfl⟩
theorem rspread_R (n : Int) (w : World) (h : -2147483648 ≤ n) (h' : n < 2147483648) :
    Calls Tryz.prog 74 #[.int .u8 82, .int .i64 n] w fun e w' => e = .returned (.int .i64 (spreadF 82 (n % 4294967296))) ∧ ∃ k, w.drewN k = w' := by
  by_cases hn : 0 ≤ n
  · have hm : n % 4294967296 = n := by omega
    have hm := Lib.hid hm
    go_enter Tryz.func74, Tryz.ntmps74
    go_wp2
    go_ret
    exact ⟨ret_int (by (try rw [hm.out]); unfold spreadF; simp; try omega), 0, rfl⟩
  · have hm : n % 4294967296 = n + 4294967296 := by omega
    have hm := Lib.hid hm
    go_enter Tryz.func74, Tryz.ntmps74
    go_wp2
    go_ret
    exact ⟨ret_int (by (try rw [hm.out]); unfold spreadF; simp; try omega), 0, rfl⟩
theorem rspread_I (n : Int) (w : World) (h : -2147483648 ≤ n) (h' : n < 2147483648) :
    Calls Tryz.prog 74 #[.int .u8 73, .int .i64 n] w fun e w' => e = .returned (.int .i64 (spreadF 73 (n % 4294967296))) ∧ ∃ k, w.drewN k = w' := by
  by_cases hn : 0 ≤ n
  · have hm : n % 4294967296 = n := by omega
    have hm := Lib.hid hm
    go_enter Tryz.func74, Tryz.ntmps74
    go_wp2_with (first | ((go_at_call 40; (with_reducible refine (move_0_11_20p _ _ (by omega) (by omega)).mono ?_); rintro e w' ⟨rfl, _, rfl⟩)))
    go_ret
    exact ⟨ret_int (by (try rw [hm.out]); unfold spreadF; simp; try omega), _, rfl⟩
  · have hm : n % 4294967296 = n + 4294967296 := by omega
    have hm := Lib.hid hm
    go_enter Tryz.func74, Tryz.ntmps74
    go_wp2_with (first | ((go_at_call 40; (with_reducible refine (move_0_11_20n _ _ (by omega) (by omega)).mono ?_); rintro e w' ⟨rfl, _, rfl⟩)))
    go_ret
    exact ⟨ret_int (by (try rw [hm.out]); unfold spreadF; simp; try omega), _, rfl⟩
theorem rspread_H (n : Int) (w : World) (h : -2147483648 ≤ n) (h' : n < 2147483648) (hh : 0 ≤ n) (hh' : n < 32) :
    Calls Tryz.prog 74 #[.int .u8 72, .int .i64 n] w fun e w' => e = .returned (.int .i64 (spreadF 72 (n % 4294967296))) ∧ ∃ k, w.drewN k = w' := by
  by_cases hn : 0 ≤ n
  · have hm : n % 4294967296 = n := by omega
    have hm := Lib.hid hm
    go_enter Tryz.func74, Tryz.ntmps74
    go_wp2_with (first | ((go_at_call 40; (with_reducible refine (move_0_4_20p _ _ (by omega) (by omega)).mono ?_); rintro e w' ⟨rfl, _, rfl⟩)))
    go_ret
    exact ⟨ret_int (by (try rw [hm.out]); unfold spreadF; simp; try omega), _, rfl⟩
  · have hm : n % 4294967296 = n + 4294967296 := by omega
    have hm := Lib.hid hm
    go_enter Tryz.func74, Tryz.ntmps74
    go_wp2_with (first | ((go_at_call 40; (with_reducible refine (move_0_4_20n _ _ (by omega) (by omega)).mono ?_); rintro e w' ⟨rfl, _, rfl⟩)))
    go_ret
    exact ⟨ret_int (by (try rw [hm.out]); unfold spreadF; simp; try omega), _, rfl⟩
theorem rspread_U (n : Int) (w : World) (h : -2147483648 ≤ n) (h' : n < 2147483648) :
    Calls Tryz.prog 74 #[.int .u8 85, .int .i64 n] w fun e w' => e = .returned (.int .i64 (spreadF 85 (n % 4294967296))) ∧ ∃ k, w.drewN k = w' := by
  by_cases hn : 0 ≤ n
  · have hm : n % 4294967296 = n := by omega
    have hm := Lib.hid hm
    go_enter Tryz.func74, Tryz.ntmps74
    go_wp2_with (first | ((go_at_call 40; (with_reducible refine (move_12_31_12p _ _ (by omega) (by omega)).mono ?_); rintro e w' ⟨rfl, _, rfl⟩)))
    go_ret
    exact ⟨ret_int (by (try rw [hm.out]); unfold spreadF; simp; try omega), _, rfl⟩
  · have hm : n % 4294967296 = n + 4294967296 := by omega
    have hm := Lib.hid hm
    go_enter Tryz.func74, Tryz.ntmps74
    go_wp2_with (first | ((go_at_call 40; (with_reducible refine (move_12_31_12n _ _ (by omega) (by omega)).mono ?_); rintro e w' ⟨rfl, _, rfl⟩)))
    go_ret
    exact ⟨ret_int (by (try rw [hm.out]); unfold spreadF; simp; try omega), _, rfl⟩
theorem rspread_J (n : Int) (w : World) (h : -2147483648 ≤ n) (h' : n < 2147483648) :
    Calls Tryz.prog 74 #[.int .u8 74, .int .i64 n] w fun e w' => e = .returned (.int .i64 (spreadF 74 (n % 4294967296))) ∧ ∃ k, w.drewN k = w' := by
  by_cases hn : 0 ≤ n
  · have hm : n % 4294967296 = n := by omega
    have hm := Lib.hid hm
    go_enter Tryz.func74, Tryz.ntmps74
    go_wp2_with (first | ((go_at_call 40; (with_reducible refine (move_20_20_31p _ _ (by omega) (by omega)).mono ?_); rintro e w' ⟨rfl, _, rfl⟩)) | ((go_at_call 40; (with_reducible refine (move_1_10_21p _ _ (by omega) (by omega)).mono ?_); rintro e w' ⟨rfl, _, rfl⟩)) | ((go_at_call 40; (with_reducible refine (move_11_11_20p _ _ (by omega) (by omega)).mono ?_); rintro e w' ⟨rfl, _, rfl⟩)) | ((go_at_call 40; (with_reducible refine (move_12_19_12p _ _ (by omega) (by omega)).mono ?_); rintro e w' ⟨rfl, _, rfl⟩)))
    go_ret
    exact ⟨ret_int (by (try rw [hm.out]); unfold spreadF; simp; try omega), _, rfl⟩
  · have hm : n % 4294967296 = n + 4294967296 := by omega
    have hm := Lib.hid hm
    go_enter Tryz.func74, Tryz.ntmps74
    go_wp2_with (first | ((go_at_call 40; (with_reducible refine (move_20_20_31n _ _ (by omega) (by omega)).mono ?_); rintro e w' ⟨rfl, _, rfl⟩)) | ((go_at_call 40; (with_reducible refine (move_1_10_21n _ _ (by omega) (by omega)).mono ?_); rintro e w' ⟨rfl, _, rfl⟩)) | ((go_at_call 40; (with_reducible refine (move_11_11_20n _ _ (by omega) (by omega)).mono ?_); rintro e w' ⟨rfl, _, rfl⟩)) | ((go_at_call 40; (with_reducible refine (move_12_19_12n _ _ (by omega) (by omega)).mono ?_); rintro e w' ⟨rfl, _, rfl⟩)))
    go_ret
    exact ⟨ret_int (by (try rw [hm.out]); unfold spreadF; simp; try omega), _, rfl⟩
theorem rspread_S (n : Int) (w : World) (h : -2147483648 ≤ n) (h' : n < 2147483648) :
    Calls Tryz.prog 74 #[.int .u8 83, .int .i64 n] w fun e w' => e = .returned (.int .i64 (spreadF 83 (n % 4294967296))) ∧ ∃ k, w.drewN k = w' := by
  by_cases hn : 0 ≤ n
  · have hm : n % 4294967296 = n := by omega
    have hm := Lib.hid hm
    go_enter Tryz.func74, Tryz.ntmps74
    go_wp2_with (first | ((go_at_call 40; (with_reducible refine (move_0_4_7p _ _ (by omega) (by omega)).mono ?_); rintro e w' ⟨rfl, _, rfl⟩)) | ((go_at_call 40; (with_reducible refine (move_5_11_25p _ _ (by omega) (by omega)).mono ?_); rintro e w' ⟨rfl, _, rfl⟩)))
    go_ret
    exact ⟨ret_int (by (try rw [hm.out]); unfold spreadF; simp; try omega), _, rfl⟩
  · have hm : n % 4294967296 = n + 4294967296 := by omega
    have hm := Lib.hid hm
    go_enter Tryz.func74, Tryz.ntmps74
    go_wp2_with (first | ((go_at_call 40; (with_reducible refine (move_0_4_7n _ _ (by omega) (by omega)).mono ?_); rintro e w' ⟨rfl, _, rfl⟩)) | ((go_at_call 40; (with_reducible refine (move_5_11_25n _ _ (by omega) (by omega)).mono ?_); rintro e w' ⟨rfl, _, rfl⟩)))
    go_ret
    exact ⟨ret_int (by (try rw [hm.out]); unfold spreadF; simp; try omega), _, rfl⟩
theorem rspread_B (n : Int) (w : World) (h : -2147483648 ≤ n) (h' : n < 2147483648) :
    Calls Tryz.prog 74 #[.int .u8 66, .int .i64 n] w fun e w' => e = .returned (.int .i64 (spreadF 66 (n % 4294967296))) ∧ ∃ k, w.drewN k = w' := by
  by_cases hn : 0 ≤ n
  · have hm : n % 4294967296 = n := by omega
    have hm := Lib.hid hm
    go_enter Tryz.func74, Tryz.ntmps74
    go_wp2_with (first | ((go_at_call 40; (with_reducible refine (move_12_12_31p _ _ (by omega) (by omega)).mono ?_); rintro e w' ⟨rfl, _, rfl⟩)) | ((go_at_call 40; (with_reducible refine (move_5_10_25p _ _ (by omega) (by omega)).mono ?_); rintro e w' ⟨rfl, _, rfl⟩)) | ((go_at_call 40; (with_reducible refine (move_1_4_8p _ _ (by omega) (by omega)).mono ?_); rintro e w' ⟨rfl, _, rfl⟩)) | ((go_at_call 40; (with_reducible refine (move_11_11_7p _ _ (by omega) (by omega)).mono ?_); rintro e w' ⟨rfl, _, rfl⟩)))
    go_ret
    exact ⟨ret_int (by (try rw [hm.out]); unfold spreadF; simp; try omega), _, rfl⟩
  · have hm : n % 4294967296 = n + 4294967296 := by omega
    have hm := Lib.hid hm
    go_enter Tryz.func74, Tryz.ntmps74
    go_wp2_with (first | ((go_at_call 40; (with_reducible refine (move_12_12_31n _ _ (by omega) (by omega)).mono ?_); rintro e w' ⟨rfl, _, rfl⟩)) | ((go_at_call 40; (with_reducible refine (move_5_10_25n _ _ (by omega) (by omega)).mono ?_); rintro e w' ⟨rfl, _, rfl⟩)) | ((go_at_call 40; (with_reducible refine (move_1_4_8n _ _ (by omega) (by omega)).mono ?_); rintro e w' ⟨rfl, _, rfl⟩)) | ((go_at_call 40; (with_reducible refine (move_11_11_7n _ _ (by omega) (by omega)).mono ?_); rintro e w' ⟨rfl, _, rfl⟩)))
    go_ret
    exact ⟨ret_int (by (try rw [hm.out]); unfold spreadF; simp; try omega), _, rfl⟩
theorem rsigned_32 (n : Int) (w : World) (h : 0 ≤ n) (h' : n < 4294967296) :
    Calls Tryz.prog 67 #[.int .i64 n, .int .i64 32] w fun e w' => e = .returned (.int .i64 (sx n 2147483648)) ∧ w = w' := by
  by_cases hn : n < 2147483648
  all_goals
    go_enter Tryz.func67, Tryz.ntmps67
    go_wp2_with (go_at_call 68; refine (rtwo_c _ _ (by omega) (by omega)).mono ?_; rintro e w' ⟨rfl, rfl⟩)
    go_ret
    exact ⟨ret_int (by unfold sx; split <;> omega), rfl⟩
theorem rsigned_21 (n : Int) (w : World) (h : 0 ≤ n) (h' : n < 2097152) :
    Calls Tryz.prog 67 #[.int .i64 n, .int .i64 21] w fun e w' => e = .returned (.int .i64 (sx n 1048576)) ∧ w = w' := by
  by_cases hn : n < 1048576
  all_goals
    go_enter Tryz.func67, Tryz.ntmps67
    go_wp2_with (go_at_call 68; refine (rtwo_c _ _ (by omega) (by omega)).mono ?_; rintro e w' ⟨rfl, rfl⟩)
    go_ret
    exact ⟨ret_int (by unfold sx; split <;> omega), rfl⟩
theorem rsigned_12 (n : Int) (w : World) (h : 0 ≤ n) (h' : n < 4096) :
    Calls Tryz.prog 67 #[.int .i64 n, .int .i64 12] w fun e w' => e = .returned (.int .i64 (sx n 2048)) ∧ w = w' := by
  by_cases hn : n < 2048
  all_goals
    go_enter Tryz.func67, Tryz.ntmps67
    go_wp2_with (go_at_call 68; refine (rtwo_c _ _ (by omega) (by omega)).mono ?_; rintro e w' ⟨rfl, rfl⟩)
    go_ret
    exact ⟨ret_int (by unfold sx; split <;> omega), rfl⟩
theorem rsigned_13 (n : Int) (w : World) (h : 0 ≤ n) (h' : n < 8192) :
    Calls Tryz.prog 67 #[.int .i64 n, .int .i64 13] w fun e w' => e = .returned (.int .i64 (sx n 4096)) ∧ w = w' := by
  by_cases hn : n < 4096
  all_goals
    go_enter Tryz.func67, Tryz.ntmps67
    go_wp2_with (go_at_call 68; refine (rtwo_c _ _ (by omega) (by omega)).mono ?_; rintro e w' ⟨rfl, rfl⟩)
    go_ret
    exact ⟨ret_int (by unfold sx; split <;> omega), rfl⟩
theorem rgather_R (n : Int) (w : World) (h : 0 ≤ n) (h' : n < 4294967296) :
    Calls Tryz.prog 38 #[.int .u8 82, .int .i64 n] w fun e w' => e = .returned (.int .i64 (immF 82 n)) ∧ ∃ k, w.drewN k = w' := by
  go_enter Tryz.func38, Tryz.ntmps38
  go_wp2
  go_ret
  exact ⟨ret_int (by unfold immF; simp only [Int.reduceEq, if_true, if_false]; try (first | rfl | omega | (congr 1; omega))), 0, rfl⟩
theorem rgather_I (n : Int) (w : World) (h : 0 ≤ n) (h' : n < 4294967296) :
    Calls Tryz.prog 38 #[.int .u8 73, .int .i64 n] w fun e w' => e = .returned (.int .i64 (immF 73 n)) ∧ ∃ k, w.drewN k = w' := by
  go_enter Tryz.func38, Tryz.ntmps38
  go_wp2_with (first | ((go_at_call 40; (with_reducible refine (move_20_31_0p _ _ (by omega) (by omega)).mono ?_); rintro e w' ⟨rfl, _, rfl⟩)) | (go_at_call 67; (with_reducible refine (rsigned_12 _ _ (by omega) (by omega)).mono ?_); rintro e w' ⟨rfl, rfl⟩))
  go_ret
  exact ⟨ret_int (by unfold immF; simp only [Int.reduceEq, if_true, if_false]; try (first | rfl | omega | (congr 1; omega))), _, rfl⟩
theorem rgather_H (n : Int) (w : World) (h : 0 ≤ n) (h' : n < 4294967296) :
    Calls Tryz.prog 38 #[.int .u8 72, .int .i64 n] w fun e w' => e = .returned (.int .i64 (immF 72 n)) ∧ ∃ k, w.drewN k = w' := by
  go_enter Tryz.func38, Tryz.ntmps38
  go_wp2_with (first | ((go_at_call 40; (with_reducible refine (move_20_24_0p _ _ (by omega) (by omega)).mono ?_); rintro e w' ⟨rfl, _, rfl⟩)))
  go_ret
  exact ⟨ret_int (by unfold immF; simp only [Int.reduceEq, if_true, if_false]; try (first | rfl | omega | (congr 1; omega))), _, rfl⟩
theorem rgather_U (n : Int) (w : World) (h : 0 ≤ n) (h' : n < 4294967296) :
    Calls Tryz.prog 38 #[.int .u8 85, .int .i64 n] w fun e w' => e = .returned (.int .i64 (immF 85 n)) ∧ ∃ k, w.drewN k = w' := by
  go_enter Tryz.func38, Tryz.ntmps38
  go_wp2_with (first | ((go_at_call 40; (with_reducible refine (move_12_31_12p _ _ (by omega) (by omega)).mono ?_); rintro e w' ⟨rfl, _, rfl⟩)) | (go_at_call 67; (with_reducible refine (rsigned_32 _ _ (by omega) (by omega)).mono ?_); rintro e w' ⟨rfl, rfl⟩))
  go_ret
  exact ⟨ret_int (by unfold immF; simp only [Int.reduceEq, if_true, if_false]; try (first | rfl | omega | (congr 1; omega))), _, rfl⟩
theorem rgather_J (n : Int) (w : World) (h : 0 ≤ n) (h' : n < 4294967296) :
    Calls Tryz.prog 38 #[.int .u8 74, .int .i64 n] w fun e w' => e = .returned (.int .i64 (immF 74 n)) ∧ ∃ k, w.drewN k = w' := by
  go_enter Tryz.func38, Tryz.ntmps38
  go_wp2_with (first | ((go_at_call 40; (with_reducible refine (move_31_31_20p _ _ (by omega) (by omega)).mono ?_); rintro e w' ⟨rfl, _, rfl⟩)) | ((go_at_call 40; (with_reducible refine (move_21_30_1p _ _ (by omega) (by omega)).mono ?_); rintro e w' ⟨rfl, _, rfl⟩)) | ((go_at_call 40; (with_reducible refine (move_20_20_11p _ _ (by omega) (by omega)).mono ?_); rintro e w' ⟨rfl, _, rfl⟩)) | ((go_at_call 40; (with_reducible refine (move_12_19_12p _ _ (by omega) (by omega)).mono ?_); rintro e w' ⟨rfl, _, rfl⟩)) | (go_at_call 67; (with_reducible refine (rsigned_21 _ _ (by omega) (by omega)).mono ?_); rintro e w' ⟨rfl, rfl⟩))
  go_ret
  exact ⟨ret_int (by unfold immF; simp only [Int.reduceEq, if_true, if_false]; try (first | rfl | omega | (congr 1; omega))), _, rfl⟩
theorem rgather_S (n : Int) (w : World) (h : 0 ≤ n) (h' : n < 4294967296) :
    Calls Tryz.prog 38 #[.int .u8 83, .int .i64 n] w fun e w' => e = .returned (.int .i64 (immF 83 n)) ∧ ∃ k, w.drewN k = w' := by
  go_enter Tryz.func38, Tryz.ntmps38
  go_wp2_with (first | ((go_at_call 40; (with_reducible refine (move_7_11_0p _ _ (by omega) (by omega)).mono ?_); rintro e w' ⟨rfl, _, rfl⟩)) | ((go_at_call 40; (with_reducible refine (move_25_31_5p _ _ (by omega) (by omega)).mono ?_); rintro e w' ⟨rfl, _, rfl⟩)) | (go_at_call 67; (with_reducible refine (rsigned_12 _ _ (by omega) (by omega)).mono ?_); rintro e w' ⟨rfl, rfl⟩))
  go_ret
  exact ⟨ret_int (by unfold immF; simp only [Int.reduceEq, if_true, if_false]; try (first | rfl | omega | (congr 1; omega))), _, rfl⟩
theorem rgather_B (n : Int) (w : World) (h : 0 ≤ n) (h' : n < 4294967296) :
    Calls Tryz.prog 38 #[.int .u8 66, .int .i64 n] w fun e w' => e = .returned (.int .i64 (immF 66 n)) ∧ ∃ k, w.drewN k = w' := by
  go_enter Tryz.func38, Tryz.ntmps38
  go_wp2_with (first | ((go_at_call 40; (with_reducible refine (move_31_31_12p _ _ (by omega) (by omega)).mono ?_); rintro e w' ⟨rfl, _, rfl⟩)) | ((go_at_call 40; (with_reducible refine (move_25_30_5p _ _ (by omega) (by omega)).mono ?_); rintro e w' ⟨rfl, _, rfl⟩)) | ((go_at_call 40; (with_reducible refine (move_8_11_1p _ _ (by omega) (by omega)).mono ?_); rintro e w' ⟨rfl, _, rfl⟩)) | ((go_at_call 40; (with_reducible refine (move_7_7_11p _ _ (by omega) (by omega)).mono ?_); rintro e w' ⟨rfl, _, rfl⟩)) | (go_at_call 67; (with_reducible refine (rsigned_13 _ _ (by omega) (by omega)).mono ?_); rintro e w' ⟨rfl, rfl⟩))
  go_ret
  exact ⟨ret_int (by unfold immF; simp only [Int.reduceEq, if_true, if_false]; try (first | rfl | omega | (congr 1; omega))), _, rfl⟩
end Go.Proofs.YtabmbhhodecmfaaGreat
