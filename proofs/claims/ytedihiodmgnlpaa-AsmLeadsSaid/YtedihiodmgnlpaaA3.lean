/-
  The document's Number and Right.
  Conditions: numbers lie within 64 bits.
-/
import Derived.Test.YtedihiodmgnlpaaA2
set_option linter.all false
namespace Go.Proofs.Ytedihiodmgnlpaa
open Go.ChangeShapes Go.WideShapes Go.ChangeAt Go.RowKit
set_option maxHeartbeats 1000000
set_option linter.unusedVariables false
set_option maxRecDepth 20000

theorem sg12 (n : Int) (h : 0 ≤ n) (h' : n < 4294967296) : sg (signX n 12) = if n % 4096 < 2048 then n % 4096 else n % 4096 - 4096 := by
  unfold signX
  rw [if_neg (by omega)]
  show sg ((if n % 2 ^ 12 < 2 ^ 11 then n % 2 ^ 12 else n % 2 ^ 12 - 2 ^ 12) % 4294967296) = _
  unfold sg
  split <;> split <;> split <;> omega
theorem constL_1 (rd n : Int) (h : 0 ≤ n) (h' : n < 4294967296) (h1 : -2048 ≤ sg n) (h2 : sg n ≤ 2047) : constL rd n = [⟨19, rd, 0, 0, sg n⟩] := by
  have e := sg12 n h h'
  have b := sign_bd n 12 h h'
  have e' : signX n 12 = n := by
    refine (sg_inj _ _ b.1 b.2 h h').1 ?_
    rw [e]
    unfold sg at h1 h2 ⊢
    split at h1 <;> split <;> omega
  unfold constL
  rw [e', if_pos (by omega)]
theorem constL_hi (n : Int) (h : 0 ≤ n) (h' : n < 4294967296) (h1 : ¬ (-2048 ≤ sg n ∧ sg n ≤ 2047)) : (n - signX n 12) % 4294967296 ≠ 0 := by
  intro h0
  have b := sign_bd n 12 h h'
  have e := sg12 n h h'
  have : n = signX n 12 := by omega
  rw [← this] at e
  apply h1
  rw [e]
  split <;> omega
theorem sub_mod (n : Int) (h : 0 ≤ n) (h' : n < 4294967296) : (sg n - sg (signX n 12)) % 4294967296 = (n - signX n 12) % 4294967296 := by
  have b := sign_bd n 12 h h'
  have e1 := sg_mod n h h'
  have e2 := sg_mod _ b.1 b.2
  omega
theorem rnumber_c (rd n : Int) (w : World) (h : -9223372036854775808 ≤ n) (h' : n < 9223372036854775808) :
    Calls Try.prog 28 #[.int .i64 rd, .int .i64 n] w fun e w' => ∃ v, e = .returned v ∧ RdN w' v (constL rd (n % 4294967296)) ∧ FrV w v ∧ Below w.heap.size w w' := by
  obtain ⟨N, hN⟩ : ∃ N, N = n % 4294967296 := ⟨_, rfl⟩
  have hN0 : 0 ≤ N := by omega
  have hN1 : N < 4294967296 := by omega
  have hb := sign_bd N 12 hN0 hN1
  obtain ⟨X, hX⟩ : ∃ X, X = signX N 12 := ⟨_, rfl⟩
  have C1 : Hid (∀ w, Calls Try.prog 29 #[.int .i64 n] w fun e w' => e = .returned (.int .u32 N) ∧ w = w') := by rw [hN]; exact fun w => rcut_c n w h h'
  have S1 : Hid (∀ w, Calls Try.prog 57 #[.int .u32 N] w fun e w' => e = .returned (.int .i64 (sg N)) ∧ w = w') := fun w => rsigned_c N w hN0 hN1
  have G1 : Hid (∀ w, Calls Try.prog 58 #[.int .u32 N, .int .i64 12] w fun e w' => e = .returned (.int .u32 X) ∧ w = w') := by rw [hX]; exact fun w => rsign_c N 12 w hN0 hN1 (by decide) (by decide)
  have S2 : Hid (∀ w, Calls Try.prog 57 #[.int .u32 X] w fun e w' => e = .returned (.int .i64 (sg X)) ∧ w = w') := by rw [hX]; exact fun w => rsigned_c _ w hb.1 hb.2
  have sN := sg_bd N hN0 hN1
  have sX : -2147483648 ≤ sg X ∧ sg X < 2147483648 := by rw [hX]; exact sg_bd _ hb.1 hb.2
  obtain ⟨Y, hY⟩ : ∃ Y, Y = (N - X) % 4294967296 := ⟨_, rfl⟩
  have C2 : Hid (∀ m, m = sg N - sg X → ∀ w, Calls Try.prog 29 #[.int .i64 m] w fun e w' => e = .returned (.int .u32 Y) ∧ w = w') := by
    intro m hm w
    rw [hm, show Y = (sg N - sg X) % 4294967296 by rw [hY, hX]; exact (sub_mod N hN0 hN1).symm]
    exact rcut_c _ w (by omega) (by omega)
  have S3 : Hid (∀ w, Calls Try.prog 57 #[.int .u32 Y] w fun e w' => e = .returned (.int .i64 (sg Y)) ∧ w = w') := fun w => rsigned_c Y w (by omega) (by omega)
  have HX0 : Hid (sg X = 0 ↔ X = 0) := by rw [hX]; exact sg_zero _ hb.1 hb.2
  by_cases h1 : -2048 ≤ sg N ∧ sg N ≤ 2047
  · have HC : Hid (constL rd N = [⟨19, rd, 0, 0, sg N⟩]) := constL_1 rd N hN0 hN1 h1.1 h1.2
    obtain ⟨h1, h2⟩ := h1
    rw [← hN]
    clear hN hX hY hb C2 S3 S2 G1 HX0 sX hN0 hN1
    generalize sg N = s at *
    go_enter Try.func28, Try.ntmps28
    go_wp2_with (first | (go_at_call 29; refine (C1.out _).mono ?_; rintro e w1 ⟨rfl, rfl⟩) | (go_at_call 57; refine (S1.out _).mono ?_; rintro e w1 ⟨rfl, rfl⟩))
    go_ret
    refine ⟨_, rfl, ?_, FrV.mk (Nat.le_refl _), below_a1 _ _⟩
    rw [HC.out]
    exact RdN.one ⟨19, rd, 0, 0, s⟩ rfl
  · have hy := constL_hi N hN0 hN1 h1
    have HC : Hid (constL rd N = if X = 0 then [⟨1, rd, 0, 0, sg Y⟩] else [⟨1, rd, 0, 0, sg Y⟩, ⟨19, rd, rd, 0, sg X⟩]) := show _ = _ by
      unfold constL; rw [if_neg hy, ← hX, ← hY]
    have h1' : sg N < -2048 ∨ -2048 ≤ sg N ∧ 2047 < sg N := by omega
    rw [← hN]
    clear hN hX hY hb hN0 hN1 hy h1
    generalize sg N = s at *
    obtain ⟨sX1, sX2⟩ := sX
    obtain ⟨sN1, sN2⟩ := sN
    generalize sg X = x at *
    generalize sg Y = y at *
    by_cases hx : x = 0
    · rw [if_pos (HX0.out.1 hx)] at HC
      subst hx
      rcases h1' with h1 | ⟨h1, h2⟩
      all_goals
        go_enter Try.func28, Try.ntmps28
        go_wp2_with (first | (go_at_call 29; with_reducible refine (C1.out _).mono ?_; rintro e w1 ⟨rfl, rfl⟩) | (go_at_call 29; with_reducible refine (C2.out _ (by first | rfl | omega | (simp; done) | (simp only [wrap64]; omega)) _).mono ?_; rintro e w1 ⟨rfl, rfl⟩) | (go_at_call 58; with_reducible refine (G1.out _).mono ?_; rintro e w1 ⟨rfl, rfl⟩) | (go_at_call 57; with_reducible refine (S1.out _).mono ?_; rintro e w1 ⟨rfl, rfl⟩) | (go_at_call 57; with_reducible refine (S2.out _).mono ?_; rintro e w1 ⟨rfl, rfl⟩) | (go_at_call 57; with_reducible refine (S3.out _).mono ?_; rintro e w1 ⟨rfl, rfl⟩))
        go_ret
        refine ⟨_, rfl, ?_, FrV.mk (Nat.le_refl _), below_a1 _ _⟩
        rw [HC.out]
        exact RdN.one ⟨1, rd, 0, 0, y⟩ rfl
    · rw [if_neg (fun e => hx (HX0.out.2 e))] at HC
      have hx' : (x == 0) = false := beq_eq_false_iff_ne.2 hx
      clear hx HX0
      rcases h1' with h1 | ⟨h1, h2⟩
      all_goals
        go_enter Try.func28, Try.ntmps28
        go_wp2_with (first | (go_at_call 29; with_reducible refine (C1.out _).mono ?_; rintro e w1 ⟨rfl, rfl⟩) | (go_at_call 29; with_reducible refine (C2.out _ (by first | rfl | omega | (simp; done) | (simp only [wrap64]; omega)) _).mono ?_; rintro e w1 ⟨rfl, rfl⟩) | (go_at_call 58; with_reducible refine (G1.out _).mono ?_; rintro e w1 ⟨rfl, rfl⟩) | (go_at_call 57; with_reducible refine (S1.out _).mono ?_; rintro e w1 ⟨rfl, rfl⟩) | (go_at_call 57; with_reducible refine (S2.out _).mono ?_; rintro e w1 ⟨rfl, rfl⟩) | (go_at_call 57; with_reducible refine (S3.out _).mono ?_; rintro e w1 ⟨rfl, rfl⟩))
        go_ret
        refine ⟨_, rfl, ?_, FrV.mk (Nat.le_refl _), below_a1 _ _⟩
        rw [HC.out]
        exact RdN.two ⟨1, rd, 0, 0, y⟩ ⟨19, rd, rd, 0, x⟩ rfl
end Go.Proofs.Ytedihiodmgnlpaa
