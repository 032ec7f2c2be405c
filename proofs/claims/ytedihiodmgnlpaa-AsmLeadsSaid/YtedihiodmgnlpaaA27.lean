/-
  The statement on numbers: its walk.
-/
import Derived.Test.YtedihiodmgnlpaaA23
set_option linter.all false
namespace Go.Proofs.Ytedihiodmgnlpaa
open Go.ChangeShapes Go.WideShapes Go.ChangeAt Go.RowKit Go.Maps
set_option maxHeartbeats 4000000
set_option linter.unusedVariables false
set_option maxRecDepth 100000

/-- what a right instruction's word is, decoded -/
theorem dec_w (i : IN) (hi : i.ok = true) (w : World) : Calls Try.prog 26 #[.int .u32 (encW i)] w fun e w' => e = .returned (.tuple #[i.v, .int .i64 0]) ∧ Below w.heap.size w w' := by
  obtain ⟨op, rd, rs1, rs2, imm⟩ := i
  obtain ⟨h1, h2⟩ := ok_op _ hi
  dsimp only at h1 h2
  obtain ⟨k, rfl⟩ := Int.eq_ofNat_of_zero_le (show 0 ≤ op by omega)
  have hR : RightP (k : Int) rd rs1 rs2 imm := of_decide_eq_true hi
  have e : encW ⟨(k : Int), rd, rs1, rs2, imm⟩ = wordP k rd rs1 rs2 imm := by unfold encW; rw [if_pos hi]; rfl
  obtain ⟨b1, b2, hf, r1, r2, r3, r4⟩ := word_parts k (by omega) (by omega) rd rs1 rs2 imm hR _ rfl
  rw [e]
  refine (dec_hit k (by omega) (by omega) _ b1 b2 hf w).mono fun e w' ⟨h, hb⟩ => ⟨?_, hb⟩
  rw [h, r1, r2, r3, r4]
  rfl
theorem encW_bd (i : IN) : 0 ≤ encW i ∧ encW i < 4294967296 := by
  unfold encW
  split
  · rename_i hi
    obtain ⟨h1, h2⟩ := ok_op _ hi
    have hR : RightP i.op i.rd i.rs1 i.rs2 i.imm := of_decide_eq_true hi
    have := word_parts i.op.toNat (by omega) (by omega) i.rd i.rs1 i.rs2 i.imm (by rw [Int.toNat_of_nonneg (by omega)]; exact hR) _ rfl
    exact ⟨this.1, this.2.1⟩
  · simp
/-- an instruction of those by which a register is a number -/
def numI (rd : Int) (k : Nat) (i : IN) : Prop := i.rd = rd ∧ -4294967296 ≤ i.imm ∧ i.imm ≤ 4294967296 ∧ (i.op = 1 ∨ i.op = 19 ∧ i.rs1 = 0 ∨ i.op = 19 ∧ i.rs1 ≠ 0 ∧ i.rs1 = rd ∧ k ≠ 0)
def sumI : List IN → Int
  | [] => 0
  | i :: l => i.imm + sumI l
theorem constL_num (rd n : Int) (h1 : 0 ≤ rd) (h2 : rd < 32) (h : 0 ≤ n) (h' : n < 4294967296) : (∀ k, k < (constL rd n).length → numI rd k ((constL rd n).getD k default)) ∧ sumI (constL rd n) % 4294967296 = n ∧ 1 ≤ (constL rd n).length := by
  have hb := sign_bd n 12 h h'
  have e := sg12 n h h'
  have ha : -2048 ≤ sg (signX n 12) ∧ sg (signX n 12) < 2048 := by rw [e]; split <;> omega
  have hm := sg_mod _ hb.1 hb.2
  have hy : 0 ≤ (n - signX n 12) % 4294967296 ∧ (n - signX n 12) % 4294967296 < 4294967296 := by omega
  have hz := sg_bd _ hy.1 hy.2
  have hn := sg_mod _ hy.1 hy.2
  unfold constL
  split
  · refine ⟨fun k hk => ?_, ?_, by simp⟩
    · obtain rfl : k = 0 := by simpa using hk
      exact ⟨rfl, by simp; omega, by simp; omega, .inr (.inl ⟨rfl, rfl⟩)⟩
    · simp only [sumI]; omega
  · split
    · refine ⟨fun k hk => ?_, ?_, by simp⟩
      · obtain rfl : k = 0 := by simpa using hk
        exact ⟨rfl, by simp; omega, by simp; omega, .inl rfl⟩
      · simp only [sumI]; omega
    · refine ⟨fun k hk => ?_, ?_, by simp⟩
      · have : k < 2 := hk
        match k, this with
        | 0, _ => exact ⟨rfl, by simp; omega, by simp; omega, .inl rfl⟩
        | 1, _ =>
          by_cases hr : rd = 0
          · exact ⟨rfl, by simp; omega, by simp; omega, .inr (.inl ⟨rfl, hr⟩)⟩
          · exact ⟨rfl, by simp; omega, by simp; omega, .inr (.inr ⟨rfl, hr, rfl, by decide⟩)⟩
      · simp only [sumI]; omega
def sumK (l : List IN) (k : Nat) : Int := sumI (l.take k)
theorem sumI_app : ∀ (l m : List IN), sumI (l ++ m) = sumI l + sumI m
  | [], m => by simp [sumI]
  | i :: l, m => by simp only [List.cons_append, sumI, sumI_app l m]; omega
theorem sumK_succ (l : List IN) (k : Nat) (h : k < l.length) : sumK l (k + 1) = sumK l k + (l.getD k default).imm := by
  unfold sumK
  rw [take_snocD l k h, sumI_app]; simp [sumI]
def numIt (rd n : Int) : It := ⟨5, ⟨0, rd, 0, 0, n⟩, 0⟩
theorem num_bad (rd n : Int) (h : rd < 0 ∨ 31 < rd) : asmE [numIt rd n] = 1 ∧ asmW [numIt rd n] = [] := by
  have hf : itemF (numIt rd n) = false := by
    unfold itemF numIt
    simp only [show ¬ ((5 : Int) = 1) by decide, show ¬ ((5 : Int) = 2) by decide, show ¬ ((5 : Int) = 3) by decide, show ¬ ((5 : Int) = 4) by decide, if_false, if_true]
    rcases h with h | h
    · have : decide (0 ≤ rd) = false := decide_eq_false (by omega)
      simp [this]
    · have : decide (rd < 32) = false := decide_eq_false (by omega)
      simp [this]
  have hE : asmE [numIt rd n] = 1 := asmE_1 _ (by simp) (by simp [okN, hf])
  exact ⟨hE, by unfold asmW; rw [hE]; rfl⟩
theorem num_good (rd n : Int) (h1 : 0 ≤ rd) (h2 : rd ≤ 31) (h3 : 0 ≤ n) (h4 : n < 4294967296) : asmE [numIt rd n] = 0 ∧ asmW [numIt rd n] = (constL rd n).map encW := by
  have hf : itemF (numIt rd n) = true := by
    unfold itemF numIt
    simp only [show ¬ ((5 : Int) = 1) by decide, show ¬ ((5 : Int) = 2) by decide, show ¬ ((5 : Int) = 3) by decide, show ¬ ((5 : Int) = 4) by decide, if_false, if_true]
    simp; omega
  have e : n % 4294967296 = n := by omega
  have hl : itemL [numIt rd n] 0 = constL rd n := by
    unfold itemL
    rw [insL_5 _ _ _ rfl]
    show constL rd (n % 4294967296) = _
    rw [e]
  have hB : itemB [numIt rd n] 0 = true := by unfold itemB insB numIt; simp
  have hE : asmE [numIt rd n] = 0 := asmE_0 _ (by simp) (by simp [okN, hf]) (by unfold labE; simp [dupN, misN, numIt]) (by simp [inN, hB])
  exact ⟨hE, by unfold asmW; rw [if_pos hE]; simp [wordsF, hl]⟩
theorem AsmNumbers_w (rd n : Int) (w : World) (hr1 : -9223372036854775808 ≤ rd) (hr2 : rd < 9223372036854775808) (hn1 : 0 ≤ n) (hn2 : n < 4294967296) :
    Calls Try.prog 7 #[.int .i64 rd, .int .u32 n] w fun e w' => e = .returned (.bool true) ∧ Below w.heap.size w w' := by
  have HA := Lib.hid awake5_c
  have I1 : Hid (∀ w, Calls Try.prog 22 #[.int .i64 rd, .int .u32 n] w fun r w' => r = .returned (.agg #[.int .i64 5, .int .i64 0, .int .i64 rd, .int .i64 0, .int .i64 0, .int .i64 n, .int .i64 0]) ∧ Below w.heap.size w w') := fun w => aconst_c rd n w hn1 hn2
  have HH : Hid (∀ w : World, RdT (w.alloc (.cells #[.int .i64 5, .int .i64 0, .int .i64 rd, .int .i64 0, .int .i64 0, .int .i64 n, .int .i64 0] 41)) (.slice (some ⟨w.heap.size, 0, none⟩) 1 1) [numIt rd n]) := fun w => RdT.of_heap [numIt rd n] (heap_new w _ _ rfl) (by simp [maxLen])
  by_cases hbad : rd < 0 ∨ 31 < rd
  · have A1 : Hid (∀ w v, RdT w v [numIt rd n] → Calls Try.prog 14 #[v] w fun e w' => ∃ v u, e = .returned (.tuple #[v, u, .int .i64 1]) ∧ RdW w' v [] ∧ Below w.heap.size w w') := fun w v h => by
      obtain ⟨e1, e2⟩ := num_bad rd n hbad
      have := assemble_c _ v w h
      unfold AsmP at this
      rw [e1, e2] at this
      exact this.mono fun e w' ⟨a, b, h1, h2, h3, h4⟩ => ⟨a, b, h1, h2, h4⟩
    have hg : Hid (rd < 0 ∨ ¬ rd < 0 ∧ 31 < rd) := show _ ∨ _ by omega
    clear hbad hr1 hr2 hn1 hn2
    go_enter Try.func7, Try.ntmps7
    go_wp2_with fail
    refine (I1.out _).mono ?_
    rintro e w1 ⟨rfl, hb1⟩
    have B1 := Lib.hid hb1
    clear hb1
    go_wp2_with fail
    refine (A1.out _ _ (HH.out w1)).mono ?_
    rintro e w2 ⟨v, u, rfl, hv, hb2⟩
    have B2 : Hid (Below w.heap.size w w2) := (B1.out.trans ((below_a1 _ _).mono B1.out.size)).trans (hb2.mono (by have := B1.out.size; simp; omega))
    clear hb2 B1 A1
    obtain ⟨av, cv, rfl, hv1, hv2, -⟩ := hv
    have HS := hg.out
    rcases HS with h | ⟨h, h'⟩
    · have g1 : decide (rd < 0) = true := decide_eq_true h
      clear h
      go_wp2_with (go_at_call 12; refine (HA.out _).mono ?_; rintro e w9 ⟨rfl, hb9⟩)
      go_ret
      exact ⟨rfl, B2.out.trans (hb9.mono B2.out.size)⟩
    · have g1 : decide (rd < 0) = false := decide_eq_false (by omega)
      have g2 : decide (31 < rd) = true := decide_eq_true h'
      clear h h'
      go_wp2_with (go_at_call 12; refine (HA.out _).mono ?_; rintro e w9 ⟨rfl, hb9⟩)
      go_ret
      exact ⟨rfl, B2.out.trans (hb9.mono B2.out.size)⟩
  · have g1 : decide (rd < 0) = false := decide_eq_false (by omega)
    have g2 : decide (31 < rd) = false := decide_eq_false (by omega)
    obtain ⟨hN, hS, hL⟩ := constL_num rd n (by omega) (by omega) hn1 hn2
    have HOK := Lib.hid (constL_ok rd n (by omega) (by omega) hn1 hn2)
    have hlen := constL_len rd n
    have A1 : Hid (∀ w v, RdT w v [numIt rd n] → Calls Try.prog 14 #[v] w fun e w' => ∃ v u, e = .returned (.tuple #[v, u, .int .i64 0]) ∧ RdW w' v ((constL rd n).map encW) ∧ Below w.heap.size w w') := fun w v h => by
      obtain ⟨e1, e2⟩ := num_good rd n (by omega) (by omega) hn1 hn2
      have := assemble_c _ v w h
      unfold AsmP at this
      rw [e1, e2] at this
      exact this.mono fun e w' ⟨a, b, h1, h2, h3, h4⟩ => ⟨a, b, h1, h2, h4⟩
    have HN := Lib.hid hN
    have HS := Lib.hid hS
    clear hN hS
    generalize constL rd n = C at *
    clear hbad hr1 hr2
    go_enter Try.func7, Try.ntmps7
    go_wp2_with fail
    refine (I1.out _).mono ?_
    rintro e w1 ⟨rfl, hb1⟩
    have B1 := Lib.hid hb1
    clear hb1
    go_wp2_with fail
    refine (A1.out _ _ (HH.out w1)).mono ?_
    rintro e w2 ⟨v, u, rfl, hv, hb2⟩
    have B2 : Hid (Below w.heap.size w w2) := (B1.out.trans ((below_a1 _ _).mono B1.out.size)).trans (hb2.mono (by have := B1.out.size; simp; omega))
    clear hb2 B1 A1
    obtain ⟨av, cv, rfl, hv1, hv2, hv3⟩ := hv
    have HV := Lib.hid hv3
    rw [List.length_map] at hv1 HV ⊢
    unfold maxLen at hv2
    clear hv3
    go_wp2_with fail
    go_loopw [8, 9] (fun s i wr => ∃ k : Nat, k ≤ C.length ∧ i = .int .i64 (k : Int) ∧ s = .int .i64 (sumK C k) ∧ Hid (-4294967296 * (k : Int) ≤ sumK C k ∧ sumK C k ≤ 4294967296 * (k : Int)) ∧ Hid (Below w2.heap.size w2 wr)) (fun _ i _ => C.length - (intOf i).toNat)
    case atStart => exact ⟨0, Nat.zero_le _, rfl, rfl, ⟨by simp [sumK, sumI], by simp [sumK, sumI]⟩, Below.refl _ _⟩
    case round =>
      obtain ⟨k, hk, rfl, rfl, HB, B⟩ := hrel
      by_cases hlk : k < C.length
      · obtain ⟨b, o, rfl, hc⟩ := HV.out k hlk
        have lb : b < w2.heap.size := World.block_lt_of_cell? w2 _ hc
        have hc := (B.out.cell (p := ⟨b, o + k * 1 + 0, none⟩) lb).trans hc
        have hgd : (C.map encW).getD k 0 = encW (C.getD k default) := by simp [List.getD, hlk]
        rw [hgd] at hc
        simp only [Nat.mul_one, Nat.add_zero] at hc
        have hme : C.getD k default ∈ C := by simp [List.getD, hlk]
        have HD := Lib.hid (fun w => dec_w (C.getD k default) (HOK.out _ hme).1 w)
        have hNk := HN.out k hlk
        have HSS := Lib.hid (sumK_succ C k hlk)
        clear hme hgd
        generalize C.getD k default = X at *
        generalize encW X = ew at *
        obtain ⟨op, rd', rs1, rs2, imm⟩ := X
        obtain ⟨q1, q2, q3, q4⟩ := hNk
        dsimp only at q1 q2 q3 q4 HSS
        subst q1
        have HD : Hid (∀ w, Calls Try.prog 26 #[.int .u32 ew] w fun e w' => e = .returned (.tuple #[.agg #[.int .i64 op, .int .i64 rd', .int .i64 rs1, .int .i64 rs2, .int .i64 imm], .int .i64 0]) ∧ Below w.heap.size w w') := HD
        obtain ⟨hb1, hb2⟩ := HB.out
        generalize sumK C k = s at *
        have HB2 : Hid (-4294967296 * ((k + 1 : Nat) : Int) ≤ s + imm ∧ s + imm ≤ 4294967296 * ((k + 1 : Nat) : Int)) := show _ ∧ _ by omega
        have Q := Lib.hid q4
        clear q4
        have hk2 : k ≤ 2 := by omega
        rcases Q.out with h | ⟨h, h'⟩ | ⟨h, h', h'', h3⟩
        · subst h
          go_wp2_with fail
          refine (HD.out _).mono ?_
          rintro e w4 ⟨rfl, hb4⟩
          have B4 : Hid (Below w2.heap.size w2 w4) := B.out.trans (hb4.mono B.out.size)
          clear hb4 hc B
          go_wp2_with fail
          go_round
          case rel => exact ⟨k + 1, by omega, by go_num, by rw [HSS.out], by rw [HSS.out]; exact HB2, B4.out.trans ((below_a1 _ _).mono B4.out.size)⟩
          case measure => first | (simp [intOf]; done) | (simp [intOf]; omega)
        · subst h h'
          go_wp2_with fail
          refine (HD.out _).mono ?_
          rintro e w4 ⟨rfl, hb4⟩
          have B4 : Hid (Below w2.heap.size w2 w4) := B.out.trans (hb4.mono B.out.size)
          clear hb4 hc B
          go_wp2_with fail
          go_round
          case rel => exact ⟨k + 1, by omega, by go_num, by rw [HSS.out], by rw [HSS.out]; exact HB2, B4.out.trans ((below_a1 _ _).mono B4.out.size)⟩
          case measure => first | (simp [intOf]; done) | (simp [intOf]; omega)
        · subst h h''
          have g3 : (rs1 != 0) = true := bne_iff_ne.2 h'
          have g4 : ((k : Int) == 0) = false := beq_eq_false_iff_ne.2 (by omega)
          clear h' h3
          go_wp2_with fail
          refine (HD.out _).mono ?_
          rintro e w4 ⟨rfl, hb4⟩
          have B4 : Hid (Below w2.heap.size w2 w4) := B.out.trans (hb4.mono B.out.size)
          clear hb4 hc B
          go_wp2_with fail
          go_round
          case rel => exact ⟨k + 1, by omega, by go_num, by rw [HSS.out], by rw [HSS.out]; exact HB2, B4.out.trans ((below_a1 _ _).mono B4.out.size)⟩
          case measure => first | (simp [intOf]; done) | (simp [intOf]; omega)
      · obtain rfl : k = C.length := by omega
        have HS2 : Hid (sumK C C.length % 4294967296 = n) := by show _ = _; unfold sumK; rw [List.take_length]; exact HS.out
        obtain ⟨hb1, hb2⟩ := HB.out
        have HC : Hid (∀ w, Calls Try.prog 29 #[.int .i64 (sumK C C.length)] w fun e w' => e = .returned (.int .u32 n) ∧ w = w') := fun w => by
          have := rcut_c (sumK C C.length) w (by omega) (by omega)
          rw [HS2.out] at this
          exact this
        generalize sumK C C.length = s at *
        go_wp2_with (first | (go_at_call 12; refine (HA.out _).mono ?_; rintro e w9 ⟨rfl, hb9⟩) | (go_at_call 29; refine (HC.out _).mono ?_; rintro e w' ⟨rfl, rfl⟩))
        go_ret
        exact ⟨rfl, B2.out.trans ((B.out.trans (hb9.mono B.out.size)).mono B2.out.size)⟩
end Go.Proofs.Ytedihiodmgnlpaa
