/-
  The walks of the statements of inst: encoding, decoding, and that each undoes the other.
  Conditions: the numbers of an instruction lie within 64 bits, words between 0 and 2^32 - 1.
-/
import Derived.Test.YtkfgfihmcjpgeaaI11
set_option linter.all false
namespace Go.Proofs.Ytkfgfihmcjpgeaa
open Go.ChangeShapes Go.WideShapes Go.ChangeAt Go.RowKit
set_option maxHeartbeats 1000000
set_option linter.unusedVariables false
set_option maxRecDepth 100000
attribute [local go_sem] alloc_drewN setCell_drewN

theorem dec_hit (k : Nat) (h1 : 1 ≤ k) (hk : k < 46) (a : Int) (h : 0 ≤ a) (h' : a < 4294967296) (hf : fitsP k a) (w : World) :
    Calls Try.prog 57 #[.int .u32 a] w fun e w' => e = .returned (.tuple #[.agg #[.int .i64 (k : Int), .int .i64 (rdW k a), .int .i64 (rs1W k a), .int .i64 (rs2W k a), .int .i64 (immF (fm k) a)], .int .i64 0]) ∧ Below w.heap.size w w' := by
  refine (decode_c a w h h').mono fun e w' ⟨hp, hb⟩ => ⟨?_, hb⟩
  rcases hp with ⟨j, j1, j2, j3, j4⟩ | ⟨hn, _⟩
  · obtain rfl := fits_once j k j1 j2 h1 hk a j3 hf
    exact j4
  · exact absurd hf (hn k h1 hk)
theorem dec_miss (a : Int) (h : 0 ≤ a) (h' : a < 4294967296) (hf : ∀ k : Nat, 1 ≤ k → k < 46 → ¬ fitsP k a) (w : World) :
    Calls Try.prog 57 #[.int .u32 a] w fun e w' => e = .returned (.tuple #[.agg #[.int .i64 0, .int .i64 0, .int .i64 0, .int .i64 0, .int .i64 0], .int .i64 3]) ∧ Below w.heap.size w w' := by
  refine (decode_c a w h h').mono fun e w' ⟨hp, hb⟩ => ⟨?_, hb⟩
  rcases hp with ⟨j, j1, j2, j3, j4⟩ | ⟨_, hn⟩
  · exact absurd j3 (hf j j1 j2)
  · exact hn
theorem rdec_hit (k : Nat) (h1 : 1 ≤ k) (hk : k < 46) (a : Int) (h : 0 ≤ a) (h' : a < 4294967296) (hf : fitsP k a) (w : World) :
    Calls Try.prog 58 #[.int .u32 a] w fun e w' => e = .returned (.tuple #[.agg #[.int .i64 (k : Int), .int .i64 (rdW k a), .int .i64 (rs1W k a), .int .i64 (rs2W k a), .int .i64 (immF (fm k) a)], .int .i64 0]) ∧ Below w.heap.size w w' := by
  refine (rdecode_c a w h h').mono fun e w' ⟨hp, hb⟩ => ⟨?_, hb⟩
  rcases hp with ⟨j, j1, j2, j3, j4⟩ | ⟨hn, _⟩
  · obtain rfl := fits_once j k j1 j2 h1 hk a j3 hf
    exact j4
  · exact absurd hf (hn k h1 hk)
theorem rdec_miss (a : Int) (h : 0 ≤ a) (h' : a < 4294967296) (hf : ∀ k : Nat, 1 ≤ k → k < 46 → ¬ fitsP k a) (w : World) :
    Calls Try.prog 58 #[.int .u32 a] w fun e w' => e = .returned (.tuple #[.agg #[.int .i64 0, .int .i64 0, .int .i64 0, .int .i64 0, .int .i64 0], .int .i64 3]) ∧ Below w.heap.size w w' := by
  refine (rdecode_c a w h h').mono fun e w' ⟨hp, hb⟩ => ⟨?_, hb⟩
  rcases hp with ⟨j, j1, j2, j3, j4⟩ | ⟨_, hn⟩
  · exact absurd j3 (hf j j1 j2)
  · exact hn
theorem awake2_c (w : World) :
    Calls Try.prog 54 #[] w fun e w' => e = .returned (.bool true) ∧ Below w.heap.size w w' := by
  have E1 : Hid (∀ w, Calls Try.prog 52 #[.agg #[.int .i64 19, .int .i64 1, .int .i64 0, .int .i64 0, .int .i64 5]] w fun e w' => e = .returned (.tuple #[.int .u32 5243027, .int .i64 0]) ∧ Below w.heap.size w w') :=
    fun w => (encode_yes 19 (by decide) (by decide) 1 0 0 5 w (by decide))
  have E2 : Hid (∀ w, Calls Try.prog 52 #[.agg #[.int .i64 18, .int .i64 0, .int .i64 1, .int .i64 2, .int .i64 8]] w fun e w' => e = .returned (.tuple #[.int .u32 2139171, .int .i64 0]) ∧ Below w.heap.size w w') :=
    fun w => (encode_yes 18 (by decide) (by decide) 0 1 2 8 w (by decide))
  have D1 : Hid (∀ w, Calls Try.prog 57 #[.int .u32 5243027] w fun e w' => e = .returned (.tuple #[.agg #[.int .i64 19, .int .i64 1, .int .i64 0, .int .i64 0, .int .i64 5], .int .i64 0]) ∧ Below w.heap.size w w') :=
    fun w => (dec_hit 19 (by decide) (by decide) 5243027 (by decide) (by decide) (by decide) w)
  go_enter Try.func54, Try.ntmps54
  go_wp2_with (first | (go_at_call 52; (with_reducible refine (E1.out _).mono ?_); rintro e w1 ⟨rfl, hb1⟩) | (go_at_call 52; (with_reducible refine (E2.out _).mono ?_); rintro e w2 ⟨rfl, hb2⟩) | (go_at_call 57; (with_reducible refine (D1.out _).mono ?_); rintro e w3 ⟨rfl, hb3⟩))
  go_ret
  exact ⟨rfl, Below.alloc (hb1.trans ((hb2.mono hb1.size).trans (hb3.mono (Nat.le_trans hb1.size hb2.size)))) (Nat.le_trans hb1.size (Nat.le_trans hb2.size hb3.size)) _⟩

theorem InstEncodes_w (op rd rs1 rs2 imm : Int) (w : World) :
    Calls Try.prog 11 #[.agg #[.int .i64 op, .int .i64 rd, .int .i64 rs1, .int .i64 rs2, .int .i64 imm]] w fun e w' => e = .returned (.bool true) ∧ Below w.heap.size w w' := by
  cases hr : rightB op rd rs1 rs2 imm
  · skip
    have E := Lib.hid (fun w => encode_no op rd rs1 rs2 imm w hr)
    have G := Lib.hid (fun w => rencode_no op rd rs1 rs2 imm w hr)
    have hr := Lib.hid hr
    go_enter Try.func11, Try.ntmps11
    go_wp2_with (first | (go_at_call 52; refine (E.out _).mono ?_; rintro e w1 ⟨rfl, hb1⟩; obtain ⟨hc1, hf1⟩ := bcell hb1; have hz1 := hb1.size; (try simp at hz1); have hy1 : w.heap.size < w1.heap.size := (by omega)) | (go_at_call 53; refine (G.out _).mono ?_; rintro e w2 ⟨rfl, hb2⟩; obtain ⟨hc2, hf2⟩ := bcell hb2; have hz2 := hb2.size; (try simp at hz2); have hy2 : w.heap.size < w2.heap.size := (by omega)))
    refine wp_region_plus (by kernel_rfl) (by kernel_rfl) ?_
    repeat (go_big_quiet_step ((first | (go_at_call 54; (with_reducible exact plus_of (awake2_c _))) | (go_at_call 55; (with_reducible exact plus_of (iright_c _ _ _ _ _ _))) | (go_at_call 56; (with_reducible exact plus_of (rright_c' _ _ _ _ _ _))))))
    refine wpQuiet_nil ?_
    rintro w3 ⟨x, rfl⟩
    go_wp2
    go_ret
    refine ⟨rfl, ?_⟩
    exact (((Below.alloc (Below.refl _ _) (by simp) _).trans (hb1.mono (by simp))).trans (hb2.mono (by omega))).trans ((plus_below _ x).mono (by omega))
  · skip
    have hR : RightP op rd rs1 rs2 imm := of_decide_eq_true hr
    have hop : 1 ≤ op ∧ op < 46 := by
      have h0 := hR.form
      by_cases h : 0 ≤ op ∧ op < 46
      · refine ⟨?_, h.2⟩
        by_cases h1 : op = 0
        · subst h1; exact absurd rfl h0
        · omega
      · exact absurd (fmI_out op (by omega)) h0
    obtain ⟨k, rfl⟩ := Int.eq_ofNat_of_zero_le (show 0 ≤ op by omega)
    have E := Lib.hid (fun w => encode_yes k (by omega) (by omega) rd rs1 rs2 imm w hr)
    have G := Lib.hid (fun w => rencode_yes k (by omega) (by omega) rd rs1 rs2 imm w hr)
    clear hR hop
    have hr := Lib.hid hr
    go_enter Try.func11, Try.ntmps11
    go_wp2_with (first | (go_at_call 52; refine (E.out _).mono ?_; rintro e w1 ⟨rfl, hb1⟩; obtain ⟨hc1, hf1⟩ := bcell hb1; have hz1 := hb1.size; (try simp at hz1); have hy1 : w.heap.size < w1.heap.size := (by omega)) | (go_at_call 53; refine (G.out _).mono ?_; rintro e w2 ⟨rfl, hb2⟩; obtain ⟨hc2, hf2⟩ := bcell hb2; have hz2 := hb2.size; (try simp at hz2); have hy2 : w.heap.size < w2.heap.size := (by omega)))
    refine wp_region_plus (by kernel_rfl) (by kernel_rfl) ?_
    repeat (go_big_quiet_step ((first | (go_at_call 54; (with_reducible exact plus_of (awake2_c _))) | (go_at_call 55; (with_reducible exact plus_of (iright_c _ _ _ _ _ _))) | (go_at_call 56; (with_reducible exact plus_of (rright_c' _ _ _ _ _ _))))))
    refine wpQuiet_nil ?_
    rintro w3 ⟨x, rfl⟩
    go_wp2
    go_ret
    refine ⟨rfl, ?_⟩
    exact (((Below.alloc (Below.refl _ _) (by simp) _).trans (hb1.mono (by simp))).trans (hb2.mono (by omega))).trans ((plus_below _ x).mono (by omega))
theorem dec_or (a : Int) : (∃ k : Nat, 1 ≤ k ∧ k < 46 ∧ fitsP k a) ∨ (∀ k : Nat, 1 ≤ k → k < 46 → ¬ fitsP k a) := by
  by_cases h : ∃ k : Nat, 1 ≤ k ∧ k < 46 ∧ fitsP k a
  · exact .inl h
  · exact .inr fun k h1 h2 h3 => h ⟨k, h1, h2, h3⟩
theorem InstDecodes_w (a : Int) (w : World) (h : 0 ≤ a) (h' : a < 4294967296) :
    Calls Try.prog 12 #[.int .u32 a] w fun e w' => e = .returned (.bool true) ∧ Below w.heap.size w w' := by
  rcases dec_or a with ⟨k, h1, hk, hf⟩ | hn
  · have E := Lib.hid (fun w => dec_hit k h1 hk a h h' hf w)
    have G := Lib.hid (fun w => rdec_hit k h1 hk a h h' hf w)
    clear h1 hk hf
    go_enter Try.func12, Try.ntmps12
    go_wp2_with (first | (go_at_call 54; (with_reducible refine (awake2_c _).mono ?_); rintro e w5 ⟨rfl, hb5⟩; obtain ⟨hc5, hf5⟩ := bcell hb5; have hz5 := hb5.size; (try simp at hz5); have hx0 : w1.heap.size < w5.heap.size := (by omega); have hx1 : w2.heap.size < w5.heap.size := (by omega)) | (go_at_call 57; refine (E.out _).mono ?_; rintro e w1 ⟨rfl, hb1⟩; obtain ⟨hc1, hf1⟩ := bcell hb1; have hz1 := hb1.size; (try simp at hz1)) | (go_at_call 58; refine (G.out _).mono ?_; rintro e w2 ⟨rfl, hb2⟩; obtain ⟨hc2, hf2⟩ := bcell hb2; have hz2 := hb2.size; (try simp at hz2); have hy2 : w1.heap.size < w2.heap.size := (by omega)))
    go_ret
    refine ⟨rfl, ?_⟩
    simp at hb2 hb5
    exact ((Below.alloc hb1 hb1.size _).trans (hb2.mono (by omega))).trans ((Below.alloc (Below.refl _ _) (Nat.le_refl _) _).mono (by omega) |>.trans (hb5.mono (by omega)))
  · have E := Lib.hid (fun w => dec_miss a h h' hn w)
    have G := Lib.hid (fun w => rdec_miss a h h' hn w)
    clear hn
    go_enter Try.func12, Try.ntmps12
    go_wp2_with (first | (go_at_call 54; (with_reducible refine (awake2_c _).mono ?_); rintro e w5 ⟨rfl, hb5⟩; obtain ⟨hc5, hf5⟩ := bcell hb5; have hz5 := hb5.size; (try simp at hz5); have hx0 : w1.heap.size < w5.heap.size := (by omega); have hx1 : w2.heap.size < w5.heap.size := (by omega)) | (go_at_call 57; refine (E.out _).mono ?_; rintro e w1 ⟨rfl, hb1⟩; obtain ⟨hc1, hf1⟩ := bcell hb1; have hz1 := hb1.size; (try simp at hz1)) | (go_at_call 58; refine (G.out _).mono ?_; rintro e w2 ⟨rfl, hb2⟩; obtain ⟨hc2, hf2⟩ := bcell hb2; have hz2 := hb2.size; (try simp at hz2); have hy2 : w1.heap.size < w2.heap.size := (by omega)))
    go_ret
    refine ⟨rfl, ?_⟩
    simp at hb2 hb5
    exact ((Below.alloc hb1 hb1.size _).trans (hb2.mono (by omega))).trans ((Below.alloc (Below.refl _ _) (Nat.le_refl _) _).mono (by omega) |>.trans (hb5.mono (by omega)))
theorem InstBack_w (op rd rs1 rs2 imm : Int) (w : World) :
    Calls Try.prog 13 #[.agg #[.int .i64 op, .int .i64 rd, .int .i64 rs1, .int .i64 rs2, .int .i64 imm]] w fun e w' => e = .returned (.bool true) ∧ Below w.heap.size w w' := by
  cases hr : rightB op rd rs1 rs2 imm
  · have E := Lib.hid (fun w => encode_no op rd rs1 rs2 imm w hr)
    have hr := Lib.hid hr
    go_enter Try.func13, Try.ntmps13
    go_wp2_with (first | (go_at_call 54; (with_reducible refine (awake2_c _).mono ?_); rintro e w5 ⟨rfl, hb5⟩) | (go_at_call 52; refine (E.out _).mono ?_; rintro e w1 ⟨rfl, hb1⟩; obtain ⟨hc1, hf1⟩ := bcell hb1; have hz1 := hb1.size; (try simp at hz1); have hy1 : w.heap.size < w1.heap.size := (by omega)))
    go_ret
    refine ⟨rfl, ?_⟩
    simp at hb1 hb5
    exact ((Below.alloc (Below.refl _ _) (by simp) _).trans (hb1.mono (by simp))).trans (hb5.mono (by omega))
  · have hR : RightP op rd rs1 rs2 imm := of_decide_eq_true hr
    have hop : 1 ≤ op ∧ op < 46 := by
      have h0 := hR.form
      by_cases h : 0 ≤ op ∧ op < 46
      · refine ⟨?_, h.2⟩
        by_cases h1 : op = 0
        · subst h1; exact absurd rfl h0
        · omega
      · exact absurd (fmI_out op (by omega)) h0
    obtain ⟨k, rfl⟩ := Int.eq_ofNat_of_zero_le (show 0 ≤ op by omega)
    have h1 : 1 ≤ k := by omega
    have hk : k < 46 := by omega
    have E := Lib.hid (fun w => encode_yes k h1 hk rd rs1 rs2 imm w hr)
    obtain ⟨p1, p2, p3, p4, p5, p6, p7⟩ := word_parts k h1 hk rd rs1 rs2 imm hR _ rfl
    have D := fun w => dec_hit k h1 hk (wordP k rd rs1 rs2 imm) p1 p2 p3 w
    rw [p4, p5, p6, p7] at D
    have D := Lib.hid D
    clear p3 p4 p5 p6 p7 hR hop h1 hk
    have hr := Lib.hid hr
    go_enter Try.func13, Try.ntmps13
    go_wp2_with (first | (go_at_call 54; (with_reducible refine (awake2_c _).mono ?_); rintro e w5 ⟨rfl, hb5⟩; obtain ⟨hc5, hf5⟩ := bcell hb5; have hz5 := hb5.size; (try simp at hz5); have hx0 : w.heap.size < w5.heap.size := (by omega); have hx1 : w2.heap.size < w5.heap.size := (by omega)) | (go_at_call 52; refine (E.out _).mono ?_; rintro e w1 ⟨rfl, hb1⟩; obtain ⟨hc1, hf1⟩ := bcell hb1; have hz1 := hb1.size; (try simp at hz1); have hy1 : w.heap.size < w1.heap.size := (by omega)) | (go_at_call 57; refine (D.out _).mono ?_; rintro e w2 ⟨rfl, hb2⟩; obtain ⟨hc2, hf2⟩ := bcell hb2; have hz2 := hb2.size; (try simp at hz2); have hy2 : w.heap.size < w2.heap.size := (by omega)))
    go_ret
    refine ⟨rfl, ?_⟩
    simp at hb1 hb2 hb5
    exact (((((Below.alloc (Below.refl _ _) (by simp) _).trans (hb1.mono (by simp))).trans (hb2.mono (by omega)))).trans ((Below.alloc (Below.refl _ _) (Nat.le_refl _) _).mono (by omega))).trans (hb5.mono (by omega))
theorem InstOnce_w (a : Int) (w : World) (h : 0 ≤ a) (h' : a < 4294967296) :
    Calls Try.prog 14 #[.int .u32 a] w fun e w' => e = .returned (.bool true) ∧ Below w.heap.size w w' := by
  rcases dec_or a with ⟨k, h1, hk, hf⟩ | hn
  · have D := Lib.hid (fun w => dec_hit k h1 hk a h h' hf w)
    have hw := (fits_word k h1 hk a h h').1 hf
    have hcr := cand_right k h1 hk a h h'
    have hrb : rightB (k : Int) (rdW k a) (rs1W k a) (rs2W k a) (immF (fm k) a) = true := decide_eq_true hcr
    have E := fun w => encode_yes k h1 hk _ _ _ _ w hrb
    rw [hw] at E
    have E := Lib.hid E
    have RR : Hid (∀ w, Calls Try.prog 55 #[.agg #[.int .i64 (k : Int), .int .i64 (rdW k a), .int .i64 (rs1W k a), .int .i64 (rs2W k a), .int .i64 (immF (fm k) a)]] w fun e w' => e = .returned (.bool true) ∧ Below w.heap.size w w') :=
      fun w => (iright_c _ _ _ _ _ w).mono fun _ _ h => ⟨h.1.trans (congrArg (fun x => Ending.returned (.bool x)) hrb), h.2⟩
    clear h1 hk hf hw hcr hrb
    go_enter Try.func14, Try.ntmps14
    go_wp2_with (first | (go_at_call 54; (with_reducible refine (awake2_c _).mono ?_); rintro e w5 ⟨rfl, hb5⟩; obtain ⟨hc5, hf5⟩ := bcell hb5; have hz5 := hb5.size; (try simp at hz5); have hx0 : w1.heap.size < w5.heap.size := (by omega)) | (go_at_call 55; refine (RR.out _).mono ?_; rintro e w6 ⟨rfl, hb6⟩) | (go_at_call 57; refine (D.out _).mono ?_; rintro e w1 ⟨rfl, hb1⟩; obtain ⟨hc1, hf1⟩ := bcell hb1; have hz1 := hb1.size; (try simp at hz1)) | (go_at_call 52; refine (E.out _).mono ?_; rintro e w2 ⟨rfl, hb2⟩; obtain ⟨hc2, hf2⟩ := bcell hb2; have hz2 := hb2.size; (try simp at hz2); have hy2 : w1.heap.size < w2.heap.size := (by omega)))
    go_ret
    refine ⟨rfl, ?_⟩
    simp at hb2
    exact (((Below.alloc hb1 hb1.size _).trans (hb2.mono (by omega))).trans (hb5.mono (by omega))).trans (hb6.mono (by omega))
  · have D := Lib.hid (fun w => dec_miss a h h' hn w)
    clear hn
    go_enter Try.func14, Try.ntmps14
    go_wp2_with (first | (go_at_call 54; (with_reducible refine (awake2_c _).mono ?_); rintro e w5 ⟨rfl, hb5⟩; obtain ⟨hc5, hf5⟩ := bcell hb5; have hz5 := hb5.size; (try simp at hz5); have hx0 : w1.heap.size < w5.heap.size := (by omega)) | (go_at_call 57; refine (D.out _).mono ?_; rintro e w1 ⟨rfl, hb1⟩; obtain ⟨hc1, hf1⟩ := bcell hb1; have hz1 := hb1.size; (try simp at hz1)))
    go_ret
    refine ⟨rfl, ?_⟩
    simp at hb5
    exact (Below.alloc hb1 hb1.size _).trans (hb5.mono (by omega))
end Go.Proofs.Ytkfgfihmcjpgeaa
