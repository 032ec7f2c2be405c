/-
  The contract of Encode of inst: the word of an instruction, or the error.
  Conditions: the numbers of an instruction lie within 64 bits.
-/
import Derived.Test.YtppmjdljnacpgaaI6
set_option linter.all false
namespace Go.Proofs.Ytppmjdljnacpgaa
open Go.ChangeShapes Go.WideShapes Go.ChangeAt Go.RowKit
set_option maxHeartbeats 400000
set_option linter.unusedVariables false

/-- bits of words joined, in any order -/
theorem or_u32 (x y : Nat) (hx : x < 4294967296) (hy : y < 4294967296) : bits .or .u32 (x : Int) (y : Int) = ((x ||| y : Nat) : Int) :=
  (bits_nat .u32 32 (by decide) wraps_u32 x y (by omega) (by omega)).2
theorem or_u32_lt (x y : Nat) (hx : x < 4294967296) (hy : y < 4294967296) : x ||| y < 4294967296 := Nat.or_lt_two_pow (n := 32) hx hy
theorem or_add (x y i : Nat) (hx : x < 2 ^ i) (hy : y % 2 ^ i = 0) : x ||| y = x + y := by
  have e2 : y = 2 ^ i * (y / 2 ^ i) := by have := Nat.div_add_mod y (2 ^ i); omega
  rw [Nat.or_comm]
  rw [show y ||| x = (2 ^ i * (y / 2 ^ i)) ||| x from by rw [← e2]]
  rw [← Nat.two_pow_add_eq_or_of_lt hx, ← e2]; omega
/-- the six fields of a word: three joined with three -/
theorem six_fields (c r t a b s : Int) (hc : 0 ≤ c ∧ c < 128) (hr : 0 ≤ r ∧ r < 32) (ht : 0 ≤ t ∧ t < 8) (ha : 0 ≤ a ∧ a < 32) (hb : 0 ≤ b ∧ b < 32) (hs : 0 ≤ s ∧ s < 128) :
    bits .or .u32 c (t * 4096) = c + t * 4096 ∧ bits .or .u32 (c + t * 4096) (s * 33554432) = c + t * 4096 + s * 33554432 ∧
    bits .or .u32 (r * 128) (a * 32768) = r * 128 + a * 32768 ∧ bits .or .u32 (r * 128 + a * 32768) (b * 1048576) = r * 128 + a * 32768 + b * 1048576 ∧
    bits .or .u32 (c + t * 4096 + s * 33554432) (r * 128 + a * 32768 + b * 1048576) = c + r * 128 + t * 4096 + a * 32768 + b * 1048576 + s * 33554432 := by
  refine ⟨or_mid _ _ 12 15 (by omega) (by omega) (by omega) (by omega) (by omega) (by omega) (by omega) (by omega),
    or_mid _ _ 25 32 (by omega) (by omega) (by omega) (by omega) (by omega) (by omega) (by omega) (by omega),
    or_mid _ _ 15 20 (by omega) (by omega) (by omega) (by omega) (by omega) (by omega) (by omega) (by omega),
    or_mid _ _ 20 25 (by omega) (by omega) (by omega) (by omega) (by omega) (by omega) (by omega) (by omega), ?_⟩
  obtain ⟨c, rfl⟩ := Int.eq_ofNat_of_zero_le hc.1
  obtain ⟨r, rfl⟩ := Int.eq_ofNat_of_zero_le hr.1
  obtain ⟨t, rfl⟩ := Int.eq_ofNat_of_zero_le ht.1
  obtain ⟨a, rfl⟩ := Int.eq_ofNat_of_zero_le ha.1
  obtain ⟨b, rfl⟩ := Int.eq_ofNat_of_zero_le hb.1
  obtain ⟨s, rfl⟩ := Int.eq_ofNat_of_zero_le hs.1
  have e1 : c + t * 4096 + s * 33554432 = (c ||| t * 4096) ||| s * 33554432 := by
    rw [or_add c (t * 4096) 12 (by omega) (by omega), or_add (c + t * 4096) (s * 33554432) 25 (by omega) (by omega)]
  have e2 : r * 128 + a * 32768 + b * 1048576 = (r * 128 ||| a * 32768) ||| b * 1048576 := by
    rw [or_add (r * 128) (a * 32768) 15 (by omega) (by omega), or_add (r * 128 + a * 32768) (b * 1048576) 20 (by omega) (by omega)]
  have e3 : c + r * 128 + t * 4096 + a * 32768 + b * 1048576 + s * 33554432 = ((((c ||| r * 128) ||| t * 4096) ||| a * 32768) ||| b * 1048576) ||| s * 33554432 := by
    rw [or_add c (r * 128) 7 (by omega) (by omega), or_add _ (t * 4096) 12 (by omega) (by omega), or_add _ (a * 32768) 15 (by omega) (by omega), or_add _ (b * 1048576) 20 (by omega) (by omega), or_add _ (s * 33554432) 25 (by omega) (by omega)]
  have e4 := or_u32 (c + t * 4096 + s * 33554432) (r * 128 + a * 32768 + b * 1048576) (by omega) (by omega)
  have e5 : (c + t * 4096 + s * 33554432) ||| (r * 128 + a * 32768 + b * 1048576) = c + r * 128 + t * 4096 + a * 32768 + b * 1048576 + s * 33554432 := by
    rw [e1, e2, e3]
    have lc : ∀ x y z : Nat, x ||| (y ||| z) = y ||| (x ||| z) := fun x y z => by rw [← Nat.or_assoc, Nat.or_comm x y, Nat.or_assoc]
    simp only [Nat.or_assoc, Nat.or_comm, lc]
  rw [e5] at e4
  simpa using e4
/-- two pieces joined to a word between and behind its fields -/
theorem or_two (x l u : Int) (hx : 0 ≤ x ∧ x < 33554432) (hx' : x % 4096 < 128) (hl : 0 ≤ l ∧ l < 32) (hu : 0 ≤ u ∧ u < 128) : bits .or .u32 x (u * 33554432 + l * 128) = x + (u * 33554432 + l * 128) := by
  obtain ⟨x, rfl⟩ := Int.eq_ofNat_of_zero_le hx.1
  obtain ⟨l, rfl⟩ := Int.eq_ofNat_of_zero_le hl.1
  obtain ⟨u, rfl⟩ := Int.eq_ofNat_of_zero_le hu.1
  have e1 : bits .or .u32 (x : Int) ((l * 128 : Nat) : Int) = x + (l * 128 : Nat) := or_mid _ _ 7 12 (by omega) (by omega) (by omega) (by omega) (by omega) (by omega) (by omega) (by omega)
  rw [or_u32 _ _ (by omega) (by omega)] at e1
  have e2 : x ||| l * 128 = x + l * 128 := by omega
  have e3 : u * 33554432 + l * 128 = l * 128 ||| u * 33554432 := by rw [or_add _ _ 25 (by omega) (by omega)]; omega
  have e4 := or_u32 x (u * 33554432 + l * 128) (by omega) (by omega)
  have e5 : x ||| (u * 33554432 + l * 128) = x + l * 128 + u * 33554432 := by
    rw [e3, ← Nat.or_assoc, e2, or_add _ _ 25 (by omega) (by omega)]
  rw [e5] at e4
  have e6 : ((u * 33554432 + l * 128 : Nat) : Int) = (u : Int) * 33554432 + (l : Int) * 128 := by omega
  rw [e6] at e4
  rw [e4]; omega
/-- the fields and the number's bits -/
theorem or_spread (k : Nat) (h1 : 1 ≤ k) (hk : k < 46) (rd rs1 rs2 imm : Int) (hr : RightP (k : Int) rd rs1 rs2 imm) :
    bits .or .u32 (cd k + rd * 128 + th k * 4096 + rs1 * 32768 + rs2 * 1048576 + sv k * 33554432) (spreadF (fm k) (imm % 4294967296)) = wordP k rd rs1 rs2 imm := by
  have hf := forms k h1 hk
  have hb := bd_lt k hk
  have hs := sv_zero k hk
  have ht := th_zero k hk
  obtain ⟨_, r1, r2, r3, r4⟩ := hr
  rw [fmI_nat k hk] at r1 r2 r3 r4
  unfold RegP hasRd at r1
  unfold RegP hasRs1 at r2
  unfold RegP hasRs2 at r3
  unfold ReachP at r4
  unfold wordP
  rcases hf with hf | hf | hf | hf | hf | hf | hf <;> rw [hf] at hs ht r1 r2 r3 r4 ⊢ <;> simp at hs ht r1 r2 r3 r4 <;> simp only [spreadF, Int.reduceEq, if_true, if_false]
  · exact or_mid _ _ 32 32 (by omega) (by omega) (by omega) (by omega) (by omega) (by omega) (by omega) (by omega)
  · exact or_mid _ _ 20 32 (by omega) (by omega) (by omega) (by omega) (by omega) (by omega) (by omega) (by omega)
  · exact or_mid _ _ 20 25 (by omega) (by omega) (by omega) (by omega) (by omega) (by omega) (by omega) (by omega)
  · exact or_mid _ _ 12 32 (by omega) (by omega) (by omega) (by omega) (by omega) (by omega) (by omega) (by omega)
  · exact or_mid _ _ 12 32 (by omega) (by omega) (by omega) (by omega) (by omega) (by omega) (by omega) (by omega)
  · exact or_two _ _ _ (by omega) (by omega) (by omega) (by omega)
  · have e : imm % 4294967296 / 4096 % 2 * 2147483648 + imm % 4294967296 / 32 % 64 * 33554432 + imm % 4294967296 / 2 % 16 * 256 + imm % 4294967296 / 2048 % 2 * 128 = (imm % 4294967296 / 4096 % 2 * 64 + imm % 4294967296 / 32 % 64) * 33554432 + (imm % 4294967296 / 2 % 16 * 2 + imm % 4294967296 / 2048 % 2) * 128 := by omega
    rw [e]
    exact or_two _ _ _ (by omega) (by omega) (by omega) (by omega)

theorem encode_no (op rd rs1 rs2 imm : Int) (w : World) (hr : rightB op rd rs1 rs2 imm = false) :
    Calls Try.prog 8 #[.agg #[.int .i64 op, .int .i64 rd, .int .i64 rs1, .int .i64 rs2, .int .i64 imm]] w fun e w' => e = .returned (.tuple #[.int .u32 0, .int .i64 1]) ∧ Below w.heap.size w w' := by
  go_enter Try.func8, Try.ntmps8
  go_wp2_with (go_at_call 11; refine (iright_c _ _ _ _ _ _).mono ?_; rintro e w1 ⟨rfl, hb1⟩; obtain ⟨hc1, hf1⟩ := bcell hb1; have hz1 := hb1.size; (try simp at hz1); have hy1 : w.heap.size < w1.heap.size := by omega)
  go_ret2
  refine ⟨rfl, ?_⟩
  simp at hb1
  exact Below.trans (Below.alloc (Below.refl _ _) (by simp) _) (hb1.mono (by simp))
theorem encode_yes (k : Nat) (h1 : 1 ≤ k) (hk : k < 46) (rd rs1 rs2 imm : Int) (w : World) (hr : rightB (k : Int) rd rs1 rs2 imm = true) :
    Calls Try.prog 8 #[.agg #[.int .i64 (k : Int), .int .i64 rd, .int .i64 rs1, .int .i64 rs2, .int .i64 imm]] w fun e w' => e = .returned (.tuple #[.int .u32 (wordP k rd rs1 rs2 imm), .int .i64 0]) ∧ Below w.heap.size w w' := by
  have hR : RightP (k : Int) rd rs1 rs2 imm := by unfold rightB at hr; exact of_decide_eq_true hr
  have hb := bd_lt k hk
  have b1 : 0 ≤ rd ∧ rd < 32 := by have := hR.rd; unfold RegP at this; split at this <;> omega
  have b2 : 0 ≤ rs1 ∧ rs1 < 32 := by have := hR.rs1; unfold RegP at this; split at this <;> omega
  have b3 : 0 ≤ rs2 ∧ rs2 < 32 := by have := hR.rs2; unfold RegP at this; split at this <;> omega
  have b4 : -2147483648 ≤ imm ∧ imm < 2147483648 := by have := hR.imm; unfold ReachP at this; (repeat' split at this) <;> omega
  obtain ⟨e1, e2, e3, e4, e5⟩ := six_fields (cd k) rd (th k) rs1 rs2 (sv k) (by omega) b1 (by omega) b2 b3 (by omega)
  have e6 := or_spread k h1 hk rd rs1 rs2 imm hR
  have e6 := Lib.hid e6
  have hU : fm k = 85 → imm % 4096 = 0 := by
    intro hf
    have := hR.imm; rw [fmI_nat k hk] at this; unfold ReachP at this; rw [if_pos hf] at this; omega
  have hU := Lib.hid hU
  have hf := forms k h1 hk
  have hR := Lib.hid hR
  have OF : ∀ w, Calls Try.prog 25 #[.int .i64 (k : Int)] w fun e w' => e = .returned (.agg #[.string (nmB k), .int .u8 (fm k), .int .u32 (cd k), .int .u32 (th k), .int .u32 (sv k)]) ∧ Below w.heap.size w w' := fun w => of_in k hk w
  have NUM : Hid (∀ w, Calls Try.prog 26 #[.int .u8 (fm k), .int .u32 (imm % 4294967296)] w fun e w' => e = .returned (.int .u32 (spreadF (fm k) (imm % 4294967296))) ∧ ∃ n, w.drewN n = w') := by
    intro w
    rcases hf with hf | hf | hf | hf | hf | hf | hf <;> rw [hf]
    · exact number_R _ _ (by omega) (by omega)
    · exact number_I _ _ (by omega) (by omega)
    · exact number_H _ _ (by omega) (by omega)
    · exact number_U _ _ (by omega) (by omega) (by have := hU.out hf; omega)
    · exact number_J _ _ (by omega) (by omega)
    · exact number_S _ _ (by omega) (by omega)
    · exact number_B _ _ (by omega) (by omega)
  clear hf
  have OF := Lib.hid OF
  go_enter Try.func8, Try.ntmps8
  go_wp2_with (first | (go_at_call 11; refine (iright_c _ _ _ _ _ _).mono ?_; rintro e w1 ⟨rfl, hb1⟩; obtain ⟨hc1, hf1⟩ := bcell hb1; have hz1 := hb1.size; (try simp at hz1); have hy1 : w.heap.size < w1.heap.size := by omega) | (go_at_call 25; refine (OF.out _).mono ?_; rintro e w2 ⟨rfl, hb2⟩; obtain ⟨hc2, hf2⟩ := bcell hb2; have hz2 := hb2.size; (try simp at hz2); have hy2 : w.heap.size < w2.heap.size := by omega) | (go_at_call 26; refine (NUM.out _).mono ?_; rintro e w' ⟨rfl, _, rfl⟩))
  go_ret2
  refine ⟨rfl, ?_⟩
  simp at hb1 hb2
  refine below_drewN' (Below.alloc (Below.trans (Below.alloc (Below.refl _ _) (by simp) _) ((hb1.mono (by simp)).trans (hb2.mono (by omega)))) (by omega) _) _

end Go.Proofs.Ytppmjdljnacpgaa
