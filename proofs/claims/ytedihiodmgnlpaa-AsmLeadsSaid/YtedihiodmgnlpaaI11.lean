/-
  Contracts of the reference's Word, Encode and Decode.
  Conditions: the numbers of an instruction lie within 64 bits, words between 0 and 2^32 - 1.
-/
import Derived.Test.YtedihiodmgnlpaaI10
import Derived.Test.YtedihiodmgnlpaaI8
set_option linter.all false
namespace Go.Proofs.Ytedihiodmgnlpaa
open Go.ChangeShapes Go.WideShapes Go.ChangeAt Go.RowKit
set_option maxHeartbeats 1000000
set_option linter.unusedVariables false
set_option maxRecDepth 100000

attribute [local go_sem] pw_l0 pw_l1 pw_l2 pw_l3 pw_l4 pw_l5 pw_l6 pw_l7 pw_l8 pw_l9 pw_l10 pw_l11 pw_l12 pw_l13 pw_l14 pw_l15 pw_l16 pw_l17 pw_l18 pw_l19 pw_l20 pw_l21 pw_l22 pw_l23 pw_l24 pw_l25 pw_l26 pw_l27 pw_l28 pw_l29 pw_l30 pw_l31 pw_l32 alloc_drewN setCell_drewN
theorem rword_c (k : Nat) (h1 : 1 ≤ k) (hk : k < 46) (rd rs1 rs2 imm : Int) (w : World) (hr : rightB (k : Int) rd rs1 rs2 imm = true) :
    Calls Try.prog 48 #[.agg #[.int .i64 (k : Int), .int .i64 rd, .int .i64 rs1, .int .i64 rs2, .int .i64 imm]] w fun e w' => e = .returned (.int .u32 (wordP k rd rs1 rs2 imm)) ∧ Below w.heap.size w w' := by
  have hR : RightP (k : Int) rd rs1 rs2 imm := by unfold rightB at hr; exact of_decide_eq_true hr
  have hb := bd_lt k hk
  have b1 : 0 ≤ rd ∧ rd < 32 := by have := hR.rd; unfold RegP at this; split at this <;> omega
  have b2 : 0 ≤ rs1 ∧ rs1 < 32 := by have := hR.rs1; unfold RegP at this; split at this <;> omega
  have b3 : 0 ≤ rs2 ∧ rs2 < 32 := by have := hR.rs2; unfold RegP at this; split at this <;> omega
  have b4 : -2147483648 ≤ imm ∧ imm < 2147483648 := by have := hR.imm; unfold ReachP at this; (repeat' split at this) <;> omega
  obtain ⟨w0, w1, _⟩ := word_parts k h1 hk rd rs1 rs2 imm hR _ rfl
  have hw : Hid (wordP k rd rs1 rs2 imm = cd k + rd * 128 + th k * 4096 + rs1 * 32768 + rs2 * 1048576 + sv k * 33554432 + spreadF (fm k) (imm % 4294967296)) := rfl
  have b5 : 0 ≤ spreadF (fm k) (imm % 4294967296) ∧ spreadF (fm k) (imm % 4294967296) < 4294967296 := by
    unfold spreadF; (repeat' split) <;> omega
  have hf := forms k h1 hk
  have SP : Hid (∀ w, Calls Try.prog 91 #[.int .u8 (fm k), .int .i64 imm] w fun e w' => e = .returned (.int .i64 (spreadF (fm k) (imm % 4294967296))) ∧ ∃ n, w.drewN n = w') := by
    intro w
    have hH : fm k = 72 → 0 ≤ imm ∧ imm < 32 := by
      intro hf
      have := hR.imm; rw [fmI_nat k hk] at this; unfold ReachP at this; rw [hf] at this; simp at this; exact this
    rcases hf with hf | hf | hf | hf | hf | hf | hf <;> rw [hf]
    · exact rspread_R _ _ (by omega) (by omega)
    · exact rspread_I _ _ (by omega) (by omega)
    · exact rspread_H _ _ (by omega) (by omega) (hH hf).1 (hH hf).2
    · exact rspread_U _ _ (by omega) (by omega)
    · exact rspread_J _ _ (by omega) (by omega)
    · exact rspread_S _ _ (by omega) (by omega)
    · exact rspread_B _ _ (by omega) (by omega)
  have hn := Lib.hid (fmI_nat k hk)
  have hR' := Lib.hid hR
  clear hR hf hr
  go_enter Try.func48, Try.ntmps48
  go_wp2_with (go_at_call 86; refine (rform_c _ _).mono ?_; rintro e w1 ⟨rfl, rfl⟩; rw [hn.out])
  refine wp_region_plus (by kernel_rfl) (by kernel_rfl) ?_
  repeat (go_big_quiet_step ((first | (go_at_call 87; (with_reducible exact plus_of_same (rcode_c k h1 hk _))) | (go_at_call 88; (with_reducible exact plus_of_same (rtwo_c _ _ (by omega) (by omega)))) | (go_at_call 89; (with_reducible exact plus_of (rthird_c k hk _))) | (go_at_call 90; (with_reducible exact plus_of_same (rseventh_c k h1 hk _))) | (go_at_call 91; (with_reducible exact plus_of_drew (SP.out _))))))
  refine wpQuiet_nil ?_
  rintro w2 ⟨x, rfl⟩
  go_wp2
  go_ret
  refine ⟨ret_int (by have := hw.out; omega), ?_⟩
  exact (Below.alloc (Below.refl _ _) (by simp) _).trans ((plus_below _ x).mono (by simp))
end Go.Proofs.Ytedihiodmgnlpaa
