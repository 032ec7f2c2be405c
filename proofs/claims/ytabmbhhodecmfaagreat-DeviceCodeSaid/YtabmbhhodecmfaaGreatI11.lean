/-
  Contracts of the reference's Word, Encode and Decode.
  Conditions: the numbers of an instruction lie within 64 bits, words between 0 and 2^32 - 1.
-/
import Derived.Test.YtabmbhhodecmfaaGreatI10
import Derived.Test.YtabmbhhodecmfaaGreatI8
set_option linter.all false
namespace Go.Proofs.YtabmbhhodecmfaaGreat
open Go.ChangeShapes Go.WideShapes Go.ChangeAt Go.RowKit
set_option maxHeartbeats 1000000
set_option linter.unusedVariables false
set_option maxRecDepth 100000

attribute [local go_sem] pw_l0 pw_l1 pw_l2 pw_l3 pw_l4 pw_l5 pw_l6 pw_l7 pw_l8 pw_l9 pw_l10 pw_l11 pw_l12 pw_l13 pw_l14 pw_l15 pw_l16 pw_l17 pw_l18 pw_l19 pw_l20 pw_l21 pw_l22 pw_l23 pw_l24 pw_l25 pw_l26 pw_l27 pw_l28 pw_l29 pw_l30 pw_l31 pw_l32 alloc_drewN setCell_drewN
theorem rword_c (k : Nat) (h1 : 1 ≤ k) (hk : k < 46) (rd rs1 rs2 imm : Int) (w : World) (hr : rightB (k : Int) rd rs1 rs2 imm = true) :
    Calls Tryz.prog 42 #[.agg #[.int .i64 (k : Int), .int .i64 rd, .int .i64 rs1, .int .i64 rs2, .int .i64 imm]] w fun e w' => e = .returned (.int .u32 (wordP k rd rs1 rs2 imm)) ∧ Below w.heap.size w w' := by
  have hR : RightP (k : Int) rd rs1 rs2 imm := by unfold rightB at hr; exact of_decide_eq_true hr
  have hb := bd_lt k hk
  have b1 : 0 ≤ rd ∧ rd < 32 := by have := hR.rd; unfold RegP at this; split at this <;> omega
  have b2 : 0 ≤ rs1 ∧ rs1 < 32 := by have := hR.rs1; unfold RegP at this; split at this <;> omega
  have b3 : 0 ≤ rs2 ∧ rs2 < 32 := by have := hR.rs2; unfold RegP at this; split at this <;> omega
  have b4 : -2147483648 ≤ imm ∧ imm < 2147483648 := by have := hR.imm; unfold ReachP at this; (repeat' split at this) <;> omega
  obtain ⟨w0, w1, _⟩ := word_parts k h1 hk rd rs1 rs2 imm hR _ rfl
  have hw : Hid (wordP k rd rs1 rs2 imm = cd k + rd * 128 + th k * 4096 + rs1 * 32768 + rs2 * 1048576 + sv k * 33554432 + spreadF (fm k) (imm % 4294967296)) := rfl
  have b5 : 0 ≤ spreadF (fm k) (imm % 4294967296) ∧ spreadF (fm k) (imm % 4294967296) < 4294967296 := by
    unfold spreadF; (repeat' split) <;> omega
  have hf := forms k h1 hk
  have SP : Hid (∀ w, Calls Tryz.prog 74 #[.int .u8 (fm k), .int .i64 imm] w fun e w' => e = .returned (.int .i64 (spreadF (fm k) (imm % 4294967296))) ∧ ∃ n, w.drewN n = w') := by
    intro w
    have hH : fm k = 72 → 0 ≤ imm ∧ imm < 32 := by
      intro hf
      have := hR.imm; rw [fmI_nat k hk] at this; unfold ReachP at this; rw [hf] at this; simp at this; exact this
    rcases hf with hf | hf | hf | hf | hf | hf | hf <;> rw [hf]
    · exact rspread_R _ _ (by omega) (by omega)
    · exact rspread_I _ _ (by omega) (by omega)
    · exact rspread_H _ _ (by omega) (by omega) (hH hf).1 (hH hf).2
    · exact rspread_U _ _ (by omega) (by omega)
    · exact rspread_J _ _ (by omega) (by omega)
    · exact rspread_S _ _ (by omega) (by omega)
    · exact rspread_B _ _ (by omega) (by omega)
  have hn := Lib.hid (fmI_nat k hk)
  have hR' := Lib.hid hR
  clear hR hf hr
  go_enter Tryz.func42, Tryz.ntmps42
  go_wp2_with (go_at_call 37; refine (rform_c _ _).mono ?_; rintro e w1 ⟨rfl, rfl⟩; rw [hn.out])
  refine wp_region_plus (by kernel_rfl) (by kernel_rfl) ?_
  repeat (go_big_quiet_step ((first | (go_at_call 71; (with_reducible exact plus_of_same (rcode_c k h1 hk _))) | (go_at_call 68; (with_reducible exact plus_of_same (rtwo_c _ _ (by omega) (by omega)))) | (go_at_call 72; (with_reducible exact plus_of (rthird_c k hk _))) | (go_at_call 73; (with_reducible exact plus_of_same (rseventh_c k h1 hk _))) | (go_at_call 74; (with_reducible exact plus_of_drew (SP.out _))))))
  refine wpQuiet_nil ?_
  rintro w2 ⟨x, rfl⟩
  go_wp2
  go_ret
  refine ⟨ret_int (by have := hw.out; omega), ?_⟩
  exact (Below.alloc (Below.refl _ _) (by simp) _).trans ((plus_below _ x).mono (by simp))
set_option maxHeartbeats 8000000 in
theorem rdecode_c (a : Int) (w : World) (h : 0 ≤ a) (h' : a < 4294967296) :
    Calls Tryz.prog 30 #[.int .u32 a] w fun e w' => DecPost a e ∧ Below w.heap.size w w' := by
  go_enter Tryz.func30, Tryz.ntmps30
  go_wp2
  have hW : ∃ W0 : World, W0 = w.alloc (.cells #[.int .i64 0, .int .i64 0, .int .i64 0, .int .i64 0, .int .i64 0] 68) := ⟨_, rfl⟩
  obtain ⟨W0, hW0⟩ := hW
  rw [← hW0]
  have hS : Hid (W0.heap.size = w.heap.size + 1) := by show _ = _; rw [hW0]; simp
  have hB : Hid (Below w.heap.size w W0) := by show Below _ _ _; rw [hW0]; exact Below.alloc (Below.refl _ _) (by simp) _
  have hR : Hid (W0.heap[w.heap.size]? = some (.cells #[.int .i64 0, .int .i64 0, .int .i64 0, .int .i64 0, .int .i64 0] 68 (0, 0))) := by
    show _ = _
    rw [hW0, heap_alloc, if_pos rfl]
  clear hW0
  go_loopw [5] (fun op wr => ∃ k : Nat, 1 ≤ k ∧ k ≤ 46 ∧ op = .int .i64 k ∧ Hid (∀ j : Nat, 1 ≤ j → j < k → ¬ fitsP j a) ∧ Below (w.heap.size + 1) W0 wr) (fun op _ => 46 - (intOf op).toNat)
  case atStart => exact ⟨1, by omega, by omega, rfl, fun j h1 h2 => by omega, Below.refl _ _⟩
  case round =>
    obtain ⟨k, hk1, hk2, rfl, hno, hbw⟩ := hrel
    have hzr : w.heap.size + 1 ≤ wr.heap.size := by have h1 := hbw.size; have h2 := hS.out; omega
    have hzr0 : w.heap.size < wr.heap.size := by omega
    have hrw : wr.heap[w.heap.size]? = some (.cells #[.int .i64 0, .int .i64 0, .int .i64 0, .int .i64 0, .int .i64 0] 68 (0, 0)) := by rw [hbw.block _ (by omega)]; exact hR.out
    have r0 : wr.cell? ⟨w.heap.size, 0, none⟩ = some (.int .i64 0) := by rw [cell_of_heap hrw]; rfl
    have r1 : wr.cell? ⟨w.heap.size, 1, none⟩ = some (.int .i64 0) := by rw [cell_of_heap hrw]; rfl
    have r2 : wr.cell? ⟨w.heap.size, 2, none⟩ = some (.int .i64 0) := by rw [cell_of_heap hrw]; rfl
    have r3 : wr.cell? ⟨w.heap.size, 3, none⟩ = some (.int .i64 0) := by rw [cell_of_heap hrw]; rfl
    have r4 : wr.cell? ⟨w.heap.size, 4, none⟩ = some (.int .i64 0) := by rw [cell_of_heap hrw]; rfl
    have rf : ∀ o, wr.frozen? ⟨w.heap.size, o, none⟩ = false := fun o => frozen_of_heap hrw o
    clear hrw
    by_cases hlt : k < 46
    · have hn := Lib.hid (fmI_nat k hlt)
      have hcr := cand_right k hk1 hlt a h h'
      have hfw := fits_word k hk1 hlt a h h'
      have hlh := Lib.hid hlt
      rcases forms k hk1 hlt with hf | hf | hf | hf | hf | hf | hf
      · have hcr : RightP (k : Int) (a / 128 % 32) (a / 32768 % 32) (a / 1048576 % 32) (immF 82 a) := by
          simpa [rdW, rs1W, rs2W, hf, hasRd, hasRs1, hasRs2] using hcr
        have hfw : fitsP k a ↔ wordP k (a / 128 % 32) (a / 32768 % 32) (a / 1048576 % 32) (immF 82 a) = a := by
          simpa [rdW, rs1W, rs2W, hf, hasRd, hasRs1, hasRs2] using hfw
        have hrb : rightB (k : Int) (a / 128 % 32) (a / 32768 % 32) (a / 1048576 % 32) (immF 82 a) = true := decide_eq_true hcr
        have WW := Lib.hid (fun w => rword_c k hk1 hlt _ _ _ _ w hrb)
        have RR : Hid (∀ w, Calls Tryz.prog 41 #[.agg #[.int .i64 (k : Int), .int .i64 (a / 128 % 32), .int .i64 (a / 32768 % 32), .int .i64 (a / 1048576 % 32), .int .i64 (immF 82 a)]] w fun e w' => e = .returned (.bool true) ∧ Below w.heap.size w w') :=
          fun w => (rright_c' _ _ _ _ _ w).mono fun _ _ h => ⟨h.1.trans (congrArg (fun x => Ending.returned (.bool x)) hrb), h.2⟩
        clear hcr hrb
        by_cases hfit : fitsP k a
        · have hq := hfw.1 hfit
          have hfit := Lib.hid hfit
          have hq' : (wordP k (a / 128 % 32) (a / 32768 % 32) (a / 1048576 % 32) (immF 82 a) == a) = true := by rw [hq]; exact beq_self_eq_true a
          clear hfw hq
          go_wp2_with (first | (go_at_call 37; refine (rform_c _ _).mono ?_; rintro e w' ⟨rfl, rfl⟩; rw [hn.out, hf]) | (go_at_call 38; refine (rgather_R _ _ (by omega) (by omega)).mono ?_; rintro e w' ⟨rfl, _, rfl⟩) | (go_at_call 39; (with_reducible refine (rhas_R1 _).mono ?_); rintro e w' ⟨rfl, rfl⟩) | (go_at_call 39; (with_reducible refine (rhas_R2 _).mono ?_); rintro e w' ⟨rfl, rfl⟩) | (go_at_call 39; (with_reducible refine (rhas_R3 _).mono ?_); rintro e w' ⟨rfl, rfl⟩) | ((go_at_call 40; (with_reducible refine (move_7_11_0p _ _ (by omega) (by omega)).mono ?_); rintro e w' ⟨rfl, _, rfl⟩)) | ((go_at_call 40; (with_reducible refine (move_15_19_0p _ _ (by omega) (by omega)).mono ?_); rintro e w' ⟨rfl, _, rfl⟩)) | ((go_at_call 40; (with_reducible refine (move_20_24_0p _ _ (by omega) (by omega)).mono ?_); rintro e w' ⟨rfl, _, rfl⟩)) | (go_at_call 41; refine (RR.out _).mono ?_; rintro e w1 ⟨rfl, hb1⟩; obtain ⟨hc1, hf1⟩ := bcell hb1; have hz1 := hb1.size; (try simp at hz1); have hy1 : w.heap.size < w1.heap.size := (by omega); have hy1' : wr.heap.size < w1.heap.size := (by omega)) | (go_at_call 42; refine (WW.out _).mono ?_; rintro e w2 ⟨rfl, hb2⟩; obtain ⟨hc2, hf2⟩ := bcell hb2; have hz2 := hb2.size; (try simp at hz2); have hy2 : w.heap.size < w2.heap.size := (by omega); have hy2' : wr.heap.size < w2.heap.size := (by omega)))
          have p0 : w2.cell? ⟨w.heap.size, 0, none⟩ = some (.int .i64 0) := by
            rw [hc2 _ _ (by omega), hc1 _ _ (by simp; omega)]
            simp only [World.cell?_drewN]
            rw [World.cell?_alloc_lt _ _ _ (by simp; omega)]
            exact r0
          have p1 : w2.cell? ⟨w.heap.size, 1, none⟩ = some (.int .i64 0) := by
            rw [hc2 _ _ (by omega), hc1 _ _ (by simp; omega)]
            simp only [World.cell?_drewN]
            rw [World.cell?_alloc_lt _ _ _ (by simp; omega)]
            exact r1
          have p2 : w2.cell? ⟨w.heap.size, 2, none⟩ = some (.int .i64 0) := by
            rw [hc2 _ _ (by omega), hc1 _ _ (by simp; omega)]
            simp only [World.cell?_drewN]
            rw [World.cell?_alloc_lt _ _ _ (by simp; omega)]
            exact r2
          have p3 : w2.cell? ⟨w.heap.size, 3, none⟩ = some (.int .i64 0) := by
            rw [hc2 _ _ (by omega), hc1 _ _ (by simp; omega)]
            simp only [World.cell?_drewN]
            rw [World.cell?_alloc_lt _ _ _ (by simp; omega)]
            exact r3
          have p4 : w2.cell? ⟨w.heap.size, 4, none⟩ = some (.int .i64 0) := by
            rw [hc2 _ _ (by omega), hc1 _ _ (by simp; omega)]
            simp only [World.cell?_drewN]
            rw [World.cell?_alloc_lt _ _ _ (by simp; omega)]
            exact r4
          refine bodyPost_ret (v := .tuple #[.agg #[.int .i64 (k : Int), .int .i64 (a / 128 % 32), .int .i64 (a / 32768 % 32), .int .i64 (a / 1048576 % 32), .int .i64 (immF 82 a)], .int .i64 0]) (by simp [results, Tryz.results30, go_sem, p0, p1, p2, p3, p4]) rfl ⟨Or.inl ⟨k, hk1, hlh.out, hfit.out, ?_⟩, ?_⟩
          · simp [instV, rdW, rs1W, rs2W, hasRd, hasRs1, hasRs2, hf]
          · exact below5' (((below_drewN' (Below.alloc (Below.trans hB.out (hbw.mono (by omega))) (by omega) _) _).trans (hb1.mono (by simp; omega))).trans (hb2.mono (by omega))) _ _ _ _ _
        · have hq : ¬ wordP k (a / 128 % 32) (a / 32768 % 32) (a / 1048576 % 32) (immF 82 a) = a := fun e => hfit (hfw.2 e)
          have hfit := Lib.hid hfit
          have hq' : (wordP k (a / 128 % 32) (a / 32768 % 32) (a / 1048576 % 32) (immF 82 a) == a) = false := by rw [beq_eq_false_iff_ne]; exact hq
          clear hfw hq
          go_wp2_with (first | (go_at_call 37; refine (rform_c _ _).mono ?_; rintro e w' ⟨rfl, rfl⟩; rw [hn.out, hf]) | (go_at_call 38; refine (rgather_R _ _ (by omega) (by omega)).mono ?_; rintro e w' ⟨rfl, _, rfl⟩) | (go_at_call 39; (with_reducible refine (rhas_R1 _).mono ?_); rintro e w' ⟨rfl, rfl⟩) | (go_at_call 39; (with_reducible refine (rhas_R2 _).mono ?_); rintro e w' ⟨rfl, rfl⟩) | (go_at_call 39; (with_reducible refine (rhas_R3 _).mono ?_); rintro e w' ⟨rfl, rfl⟩) | ((go_at_call 40; (with_reducible refine (move_7_11_0p _ _ (by omega) (by omega)).mono ?_); rintro e w' ⟨rfl, _, rfl⟩)) | ((go_at_call 40; (with_reducible refine (move_15_19_0p _ _ (by omega) (by omega)).mono ?_); rintro e w' ⟨rfl, _, rfl⟩)) | ((go_at_call 40; (with_reducible refine (move_20_24_0p _ _ (by omega) (by omega)).mono ?_); rintro e w' ⟨rfl, _, rfl⟩)) | (go_at_call 41; refine (RR.out _).mono ?_; rintro e w1 ⟨rfl, hb1⟩; obtain ⟨hc1, hf1⟩ := bcell hb1; have hz1 := hb1.size; (try simp at hz1); have hy1 : w.heap.size < w1.heap.size := (by omega); have hy1' : wr.heap.size < w1.heap.size := (by omega)) | (go_at_call 42; refine (WW.out _).mono ?_; rintro e w2 ⟨rfl, hb2⟩; obtain ⟨hc2, hf2⟩ := bcell hb2; have hz2 := hb2.size; (try simp at hz2); have hy2 : w.heap.size < w2.heap.size := (by omega); have hy2' : wr.heap.size < w2.heap.size := (by omega)))
          go_roundw
          case rel =>
            refine ⟨k + 1, by omega, by omega, by go_num, ?_, ?_⟩
            · intro j h1 h2
              by_cases hj : j = k
              · subst hj; exact hfit.out
              · exact hno.out j h1 (by omega)
            · exact ((below_drewN' (Below.alloc hbw (by omega) _) _).trans (hb1.mono (by simp; omega))).trans (hb2.mono (by omega))
          case measure => simp [intOf]; omega
      · have hcr : RightP (k : Int) (a / 128 % 32) (a / 32768 % 32) (0) (immF 73 a) := by
          simpa [rdW, rs1W, rs2W, hf, hasRd, hasRs1, hasRs2] using hcr
        have hfw : fitsP k a ↔ wordP k (a / 128 % 32) (a / 32768 % 32) (0) (immF 73 a) = a := by
          simpa [rdW, rs1W, rs2W, hf, hasRd, hasRs1, hasRs2] using hfw
        have hrb : rightB (k : Int) (a / 128 % 32) (a / 32768 % 32) (0) (immF 73 a) = true := decide_eq_true hcr
        have WW := Lib.hid (fun w => rword_c k hk1 hlt _ _ _ _ w hrb)
        have RR : Hid (∀ w, Calls Tryz.prog 41 #[.agg #[.int .i64 (k : Int), .int .i64 (a / 128 % 32), .int .i64 (a / 32768 % 32), .int .i64 (0), .int .i64 (immF 73 a)]] w fun e w' => e = .returned (.bool true) ∧ Below w.heap.size w w') :=
          fun w => (rright_c' _ _ _ _ _ w).mono fun _ _ h => ⟨h.1.trans (congrArg (fun x => Ending.returned (.bool x)) hrb), h.2⟩
        clear hcr hrb
        by_cases hfit : fitsP k a
        · have hq := hfw.1 hfit
          have hfit := Lib.hid hfit
          have hq' : (wordP k (a / 128 % 32) (a / 32768 % 32) (0) (immF 73 a) == a) = true := by rw [hq]; exact beq_self_eq_true a
          clear hfw hq
          go_wp2_with (first | (go_at_call 37; refine (rform_c _ _).mono ?_; rintro e w' ⟨rfl, rfl⟩; rw [hn.out, hf]) | (go_at_call 38; refine (rgather_I _ _ (by omega) (by omega)).mono ?_; rintro e w' ⟨rfl, _, rfl⟩) | (go_at_call 39; (with_reducible refine (rhas_I1 _).mono ?_); rintro e w' ⟨rfl, rfl⟩) | (go_at_call 39; (with_reducible refine (rhas_I2 _).mono ?_); rintro e w' ⟨rfl, rfl⟩) | (go_at_call 39; (with_reducible refine (rhas_I3 _).mono ?_); rintro e w' ⟨rfl, rfl⟩) | ((go_at_call 40; (with_reducible refine (move_7_11_0p _ _ (by omega) (by omega)).mono ?_); rintro e w' ⟨rfl, _, rfl⟩)) | ((go_at_call 40; (with_reducible refine (move_15_19_0p _ _ (by omega) (by omega)).mono ?_); rintro e w' ⟨rfl, _, rfl⟩)) | ((go_at_call 40; (with_reducible refine (move_20_24_0p _ _ (by omega) (by omega)).mono ?_); rintro e w' ⟨rfl, _, rfl⟩)) | (go_at_call 41; refine (RR.out _).mono ?_; rintro e w1 ⟨rfl, hb1⟩; obtain ⟨hc1, hf1⟩ := bcell hb1; have hz1 := hb1.size; (try simp at hz1); have hy1 : w.heap.size < w1.heap.size := (by omega); have hy1' : wr.heap.size < w1.heap.size := (by omega)) | (go_at_call 42; refine (WW.out _).mono ?_; rintro e w2 ⟨rfl, hb2⟩; obtain ⟨hc2, hf2⟩ := bcell hb2; have hz2 := hb2.size; (try simp at hz2); have hy2 : w.heap.size < w2.heap.size := (by omega); have hy2' : wr.heap.size < w2.heap.size := (by omega)))
          have p0 : w2.cell? ⟨w.heap.size, 0, none⟩ = some (.int .i64 0) := by
            rw [hc2 _ _ (by omega), hc1 _ _ (by simp; omega)]
            simp only [World.cell?_drewN]
            rw [World.cell?_alloc_lt _ _ _ (by simp; omega)]
            exact r0
          have p1 : w2.cell? ⟨w.heap.size, 1, none⟩ = some (.int .i64 0) := by
            rw [hc2 _ _ (by omega), hc1 _ _ (by simp; omega)]
            simp only [World.cell?_drewN]
            rw [World.cell?_alloc_lt _ _ _ (by simp; omega)]
            exact r1
          have p2 : w2.cell? ⟨w.heap.size, 2, none⟩ = some (.int .i64 0) := by
            rw [hc2 _ _ (by omega), hc1 _ _ (by simp; omega)]
            simp only [World.cell?_drewN]
            rw [World.cell?_alloc_lt _ _ _ (by simp; omega)]
            exact r2
          have p3 : w2.cell? ⟨w.heap.size, 3, none⟩ = some (.int .i64 0) := by
            rw [hc2 _ _ (by omega), hc1 _ _ (by simp; omega)]
            simp only [World.cell?_drewN]
            rw [World.cell?_alloc_lt _ _ _ (by simp; omega)]
            exact r3
          have p4 : w2.cell? ⟨w.heap.size, 4, none⟩ = some (.int .i64 0) := by
            rw [hc2 _ _ (by omega), hc1 _ _ (by simp; omega)]
            simp only [World.cell?_drewN]
            rw [World.cell?_alloc_lt _ _ _ (by simp; omega)]
            exact r4
          refine bodyPost_ret (v := .tuple #[.agg #[.int .i64 (k : Int), .int .i64 (a / 128 % 32), .int .i64 (a / 32768 % 32), .int .i64 (0), .int .i64 (immF 73 a)], .int .i64 0]) (by simp [results, Tryz.results30, go_sem, p0, p1, p2, p3, p4]) rfl ⟨Or.inl ⟨k, hk1, hlh.out, hfit.out, ?_⟩, ?_⟩
          · simp [instV, rdW, rs1W, rs2W, hasRd, hasRs1, hasRs2, hf]
          · exact below5' (((below_drewN' (Below.alloc (Below.trans hB.out (hbw.mono (by omega))) (by omega) _) _).trans (hb1.mono (by simp; omega))).trans (hb2.mono (by omega))) _ _ _ _ _
        · have hq : ¬ wordP k (a / 128 % 32) (a / 32768 % 32) (0) (immF 73 a) = a := fun e => hfit (hfw.2 e)
          have hfit := Lib.hid hfit
          have hq' : (wordP k (a / 128 % 32) (a / 32768 % 32) (0) (immF 73 a) == a) = false := by rw [beq_eq_false_iff_ne]; exact hq
          clear hfw hq
          go_wp2_with (first | (go_at_call 37; refine (rform_c _ _).mono ?_; rintro e w' ⟨rfl, rfl⟩; rw [hn.out, hf]) | (go_at_call 38; refine (rgather_I _ _ (by omega) (by omega)).mono ?_; rintro e w' ⟨rfl, _, rfl⟩) | (go_at_call 39; (with_reducible refine (rhas_I1 _).mono ?_); rintro e w' ⟨rfl, rfl⟩) | (go_at_call 39; (with_reducible refine (rhas_I2 _).mono ?_); rintro e w' ⟨rfl, rfl⟩) | (go_at_call 39; (with_reducible refine (rhas_I3 _).mono ?_); rintro e w' ⟨rfl, rfl⟩) | ((go_at_call 40; (with_reducible refine (move_7_11_0p _ _ (by omega) (by omega)).mono ?_); rintro e w' ⟨rfl, _, rfl⟩)) | ((go_at_call 40; (with_reducible refine (move_15_19_0p _ _ (by omega) (by omega)).mono ?_); rintro e w' ⟨rfl, _, rfl⟩)) | ((go_at_call 40; (with_reducible refine (move_20_24_0p _ _ (by omega) (by omega)).mono ?_); rintro e w' ⟨rfl, _, rfl⟩)) | (go_at_call 41; refine (RR.out _).mono ?_; rintro e w1 ⟨rfl, hb1⟩; obtain ⟨hc1, hf1⟩ := bcell hb1; have hz1 := hb1.size; (try simp at hz1); have hy1 : w.heap.size < w1.heap.size := (by omega); have hy1' : wr.heap.size < w1.heap.size := (by omega)) | (go_at_call 42; refine (WW.out _).mono ?_; rintro e w2 ⟨rfl, hb2⟩; obtain ⟨hc2, hf2⟩ := bcell hb2; have hz2 := hb2.size; (try simp at hz2); have hy2 : w.heap.size < w2.heap.size := (by omega); have hy2' : wr.heap.size < w2.heap.size := (by omega)))
          go_roundw
          case rel =>
            refine ⟨k + 1, by omega, by omega, by go_num, ?_, ?_⟩
            · intro j h1 h2
              by_cases hj : j = k
              · subst hj; exact hfit.out
              · exact hno.out j h1 (by omega)
            · exact ((below_drewN' (Below.alloc hbw (by omega) _) _).trans (hb1.mono (by simp; omega))).trans (hb2.mono (by omega))
          case measure => simp [intOf]; omega
      · have hcr : RightP (k : Int) (a / 128 % 32) (a / 32768 % 32) (0) (immF 72 a) := by
          simpa [rdW, rs1W, rs2W, hf, hasRd, hasRs1, hasRs2] using hcr
        have hfw : fitsP k a ↔ wordP k (a / 128 % 32) (a / 32768 % 32) (0) (immF 72 a) = a := by
          simpa [rdW, rs1W, rs2W, hf, hasRd, hasRs1, hasRs2] using hfw
        have hrb : rightB (k : Int) (a / 128 % 32) (a / 32768 % 32) (0) (immF 72 a) = true := decide_eq_true hcr
        have WW := Lib.hid (fun w => rword_c k hk1 hlt _ _ _ _ w hrb)
        have RR : Hid (∀ w, Calls Tryz.prog 41 #[.agg #[.int .i64 (k : Int), .int .i64 (a / 128 % 32), .int .i64 (a / 32768 % 32), .int .i64 (0), .int .i64 (immF 72 a)]] w fun e w' => e = .returned (.bool true) ∧ Below w.heap.size w w') :=
          fun w => (rright_c' _ _ _ _ _ w).mono fun _ _ h => ⟨h.1.trans (congrArg (fun x => Ending.returned (.bool x)) hrb), h.2⟩
        clear hcr hrb
        by_cases hfit : fitsP k a
        · have hq := hfw.1 hfit
          have hfit := Lib.hid hfit
          have hq' : (wordP k (a / 128 % 32) (a / 32768 % 32) (0) (immF 72 a) == a) = true := by rw [hq]; exact beq_self_eq_true a
          clear hfw hq
          go_wp2_with (first | (go_at_call 37; refine (rform_c _ _).mono ?_; rintro e w' ⟨rfl, rfl⟩; rw [hn.out, hf]) | (go_at_call 38; refine (rgather_H _ _ (by omega) (by omega)).mono ?_; rintro e w' ⟨rfl, _, rfl⟩) | (go_at_call 39; (with_reducible refine (rhas_H1 _).mono ?_); rintro e w' ⟨rfl, rfl⟩) | (go_at_call 39; (with_reducible refine (rhas_H2 _).mono ?_); rintro e w' ⟨rfl, rfl⟩) | (go_at_call 39; (with_reducible refine (rhas_H3 _).mono ?_); rintro e w' ⟨rfl, rfl⟩) | ((go_at_call 40; (with_reducible refine (move_7_11_0p _ _ (by omega) (by omega)).mono ?_); rintro e w' ⟨rfl, _, rfl⟩)) | ((go_at_call 40; (with_reducible refine (move_15_19_0p _ _ (by omega) (by omega)).mono ?_); rintro e w' ⟨rfl, _, rfl⟩)) | ((go_at_call 40; (with_reducible refine (move_20_24_0p _ _ (by omega) (by omega)).mono ?_); rintro e w' ⟨rfl, _, rfl⟩)) | (go_at_call 41; refine (RR.out _).mono ?_; rintro e w1 ⟨rfl, hb1⟩; obtain ⟨hc1, hf1⟩ := bcell hb1; have hz1 := hb1.size; (try simp at hz1); have hy1 : w.heap.size < w1.heap.size := (by omega); have hy1' : wr.heap.size < w1.heap.size := (by omega)) | (go_at_call 42; refine (WW.out _).mono ?_; rintro e w2 ⟨rfl, hb2⟩; obtain ⟨hc2, hf2⟩ := bcell hb2; have hz2 := hb2.size; (try simp at hz2); have hy2 : w.heap.size < w2.heap.size := (by omega); have hy2' : wr.heap.size < w2.heap.size := (by omega)))
          have p0 : w2.cell? ⟨w.heap.size, 0, none⟩ = some (.int .i64 0) := by
            rw [hc2 _ _ (by omega), hc1 _ _ (by simp; omega)]
            simp only [World.cell?_drewN]
            rw [World.cell?_alloc_lt _ _ _ (by simp; omega)]
            exact r0
          have p1 : w2.cell? ⟨w.heap.size, 1, none⟩ = some (.int .i64 0) := by
            rw [hc2 _ _ (by omega), hc1 _ _ (by simp; omega)]
            simp only [World.cell?_drewN]
            rw [World.cell?_alloc_lt _ _ _ (by simp; omega)]
            exact r1
          have p2 : w2.cell? ⟨w.heap.size, 2, none⟩ = some (.int .i64 0) := by
            rw [hc2 _ _ (by omega), hc1 _ _ (by simp; omega)]
            simp only [World.cell?_drewN]
            rw [World.cell?_alloc_lt _ _ _ (by simp; omega)]
            exact r2
          have p3 : w2.cell? ⟨w.heap.size, 3, none⟩ = some (.int .i64 0) := by
            rw [hc2 _ _ (by omega), hc1 _ _ (by simp; omega)]
            simp only [World.cell?_drewN]
            rw [World.cell?_alloc_lt _ _ _ (by simp; omega)]
            exact r3
          have p4 : w2.cell? ⟨w.heap.size, 4, none⟩ = some (.int .i64 0) := by
            rw [hc2 _ _ (by omega), hc1 _ _ (by simp; omega)]
            simp only [World.cell?_drewN]
            rw [World.cell?_alloc_lt _ _ _ (by simp; omega)]
            exact r4
          refine bodyPost_ret (v := .tuple #[.agg #[.int .i64 (k : Int), .int .i64 (a / 128 % 32), .int .i64 (a / 32768 % 32), .int .i64 (0), .int .i64 (immF 72 a)], .int .i64 0]) (by simp [results, Tryz.results30, go_sem, p0, p1, p2, p3, p4]) rfl ⟨Or.inl ⟨k, hk1, hlh.out, hfit.out, ?_⟩, ?_⟩
          · simp [instV, rdW, rs1W, rs2W, hasRd, hasRs1, hasRs2, hf]
          · exact below5' (((below_drewN' (Below.alloc (Below.trans hB.out (hbw.mono (by omega))) (by omega) _) _).trans (hb1.mono (by simp; omega))).trans (hb2.mono (by omega))) _ _ _ _ _
        · have hq : ¬ wordP k (a / 128 % 32) (a / 32768 % 32) (0) (immF 72 a) = a := fun e => hfit (hfw.2 e)
          have hfit := Lib.hid hfit
          have hq' : (wordP k (a / 128 % 32) (a / 32768 % 32) (0) (immF 72 a) == a) = false := by rw [beq_eq_false_iff_ne]; exact hq
          clear hfw hq
          go_wp2_with (first | (go_at_call 37; refine (rform_c _ _).mono ?_; rintro e w' ⟨rfl, rfl⟩; rw [hn.out, hf]) | (go_at_call 38; refine (rgather_H _ _ (by omega) (by omega)).mono ?_; rintro e w' ⟨rfl, _, rfl⟩) | (go_at_call 39; (with_reducible refine (rhas_H1 _).mono ?_); rintro e w' ⟨rfl, rfl⟩) | (go_at_call 39; (with_reducible refine (rhas_H2 _).mono ?_); rintro e w' ⟨rfl, rfl⟩) | (go_at_call 39; (with_reducible refine (rhas_H3 _).mono ?_); rintro e w' ⟨rfl, rfl⟩) | ((go_at_call 40; (with_reducible refine (move_7_11_0p _ _ (by omega) (by omega)).mono ?_); rintro e w' ⟨rfl, _, rfl⟩)) | ((go_at_call 40; (with_reducible refine (move_15_19_0p _ _ (by omega) (by omega)).mono ?_); rintro e w' ⟨rfl, _, rfl⟩)) | ((go_at_call 40; (with_reducible refine (move_20_24_0p _ _ (by omega) (by omega)).mono ?_); rintro e w' ⟨rfl, _, rfl⟩)) | (go_at_call 41; refine (RR.out _).mono ?_; rintro e w1 ⟨rfl, hb1⟩; obtain ⟨hc1, hf1⟩ := bcell hb1; have hz1 := hb1.size; (try simp at hz1); have hy1 : w.heap.size < w1.heap.size := (by omega); have hy1' : wr.heap.size < w1.heap.size := (by omega)) | (go_at_call 42; refine (WW.out _).mono ?_; rintro e w2 ⟨rfl, hb2⟩; obtain ⟨hc2, hf2⟩ := bcell hb2; have hz2 := hb2.size; (try simp at hz2); have hy2 : w.heap.size < w2.heap.size := (by omega); have hy2' : wr.heap.size < w2.heap.size := (by omega)))
          go_roundw
          case rel =>
            refine ⟨k + 1, by omega, by omega, by go_num, ?_, ?_⟩
            · intro j h1 h2
              by_cases hj : j = k
              · subst hj; exact hfit.out
              · exact hno.out j h1 (by omega)
            · exact ((below_drewN' (Below.alloc hbw (by omega) _) _).trans (hb1.mono (by simp; omega))).trans (hb2.mono (by omega))
          case measure => simp [intOf]; omega
      · have hcr : RightP (k : Int) (a / 128 % 32) (0) (0) (immF 85 a) := by
          simpa [rdW, rs1W, rs2W, hf, hasRd, hasRs1, hasRs2] using hcr
        have hfw : fitsP k a ↔ wordP k (a / 128 % 32) (0) (0) (immF 85 a) = a := by
          simpa [rdW, rs1W, rs2W, hf, hasRd, hasRs1, hasRs2] using hfw
        have hrb : rightB (k : Int) (a / 128 % 32) (0) (0) (immF 85 a) = true := decide_eq_true hcr
        have WW := Lib.hid (fun w => rword_c k hk1 hlt _ _ _ _ w hrb)
        have RR : Hid (∀ w, Calls Tryz.prog 41 #[.agg #[.int .i64 (k : Int), .int .i64 (a / 128 % 32), .int .i64 (0), .int .i64 (0), .int .i64 (immF 85 a)]] w fun e w' => e = .returned (.bool true) ∧ Below w.heap.size w w') :=
          fun w => (rright_c' _ _ _ _ _ w).mono fun _ _ h => ⟨h.1.trans (congrArg (fun x => Ending.returned (.bool x)) hrb), h.2⟩
        clear hcr hrb
        by_cases hfit : fitsP k a
        · have hq := hfw.1 hfit
          have hfit := Lib.hid hfit
          have hq' : (wordP k (a / 128 % 32) (0) (0) (immF 85 a) == a) = true := by rw [hq]; exact beq_self_eq_true a
          clear hfw hq
          go_wp2_with (first | (go_at_call 37; refine (rform_c _ _).mono ?_; rintro e w' ⟨rfl, rfl⟩; rw [hn.out, hf]) | (go_at_call 38; refine (rgather_U _ _ (by omega) (by omega)).mono ?_; rintro e w' ⟨rfl, _, rfl⟩) | (go_at_call 39; (with_reducible refine (rhas_U1 _).mono ?_); rintro e w' ⟨rfl, rfl⟩) | (go_at_call 39; (with_reducible refine (rhas_U2 _).mono ?_); rintro e w' ⟨rfl, rfl⟩) | (go_at_call 39; (with_reducible refine (rhas_U3 _).mono ?_); rintro e w' ⟨rfl, rfl⟩) | ((go_at_call 40; (with_reducible refine (move_7_11_0p _ _ (by omega) (by omega)).mono ?_); rintro e w' ⟨rfl, _, rfl⟩)) | ((go_at_call 40; (with_reducible refine (move_15_19_0p _ _ (by omega) (by omega)).mono ?_); rintro e w' ⟨rfl, _, rfl⟩)) | ((go_at_call 40; (with_reducible refine (move_20_24_0p _ _ (by omega) (by omega)).mono ?_); rintro e w' ⟨rfl, _, rfl⟩)) | (go_at_call 41; refine (RR.out _).mono ?_; rintro e w1 ⟨rfl, hb1⟩; obtain ⟨hc1, hf1⟩ := bcell hb1; have hz1 := hb1.size; (try simp at hz1); have hy1 : w.heap.size < w1.heap.size := (by omega); have hy1' : wr.heap.size < w1.heap.size := (by omega)) | (go_at_call 42; refine (WW.out _).mono ?_; rintro e w2 ⟨rfl, hb2⟩; obtain ⟨hc2, hf2⟩ := bcell hb2; have hz2 := hb2.size; (try simp at hz2); have hy2 : w.heap.size < w2.heap.size := (by omega); have hy2' : wr.heap.size < w2.heap.size := (by omega)))
          have p0 : w2.cell? ⟨w.heap.size, 0, none⟩ = some (.int .i64 0) := by
            rw [hc2 _ _ (by omega), hc1 _ _ (by simp; omega)]
            simp only [World.cell?_drewN]
            rw [World.cell?_alloc_lt _ _ _ (by simp; omega)]
            exact r0
          have p1 : w2.cell? ⟨w.heap.size, 1, none⟩ = some (.int .i64 0) := by
            rw [hc2 _ _ (by omega), hc1 _ _ (by simp; omega)]
            simp only [World.cell?_drewN]
            rw [World.cell?_alloc_lt _ _ _ (by simp; omega)]
            exact r1
          have p2 : w2.cell? ⟨w.heap.size, 2, none⟩ = some (.int .i64 0) := by
            rw [hc2 _ _ (by omega), hc1 _ _ (by simp; omega)]
            simp only [World.cell?_drewN]
            rw [World.cell?_alloc_lt _ _ _ (by simp; omega)]
            exact r2
          have p3 : w2.cell? ⟨w.heap.size, 3, none⟩ = some (.int .i64 0) := by
            rw [hc2 _ _ (by omega), hc1 _ _ (by simp; omega)]
            simp only [World.cell?_drewN]
            rw [World.cell?_alloc_lt _ _ _ (by simp; omega)]
            exact r3
          have p4 : w2.cell? ⟨w.heap.size, 4, none⟩ = some (.int .i64 0) := by
            rw [hc2 _ _ (by omega), hc1 _ _ (by simp; omega)]
            simp only [World.cell?_drewN]
            rw [World.cell?_alloc_lt _ _ _ (by simp; omega)]
            exact r4
          refine bodyPost_ret (v := .tuple #[.agg #[.int .i64 (k : Int), .int .i64 (a / 128 % 32), .int .i64 (0), .int .i64 (0), .int .i64 (immF 85 a)], .int .i64 0]) (by simp [results, Tryz.results30, go_sem, p0, p1, p2, p3, p4]) rfl ⟨Or.inl ⟨k, hk1, hlh.out, hfit.out, ?_⟩, ?_⟩
          · simp [instV, rdW, rs1W, rs2W, hasRd, hasRs1, hasRs2, hf]
          · exact below5' (((below_drewN' (Below.alloc (Below.trans hB.out (hbw.mono (by omega))) (by omega) _) _).trans (hb1.mono (by simp; omega))).trans (hb2.mono (by omega))) _ _ _ _ _
        · have hq : ¬ wordP k (a / 128 % 32) (0) (0) (immF 85 a) = a := fun e => hfit (hfw.2 e)
          have hfit := Lib.hid hfit
          have hq' : (wordP k (a / 128 % 32) (0) (0) (immF 85 a) == a) = false := by rw [beq_eq_false_iff_ne]; exact hq
          clear hfw hq
          go_wp2_with (first | (go_at_call 37; refine (rform_c _ _).mono ?_; rintro e w' ⟨rfl, rfl⟩; rw [hn.out, hf]) | (go_at_call 38; refine (rgather_U _ _ (by omega) (by omega)).mono ?_; rintro e w' ⟨rfl, _, rfl⟩) | (go_at_call 39; (with_reducible refine (rhas_U1 _).mono ?_); rintro e w' ⟨rfl, rfl⟩) | (go_at_call 39; (with_reducible refine (rhas_U2 _).mono ?_); rintro e w' ⟨rfl, rfl⟩) | (go_at_call 39; (with_reducible refine (rhas_U3 _).mono ?_); rintro e w' ⟨rfl, rfl⟩) | ((go_at_call 40; (with_reducible refine (move_7_11_0p _ _ (by omega) (by omega)).mono ?_); rintro e w' ⟨rfl, _, rfl⟩)) | ((go_at_call 40; (with_reducible refine (move_15_19_0p _ _ (by omega) (by omega)).mono ?_); rintro e w' ⟨rfl, _, rfl⟩)) | ((go_at_call 40; (with_reducible refine (move_20_24_0p _ _ (by omega) (by omega)).mono ?_); rintro e w' ⟨rfl, _, rfl⟩)) | (go_at_call 41; refine (RR.out _).mono ?_; rintro e w1 ⟨rfl, hb1⟩; obtain ⟨hc1, hf1⟩ := bcell hb1; have hz1 := hb1.size; (try simp at hz1); have hy1 : w.heap.size < w1.heap.size := (by omega); have hy1' : wr.heap.size < w1.heap.size := (by omega)) | (go_at_call 42; refine (WW.out _).mono ?_; rintro e w2 ⟨rfl, hb2⟩; obtain ⟨hc2, hf2⟩ := bcell hb2; have hz2 := hb2.size; (try simp at hz2); have hy2 : w.heap.size < w2.heap.size := (by omega); have hy2' : wr.heap.size < w2.heap.size := (by omega)))
          go_roundw
          case rel =>
            refine ⟨k + 1, by omega, by omega, by go_num, ?_, ?_⟩
            · intro j h1 h2
              by_cases hj : j = k
              · subst hj; exact hfit.out
              · exact hno.out j h1 (by omega)
            · exact ((below_drewN' (Below.alloc hbw (by omega) _) _).trans (hb1.mono (by simp; omega))).trans (hb2.mono (by omega))
          case measure => simp [intOf]; omega
      · have hcr : RightP (k : Int) (a / 128 % 32) (0) (0) (immF 74 a) := by
          simpa [rdW, rs1W, rs2W, hf, hasRd, hasRs1, hasRs2] using hcr
        have hfw : fitsP k a ↔ wordP k (a / 128 % 32) (0) (0) (immF 74 a) = a := by
          simpa [rdW, rs1W, rs2W, hf, hasRd, hasRs1, hasRs2] using hfw
        have hrb : rightB (k : Int) (a / 128 % 32) (0) (0) (immF 74 a) = true := decide_eq_true hcr
        have WW := Lib.hid (fun w => rword_c k hk1 hlt _ _ _ _ w hrb)
        have RR : Hid (∀ w, Calls Tryz.prog 41 #[.agg #[.int .i64 (k : Int), .int .i64 (a / 128 % 32), .int .i64 (0), .int .i64 (0), .int .i64 (immF 74 a)]] w fun e w' => e = .returned (.bool true) ∧ Below w.heap.size w w') :=
          fun w => (rright_c' _ _ _ _ _ w).mono fun _ _ h => ⟨h.1.trans (congrArg (fun x => Ending.returned (.bool x)) hrb), h.2⟩
        clear hcr hrb
        by_cases hfit : fitsP k a
        · have hq := hfw.1 hfit
          have hfit := Lib.hid hfit
          have hq' : (wordP k (a / 128 % 32) (0) (0) (immF 74 a) == a) = true := by rw [hq]; exact beq_self_eq_true a
          clear hfw hq
          go_wp2_with (first | (go_at_call 37; refine (rform_c _ _).mono ?_; rintro e w' ⟨rfl, rfl⟩; rw [hn.out, hf]) | (go_at_call 38; refine (rgather_J _ _ (by omega) (by omega)).mono ?_; rintro e w' ⟨rfl, _, rfl⟩) | (go_at_call 39; (with_reducible refine (rhas_J1 _).mono ?_); rintro e w' ⟨rfl, rfl⟩) | (go_at_call 39; (with_reducible refine (rhas_J2 _).mono ?_); rintro e w' ⟨rfl, rfl⟩) | (go_at_call 39; (with_reducible refine (rhas_J3 _).mono ?_); rintro e w' ⟨rfl, rfl⟩) | ((go_at_call 40; (with_reducible refine (move_7_11_0p _ _ (by omega) (by omega)).mono ?_); rintro e w' ⟨rfl, _, rfl⟩)) | ((go_at_call 40; (with_reducible refine (move_15_19_0p _ _ (by omega) (by omega)).mono ?_); rintro e w' ⟨rfl, _, rfl⟩)) | ((go_at_call 40; (with_reducible refine (move_20_24_0p _ _ (by omega) (by omega)).mono ?_); rintro e w' ⟨rfl, _, rfl⟩)) | (go_at_call 41; refine (RR.out _).mono ?_; rintro e w1 ⟨rfl, hb1⟩; obtain ⟨hc1, hf1⟩ := bcell hb1; have hz1 := hb1.size; (try simp at hz1); have hy1 : w.heap.size < w1.heap.size := (by omega); have hy1' : wr.heap.size < w1.heap.size := (by omega)) | (go_at_call 42; refine (WW.out _).mono ?_; rintro e w2 ⟨rfl, hb2⟩; obtain ⟨hc2, hf2⟩ := bcell hb2; have hz2 := hb2.size; (try simp at hz2); have hy2 : w.heap.size < w2.heap.size := (by omega); have hy2' : wr.heap.size < w2.heap.size := (by omega)))
          have p0 : w2.cell? ⟨w.heap.size, 0, none⟩ = some (.int .i64 0) := by
            rw [hc2 _ _ (by omega), hc1 _ _ (by simp; omega)]
            simp only [World.cell?_drewN]
            rw [World.cell?_alloc_lt _ _ _ (by simp; omega)]
            exact r0
          have p1 : w2.cell? ⟨w.heap.size, 1, none⟩ = some (.int .i64 0) := by
            rw [hc2 _ _ (by omega), hc1 _ _ (by simp; omega)]
            simp only [World.cell?_drewN]
            rw [World.cell?_alloc_lt _ _ _ (by simp; omega)]
            exact r1
          have p2 : w2.cell? ⟨w.heap.size, 2, none⟩ = some (.int .i64 0) := by
            rw [hc2 _ _ (by omega), hc1 _ _ (by simp; omega)]
            simp only [World.cell?_drewN]
            rw [World.cell?_alloc_lt _ _ _ (by simp; omega)]
            exact r2
          have p3 : w2.cell? ⟨w.heap.size, 3, none⟩ = some (.int .i64 0) := by
            rw [hc2 _ _ (by omega), hc1 _ _ (by simp; omega)]
            simp only [World.cell?_drewN]
            rw [World.cell?_alloc_lt _ _ _ (by simp; omega)]
            exact r3
          have p4 : w2.cell? ⟨w.heap.size, 4, none⟩ = some (.int .i64 0) := by
            rw [hc2 _ _ (by omega), hc1 _ _ (by simp; omega)]
            simp only [World.cell?_drewN]
            rw [World.cell?_alloc_lt _ _ _ (by simp; omega)]
            exact r4
          refine bodyPost_ret (v := .tuple #[.agg #[.int .i64 (k : Int), .int .i64 (a / 128 % 32), .int .i64 (0), .int .i64 (0), .int .i64 (immF 74 a)], .int .i64 0]) (by simp [results, Tryz.results30, go_sem, p0, p1, p2, p3, p4]) rfl ⟨Or.inl ⟨k, hk1, hlh.out, hfit.out, ?_⟩, ?_⟩
          · simp [instV, rdW, rs1W, rs2W, hasRd, hasRs1, hasRs2, hf]
          · exact below5' (((below_drewN' (Below.alloc (Below.trans hB.out (hbw.mono (by omega))) (by omega) _) _).trans (hb1.mono (by simp; omega))).trans (hb2.mono (by omega))) _ _ _ _ _
        · have hq : ¬ wordP k (a / 128 % 32) (0) (0) (immF 74 a) = a := fun e => hfit (hfw.2 e)
          have hfit := Lib.hid hfit
          have hq' : (wordP k (a / 128 % 32) (0) (0) (immF 74 a) == a) = false := by rw [beq_eq_false_iff_ne]; exact hq
          clear hfw hq
          go_wp2_with (first | (go_at_call 37; refine (rform_c _ _).mono ?_; rintro e w' ⟨rfl, rfl⟩; rw [hn.out, hf]) | (go_at_call 38; refine (rgather_J _ _ (by omega) (by omega)).mono ?_; rintro e w' ⟨rfl, _, rfl⟩) | (go_at_call 39; (with_reducible refine (rhas_J1 _).mono ?_); rintro e w' ⟨rfl, rfl⟩) | (go_at_call 39; (with_reducible refine (rhas_J2 _).mono ?_); rintro e w' ⟨rfl, rfl⟩) | (go_at_call 39; (with_reducible refine (rhas_J3 _).mono ?_); rintro e w' ⟨rfl, rfl⟩) | ((go_at_call 40; (with_reducible refine (move_7_11_0p _ _ (by omega) (by omega)).mono ?_); rintro e w' ⟨rfl, _, rfl⟩)) | ((go_at_call 40; (with_reducible refine (move_15_19_0p _ _ (by omega) (by omega)).mono ?_); rintro e w' ⟨rfl, _, rfl⟩)) | ((go_at_call 40; (with_reducible refine (move_20_24_0p _ _ (by omega) (by omega)).mono ?_); rintro e w' ⟨rfl, _, rfl⟩)) | (go_at_call 41; refine (RR.out _).mono ?_; rintro e w1 ⟨rfl, hb1⟩; obtain ⟨hc1, hf1⟩ := bcell hb1; have hz1 := hb1.size; (try simp at hz1); have hy1 : w.heap.size < w1.heap.size := (by omega); have hy1' : wr.heap.size < w1.heap.size := (by omega)) | (go_at_call 42; refine (WW.out _).mono ?_; rintro e w2 ⟨rfl, hb2⟩; obtain ⟨hc2, hf2⟩ := bcell hb2; have hz2 := hb2.size; (try simp at hz2); have hy2 : w.heap.size < w2.heap.size := (by omega); have hy2' : wr.heap.size < w2.heap.size := (by omega)))
          go_roundw
          case rel =>
            refine ⟨k + 1, by omega, by omega, by go_num, ?_, ?_⟩
            · intro j h1 h2
              by_cases hj : j = k
              · subst hj; exact hfit.out
              · exact hno.out j h1 (by omega)
            · exact ((below_drewN' (Below.alloc hbw (by omega) _) _).trans (hb1.mono (by simp; omega))).trans (hb2.mono (by omega))
          case measure => simp [intOf]; omega
      · have hcr : RightP (k : Int) (0) (a / 32768 % 32) (a / 1048576 % 32) (immF 83 a) := by
          simpa [rdW, rs1W, rs2W, hf, hasRd, hasRs1, hasRs2] using hcr
        have hfw : fitsP k a ↔ wordP k (0) (a / 32768 % 32) (a / 1048576 % 32) (immF 83 a) = a := by
          simpa [rdW, rs1W, rs2W, hf, hasRd, hasRs1, hasRs2] using hfw
        have hrb : rightB (k : Int) (0) (a / 32768 % 32) (a / 1048576 % 32) (immF 83 a) = true := decide_eq_true hcr
        have WW := Lib.hid (fun w => rword_c k hk1 hlt _ _ _ _ w hrb)
        have RR : Hid (∀ w, Calls Tryz.prog 41 #[.agg #[.int .i64 (k : Int), .int .i64 (0), .int .i64 (a / 32768 % 32), .int .i64 (a / 1048576 % 32), .int .i64 (immF 83 a)]] w fun e w' => e = .returned (.bool true) ∧ Below w.heap.size w w') :=
          fun w => (rright_c' _ _ _ _ _ w).mono fun _ _ h => ⟨h.1.trans (congrArg (fun x => Ending.returned (.bool x)) hrb), h.2⟩
        clear hcr hrb
        by_cases hfit : fitsP k a
        · have hq := hfw.1 hfit
          have hfit := Lib.hid hfit
          have hq' : (wordP k (0) (a / 32768 % 32) (a / 1048576 % 32) (immF 83 a) == a) = true := by rw [hq]; exact beq_self_eq_true a
          clear hfw hq
          go_wp2_with (first | (go_at_call 37; refine (rform_c _ _).mono ?_; rintro e w' ⟨rfl, rfl⟩; rw [hn.out, hf]) | (go_at_call 38; refine (rgather_S _ _ (by omega) (by omega)).mono ?_; rintro e w' ⟨rfl, _, rfl⟩) | (go_at_call 39; (with_reducible refine (rhas_S1 _).mono ?_); rintro e w' ⟨rfl, rfl⟩) | (go_at_call 39; (with_reducible refine (rhas_S2 _).mono ?_); rintro e w' ⟨rfl, rfl⟩) | (go_at_call 39; (with_reducible refine (rhas_S3 _).mono ?_); rintro e w' ⟨rfl, rfl⟩) | ((go_at_call 40; (with_reducible refine (move_7_11_0p _ _ (by omega) (by omega)).mono ?_); rintro e w' ⟨rfl, _, rfl⟩)) | ((go_at_call 40; (with_reducible refine (move_15_19_0p _ _ (by omega) (by omega)).mono ?_); rintro e w' ⟨rfl, _, rfl⟩)) | ((go_at_call 40; (with_reducible refine (move_20_24_0p _ _ (by omega) (by omega)).mono ?_); rintro e w' ⟨rfl, _, rfl⟩)) | (go_at_call 41; refine (RR.out _).mono ?_; rintro e w1 ⟨rfl, hb1⟩; obtain ⟨hc1, hf1⟩ := bcell hb1; have hz1 := hb1.size; (try simp at hz1); have hy1 : w.heap.size < w1.heap.size := (by omega); have hy1' : wr.heap.size < w1.heap.size := (by omega)) | (go_at_call 42; refine (WW.out _).mono ?_; rintro e w2 ⟨rfl, hb2⟩; obtain ⟨hc2, hf2⟩ := bcell hb2; have hz2 := hb2.size; (try simp at hz2); have hy2 : w.heap.size < w2.heap.size := (by omega); have hy2' : wr.heap.size < w2.heap.size := (by omega)))
          have p0 : w2.cell? ⟨w.heap.size, 0, none⟩ = some (.int .i64 0) := by
            rw [hc2 _ _ (by omega), hc1 _ _ (by simp; omega)]
            simp only [World.cell?_drewN]
            rw [World.cell?_alloc_lt _ _ _ (by simp; omega)]
            exact r0
          have p1 : w2.cell? ⟨w.heap.size, 1, none⟩ = some (.int .i64 0) := by
            rw [hc2 _ _ (by omega), hc1 _ _ (by simp; omega)]
            simp only [World.cell?_drewN]
            rw [World.cell?_alloc_lt _ _ _ (by simp; omega)]
            exact r1
          have p2 : w2.cell? ⟨w.heap.size, 2, none⟩ = some (.int .i64 0) := by
            rw [hc2 _ _ (by omega), hc1 _ _ (by simp; omega)]
            simp only [World.cell?_drewN]
            rw [World.cell?_alloc_lt _ _ _ (by simp; omega)]
            exact r2
          have p3 : w2.cell? ⟨w.heap.size, 3, none⟩ = some (.int .i64 0) := by
            rw [hc2 _ _ (by omega), hc1 _ _ (by simp; omega)]
            simp only [World.cell?_drewN]
            rw [World.cell?_alloc_lt _ _ _ (by simp; omega)]
            exact r3
          have p4 : w2.cell? ⟨w.heap.size, 4, none⟩ = some (.int .i64 0) := by
            rw [hc2 _ _ (by omega), hc1 _ _ (by simp; omega)]
            simp only [World.cell?_drewN]
            rw [World.cell?_alloc_lt _ _ _ (by simp; omega)]
            exact r4
          refine bodyPost_ret (v := .tuple #[.agg #[.int .i64 (k : Int), .int .i64 (0), .int .i64 (a / 32768 % 32), .int .i64 (a / 1048576 % 32), .int .i64 (immF 83 a)], .int .i64 0]) (by simp [results, Tryz.results30, go_sem, p0, p1, p2, p3, p4]) rfl ⟨Or.inl ⟨k, hk1, hlh.out, hfit.out, ?_⟩, ?_⟩
          · simp [instV, rdW, rs1W, rs2W, hasRd, hasRs1, hasRs2, hf]
          · exact below5' (((below_drewN' (Below.alloc (Below.trans hB.out (hbw.mono (by omega))) (by omega) _) _).trans (hb1.mono (by simp; omega))).trans (hb2.mono (by omega))) _ _ _ _ _
        · have hq : ¬ wordP k (0) (a / 32768 % 32) (a / 1048576 % 32) (immF 83 a) = a := fun e => hfit (hfw.2 e)
          have hfit := Lib.hid hfit
          have hq' : (wordP k (0) (a / 32768 % 32) (a / 1048576 % 32) (immF 83 a) == a) = false := by rw [beq_eq_false_iff_ne]; exact hq
          clear hfw hq
          go_wp2_with (first | (go_at_call 37; refine (rform_c _ _).mono ?_; rintro e w' ⟨rfl, rfl⟩; rw [hn.out, hf]) | (go_at_call 38; refine (rgather_S _ _ (by omega) (by omega)).mono ?_; rintro e w' ⟨rfl, _, rfl⟩) | (go_at_call 39; (with_reducible refine (rhas_S1 _).mono ?_); rintro e w' ⟨rfl, rfl⟩) | (go_at_call 39; (with_reducible refine (rhas_S2 _).mono ?_); rintro e w' ⟨rfl, rfl⟩) | (go_at_call 39; (with_reducible refine (rhas_S3 _).mono ?_); rintro e w' ⟨rfl, rfl⟩) | ((go_at_call 40; (with_reducible refine (move_7_11_0p _ _ (by omega) (by omega)).mono ?_); rintro e w' ⟨rfl, _, rfl⟩)) | ((go_at_call 40; (with_reducible refine (move_15_19_0p _ _ (by omega) (by omega)).mono ?_); rintro e w' ⟨rfl, _, rfl⟩)) | ((go_at_call 40; (with_reducible refine (move_20_24_0p _ _ (by omega) (by omega)).mono ?_); rintro e w' ⟨rfl, _, rfl⟩)) | (go_at_call 41; refine (RR.out _).mono ?_; rintro e w1 ⟨rfl, hb1⟩; obtain ⟨hc1, hf1⟩ := bcell hb1; have hz1 := hb1.size; (try simp at hz1); have hy1 : w.heap.size < w1.heap.size := (by omega); have hy1' : wr.heap.size < w1.heap.size := (by omega)) | (go_at_call 42; refine (WW.out _).mono ?_; rintro e w2 ⟨rfl, hb2⟩; obtain ⟨hc2, hf2⟩ := bcell hb2; have hz2 := hb2.size; (try simp at hz2); have hy2 : w.heap.size < w2.heap.size := (by omega); have hy2' : wr.heap.size < w2.heap.size := (by omega)))
          go_roundw
          case rel =>
            refine ⟨k + 1, by omega, by omega, by go_num, ?_, ?_⟩
            · intro j h1 h2
              by_cases hj : j = k
              · subst hj; exact hfit.out
              · exact hno.out j h1 (by omega)
            · exact ((below_drewN' (Below.alloc hbw (by omega) _) _).trans (hb1.mono (by simp; omega))).trans (hb2.mono (by omega))
          case measure => simp [intOf]; omega
      · have hcr : RightP (k : Int) (0) (a / 32768 % 32) (a / 1048576 % 32) (immF 66 a) := by
          simpa [rdW, rs1W, rs2W, hf, hasRd, hasRs1, hasRs2] using hcr
        have hfw : fitsP k a ↔ wordP k (0) (a / 32768 % 32) (a / 1048576 % 32) (immF 66 a) = a := by
          simpa [rdW, rs1W, rs2W, hf, hasRd, hasRs1, hasRs2] using hfw
        have hrb : rightB (k : Int) (0) (a / 32768 % 32) (a / 1048576 % 32) (immF 66 a) = true := decide_eq_true hcr
        have WW := Lib.hid (fun w => rword_c k hk1 hlt _ _ _ _ w hrb)
        have RR : Hid (∀ w, Calls Tryz.prog 41 #[.agg #[.int .i64 (k : Int), .int .i64 (0), .int .i64 (a / 32768 % 32), .int .i64 (a / 1048576 % 32), .int .i64 (immF 66 a)]] w fun e w' => e = .returned (.bool true) ∧ Below w.heap.size w w') :=
          fun w => (rright_c' _ _ _ _ _ w).mono fun _ _ h => ⟨h.1.trans (congrArg (fun x => Ending.returned (.bool x)) hrb), h.2⟩
        clear hcr hrb
        by_cases hfit : fitsP k a
        · have hq := hfw.1 hfit
          have hfit := Lib.hid hfit
          have hq' : (wordP k (0) (a / 32768 % 32) (a / 1048576 % 32) (immF 66 a) == a) = true := by rw [hq]; exact beq_self_eq_true a
          clear hfw hq
          go_wp2_with (first | (go_at_call 37; refine (rform_c _ _).mono ?_; rintro e w' ⟨rfl, rfl⟩; rw [hn.out, hf]) | (go_at_call 38; refine (rgather_B _ _ (by omega) (by omega)).mono ?_; rintro e w' ⟨rfl, _, rfl⟩) | (go_at_call 39; (with_reducible refine (rhas_B1 _).mono ?_); rintro e w' ⟨rfl, rfl⟩) | (go_at_call 39; (with_reducible refine (rhas_B2 _).mono ?_); rintro e w' ⟨rfl, rfl⟩) | (go_at_call 39; (with_reducible refine (rhas_B3 _).mono ?_); rintro e w' ⟨rfl, rfl⟩) | ((go_at_call 40; (with_reducible refine (move_7_11_0p _ _ (by omega) (by omega)).mono ?_); rintro e w' ⟨rfl, _, rfl⟩)) | ((go_at_call 40; (with_reducible refine (move_15_19_0p _ _ (by omega) (by omega)).mono ?_); rintro e w' ⟨rfl, _, rfl⟩)) | ((go_at_call 40; (with_reducible refine (move_20_24_0p _ _ (by omega) (by omega)).mono ?_); rintro e w' ⟨rfl, _, rfl⟩)) | (go_at_call 41; refine (RR.out _).mono ?_; rintro e w1 ⟨rfl, hb1⟩; obtain ⟨hc1, hf1⟩ := bcell hb1; have hz1 := hb1.size; (try simp at hz1); have hy1 : w.heap.size < w1.heap.size := (by omega); have hy1' : wr.heap.size < w1.heap.size := (by omega)) | (go_at_call 42; refine (WW.out _).mono ?_; rintro e w2 ⟨rfl, hb2⟩; obtain ⟨hc2, hf2⟩ := bcell hb2; have hz2 := hb2.size; (try simp at hz2); have hy2 : w.heap.size < w2.heap.size := (by omega); have hy2' : wr.heap.size < w2.heap.size := (by omega)))
          have p0 : w2.cell? ⟨w.heap.size, 0, none⟩ = some (.int .i64 0) := by
            rw [hc2 _ _ (by omega), hc1 _ _ (by simp; omega)]
            simp only [World.cell?_drewN]
            rw [World.cell?_alloc_lt _ _ _ (by simp; omega)]
            exact r0
          have p1 : w2.cell? ⟨w.heap.size, 1, none⟩ = some (.int .i64 0) := by
            rw [hc2 _ _ (by omega), hc1 _ _ (by simp; omega)]
            simp only [World.cell?_drewN]
            rw [World.cell?_alloc_lt _ _ _ (by simp; omega)]
            exact r1
          have p2 : w2.cell? ⟨w.heap.size, 2, none⟩ = some (.int .i64 0) := by
            rw [hc2 _ _ (by omega), hc1 _ _ (by simp; omega)]
            simp only [World.cell?_drewN]
            rw [World.cell?_alloc_lt _ _ _ (by simp; omega)]
            exact r2
          have p3 : w2.cell? ⟨w.heap.size, 3, none⟩ = some (.int .i64 0) := by
            rw [hc2 _ _ (by omega), hc1 _ _ (by simp; omega)]
            simp only [World.cell?_drewN]
            rw [World.cell?_alloc_lt _ _ _ (by simp; omega)]
            exact r3
          have p4 : w2.cell? ⟨w.heap.size, 4, none⟩ = some (.int .i64 0) := by
            rw [hc2 _ _ (by omega), hc1 _ _ (by simp; omega)]
            simp only [World.cell?_drewN]
            rw [World.cell?_alloc_lt _ _ _ (by simp; omega)]
            exact r4
          refine bodyPost_ret (v := .tuple #[.agg #[.int .i64 (k : Int), .int .i64 (0), .int .i64 (a / 32768 % 32), .int .i64 (a / 1048576 % 32), .int .i64 (immF 66 a)], .int .i64 0]) (by simp [results, Tryz.results30, go_sem, p0, p1, p2, p3, p4]) rfl ⟨Or.inl ⟨k, hk1, hlh.out, hfit.out, ?_⟩, ?_⟩
          · simp [instV, rdW, rs1W, rs2W, hasRd, hasRs1, hasRs2, hf]
          · exact below5' (((below_drewN' (Below.alloc (Below.trans hB.out (hbw.mono (by omega))) (by omega) _) _).trans (hb1.mono (by simp; omega))).trans (hb2.mono (by omega))) _ _ _ _ _
        · have hq : ¬ wordP k (0) (a / 32768 % 32) (a / 1048576 % 32) (immF 66 a) = a := fun e => hfit (hfw.2 e)
          have hfit := Lib.hid hfit
          have hq' : (wordP k (0) (a / 32768 % 32) (a / 1048576 % 32) (immF 66 a) == a) = false := by rw [beq_eq_false_iff_ne]; exact hq
          clear hfw hq
          go_wp2_with (first | (go_at_call 37; refine (rform_c _ _).mono ?_; rintro e w' ⟨rfl, rfl⟩; rw [hn.out, hf]) | (go_at_call 38; refine (rgather_B _ _ (by omega) (by omega)).mono ?_; rintro e w' ⟨rfl, _, rfl⟩) | (go_at_call 39; (with_reducible refine (rhas_B1 _).mono ?_); rintro e w' ⟨rfl, rfl⟩) | (go_at_call 39; (with_reducible refine (rhas_B2 _).mono ?_); rintro e w' ⟨rfl, rfl⟩) | (go_at_call 39; (with_reducible refine (rhas_B3 _).mono ?_); rintro e w' ⟨rfl, rfl⟩) | ((go_at_call 40; (with_reducible refine (move_7_11_0p _ _ (by omega) (by omega)).mono ?_); rintro e w' ⟨rfl, _, rfl⟩)) | ((go_at_call 40; (with_reducible refine (move_15_19_0p _ _ (by omega) (by omega)).mono ?_); rintro e w' ⟨rfl, _, rfl⟩)) | ((go_at_call 40; (with_reducible refine (move_20_24_0p _ _ (by omega) (by omega)).mono ?_); rintro e w' ⟨rfl, _, rfl⟩)) | (go_at_call 41; refine (RR.out _).mono ?_; rintro e w1 ⟨rfl, hb1⟩; obtain ⟨hc1, hf1⟩ := bcell hb1; have hz1 := hb1.size; (try simp at hz1); have hy1 : w.heap.size < w1.heap.size := (by omega); have hy1' : wr.heap.size < w1.heap.size := (by omega)) | (go_at_call 42; refine (WW.out _).mono ?_; rintro e w2 ⟨rfl, hb2⟩; obtain ⟨hc2, hf2⟩ := bcell hb2; have hz2 := hb2.size; (try simp at hz2); have hy2 : w.heap.size < w2.heap.size := (by omega); have hy2' : wr.heap.size < w2.heap.size := (by omega)))
          go_roundw
          case rel =>
            refine ⟨k + 1, by omega, by omega, by go_num, ?_, ?_⟩
            · intro j h1 h2
              by_cases hj : j = k
              · subst hj; exact hfit.out
              · exact hno.out j h1 (by omega)
            · exact ((below_drewN' (Below.alloc hbw (by omega) _) _).trans (hb1.mono (by simp; omega))).trans (hb2.mono (by omega))
          case measure => simp [intOf]; omega
    · have hk : k = 46 := by omega
      clear hk
      go_wp2
      refine bodyPost_ret (v := .tuple #[.agg #[.int .i64 0, .int .i64 0, .int .i64 0, .int .i64 0, .int .i64 0], .int .i64 3]) (by simp [results, Tryz.results30, go_sem, r0, r1, r2, r3, r4]) rfl ⟨Or.inr ⟨fun j h1 h2 => hno.out j h1 (by omega), rfl⟩, ?_⟩
      have hbw1 : Below w.heap.size w wr := Below.trans hB.out (hbw.mono (by omega))
      exact below5' hbw1 _ _ _ _ _
end Go.Proofs.YtabmbhhodecmfaaGreat
