/-
  The statement that branches and jumps lead to their labels: its walk.
-/
import Derived.Test.YtedihiodmgnlpaaA25
import Derived.Test.YtedihiodmgnlpaaA28
import Derived.Test.YtedihiodmgnlpaaJ
import Derived.IntWalk
set_option linter.all false
namespace Go.Proofs.Ytedihiodmgnlpaa
open Go.ChangeShapes Go.WideShapes Go.ChangeAt Go.RowKit Go.Maps
set_option maxHeartbeats 4000000
set_option linter.unusedVariables false
set_option maxRecDepth 100000

theorem constL_pos (rd n : Int) : 0 < (constL rd n).length := by unfold constL; (repeat' split) <;> simp
theorem far_yes (imm : Int) (hX : IN.ok ⟨3, 0, 0, 0, imm⟩ = true) (w : World) : Calls Try.prog 27 #[.int .u32 (encW ⟨3, 0, 0, 0, imm⟩)] w fun e w' => e = .returned (.bool true) ∧ Below w.heap.size w w' := by
  have HD : Hid (∀ w, Calls Try.prog 26 #[.int .u32 (encW ⟨3, 0, 0, 0, imm⟩)] w fun e w' => e = .returned (.tuple #[.agg #[.int .i64 3, .int .i64 0, .int .i64 0, .int .i64 0, .int .i64 imm], .int .i64 0]) ∧ Below w.heap.size w w') := fun w => dec_w _ hX w
  generalize encW ⟨3, 0, 0, 0, imm⟩ = ew at *
  go_enter Try.func27, Try.ntmps27
  go_wp2_with (go_at_call 26; refine (HD.out _).mono ?_; rintro e w1 ⟨rfl, hb1⟩; have hs1 := hb1.size)
  go_ret
  exact ⟨rfl, hb1.trans ((below_a1 _ _).mono hs1)⟩
theorem two_blocks {wr w4 W5 : World} {a0 a1 a2 a3 a4 a5 a6 b0 b1 b2 b3 b4 : Value} {t t' : TypeId} (hb : Below (wr.alloc (.cells #[a0, a1, a2, a3, a4, a5, a6] t)).heap.size (wr.alloc (.cells #[a0, a1, a2, a3, a4, a5, a6] t)) w4) (hW : W5 = w4.alloc (.cells #[b0, b1, b2, b3, b4] t')) :
    Below wr.heap.size wr W5 ∧ W5.heap[wr.heap.size]? = some (.cells #[a0, a1, a2, a3, a4, a5, a6] t (0, 0)) ∧ W5.heap[w4.heap.size]? = some (.cells #[b0, b1, b2, b3, b4] t' (0, 0)) ∧ wr.heap.size < W5.heap.size ∧ w4.heap.size < W5.heap.size ∧ wr.heap.size < w4.heap.size := by
  subst hW
  have h1 := hb.size
  simp at h1
  refine ⟨((below_a1 _ _).trans (hb.mono (by simp))).trans ((below_a1 _ _).mono (by omega)), ?_, heap_new _ _ _ rfl, by simp; omega, by simp, by omega⟩
  exact ((below_a1 w4 _).block wr.heap.size (by omega)).trans ((hb.block wr.heap.size (by simp)).trans (heap_new wr _ _ rfl))
theorem set5 {W7 : World} {g : Nat} {b0 b1 b2 b3 b4 : Value} {t : TypeId} (h : W7.heap[g]? = some (.cells #[b0, b1, b2, b3, b4] t (0, 0))) (c0 c1 c2 c3 c4 : Value) :
    (((((W7.setCell ⟨g, 0, none⟩ c0).setCell ⟨g, 1, none⟩ c1).setCell ⟨g, 2, none⟩ c2).setCell ⟨g, 3, none⟩ c3).setCell ⟨g, 4, none⟩ c4).cell? ⟨g, 4, none⟩ = some c4 := by
  have k4 := cell_of_heap h 4
  refine World.cell?_setCell_same' _ _ _ ?_
  rw [World.cell?_setCell_other _ _ _ _ (by simp), World.cell?_setCell_other _ _ _ _ (by simp), World.cell?_setCell_other _ _ _ _ (by simp), World.cell?_setCell_other _ _ _ _ (by simp), k4]
  rfl
theorem set5_other (W7 : World) (g k : Nat) (hk : k ≠ g) (c0 c1 c2 c3 c4 : Value) :
    (((((W7.setCell ⟨g, 0, none⟩ c0).setCell ⟨g, 1, none⟩ c1).setCell ⟨g, 2, none⟩ c2).setCell ⟨g, 3, none⟩ c3).setCell ⟨g, 4, none⟩ c4).heap[k]? = W7.heap[k]? := by
  rw [heap_setCell_other _ _ _ _ hk, heap_setCell_other _ _ _ _ hk, heap_setCell_other _ _ _ _ hk, heap_setCell_other _ _ _ _ hk, heap_setCell_other _ _ _ _ hk]
theorem set5_below {B : Nat} {w W7 : World} {g : Nat} (h : Below B w W7) (hg : B ≤ g) (c0 c1 c2 c3 c4 : Value) :
    Below B w (((((W7.setCell ⟨g, 0, none⟩ c0).setCell ⟨g, 1, none⟩ c1).setCell ⟨g, 2, none⟩ c2).setCell ⟨g, 3, none⟩ c3).setCell ⟨g, 4, none⟩ c4) :=
  ((((h.setCell (p := ⟨g, 0, none⟩) hg _).setCell (p := ⟨g, 1, none⟩) hg _).setCell (p := ⟨g, 2, none⟩) hg _).setCell (p := ⟨g, 3, none⟩) hg _).setCell (p := ⟨g, 4, none⟩) hg _
theorem AsmLeads_w (L : List It) (v : Value) (a p : Int) (w : World) (hok : ∀ i, i < L.length → ItOk (L.getD i default)) (hv : RdT w v L) (ha1 : -9223372036854775808 ≤ a) (ha2 : a < 9223372036854775808) (hp1 : -9223372036854775808 ≤ p) (hp2 : p < 9223372036854775808) :
    Calls Try.prog 6 #[v, .int .i64 a, .int .i64 p] w fun e w' => e = .returned (.bool true) ∧ Below w.heap.size w w' := by
  have HA := Lib.hid awake5_c
  have HV := Lib.hid hv
  obtain ⟨ai, ci, rfl, hl1, hl2, -⟩ := hv
  unfold maxLen at hl2
  by_cases hn : 60 < L.length
  · have g0 : decide ((60 : Int) < (L.length : Int)) = true := decide_eq_true (by omega)
    clear hn hok HV
    go_enter Try.func6, Try.ntmps6
    go_wp2_with (go_at_call 12; refine (HA.out _).mono ?_; rintro e w1 ⟨rfl, hb1⟩)
    go_ret
    exact ⟨rfl, hb1⟩
  · have g0 : decide ((60 : Int) < (L.length : Int)) = false := decide_eq_false (by omega)
    have HP := Lib.hid (padded_c L _ a p w HV.out (by omega) hp1 hp2)
    have HI := Lib.hid (immOk_pad L a p hok)
    clear hok HV ha1 ha2 hp1 hp2
    generalize padN L a p L.length = P at *
    have HAS : Hid (∀ v w, RdT w v P → Calls Try.prog 14 #[v] w (AsmP P w)) := fun v w h => assemble_c P v w h
    go_enter Try.func6, Try.ntmps6
    go_wp2_with fail
    refine HP.out.mono ?_
    rintro e w1 ⟨u, rfl, hu, hb1⟩
    have HU := Lib.hid hu
    have B1 := Lib.hid hb1
    clear hu hb1
    go_wp2_with fail
    refine (HAS.out _ _ HU.out).mono ?_
    rintro e w2 ⟨vw, vl, rfl, hw, hl, hb2⟩
    have HU2 := HU.out.ext (Ext.below hb2)
    have B2 : Hid (Below w.heap.size w w2) := B1.out.trans (hb2.mono B1.out.size)
    clear HU hb2 B1 HAS HP
    by_cases hE : asmE P = 0
    · obtain ⟨hn2, hokN, hd, hms, hin⟩ := asmE_yes P hE
      have hV : OkL P := okN_at P P.length hokN
      unfold asmW at hw
      unfold asmL at hl
      rw [if_pos hE] at hw hl
      rw [hE]
      have HOk := Lib.hid (all_ok P hE)
      have HLb := Lib.hid (label_at P hV hd hms)
      have HLd := Lib.hid (leads_at P hV hms)
      have HWa := Lib.hid (words_at P)
      have HWn := Lib.hid (wordsF_len P)
      have HVV := Lib.hid hV
      have HWb := Lib.hid (wy_bd P hn2)
      clear hE hokN hd hms hin hV
      obtain ⟨au, cu, rfl, hu1, hu2, hu3⟩ := HU2
      obtain ⟨aw, cw, rfl, hw1, hw2, hw3⟩ := hw
      obtain ⟨al, cl, rfl, hl3, hl4, hl5⟩ := hl
      unfold maxLen at hu2 hw2 hl4
      have HIT := Lib.hid hu3
      have HWD := Lib.hid hw3
      have HLD := Lib.hid hl5
      clear hu3 hw3 hl5
      have HTW : Hid ((wordsF P P.length).length ≤ 2 * P.length) := HWn.out P.length
      generalize hNN : (wordsF P P.length).length = N at *
      generalize hMM : (lblF P).length = M at *
      have HNN := Lib.hid hNN
      have HMM := Lib.hid hMM
      clear hNN hMM
      have hN := HTW.out
      go_wp2_with fail
      go_loopw [11, 12] (fun q i wr => ∃ k : Nat, k ≤ P.length ∧ i = .int .i64 (k : Int) ∧ q = .int .i64 ((wordsF P k).length : Int) ∧ Hid (Below w2.heap.size w2 wr)) (fun _ i _ => P.length - (intOf i).toNat)
      case atStart => exact ⟨0, Nat.zero_le _, rfl, rfl, Below.refl _ _⟩
      case round =>
        obtain ⟨k, hk, rfl, rfl, B⟩ := hrel
        by_cases hlk : k < P.length
        · obtain ⟨b, o, rfl, hc⟩ := HIT.out k hlk
          have hbw : b < w2.heap.size := World.block_lt_of_cell? w2 _ hc.kind
          have hc := hc.sub (c' := fun j => wr.cell? ⟨b, o + k * 7 + j, none⟩) fun j v hv => (B.out.cell (p := ⟨b, o + k * 7 + j, none⟩) hbw).trans hv
          have hkd := item_kinds _ (HVV.out k hlk)
          have hK := HWn.out k
          have HOk := Lib.hid (HOk.out k hlk)
          have HLb := Lib.hid (HLb.out k hlk)
          have HLd := Lib.hid (HLd.out k hlk)
          have HWa := Lib.hid (fun j => HWa.out k j hlk)
          have HWb := HWb.out k (by omega)
          have HK2 : Hid ((wordsF P (k + 1)).length = (wordsF P k).length + (itemL P k).length) := by show (wordsF P k ++ (itemL P k).map encW).length = _; rw [List.length_append, List.length_map]
          have HIL : Hid (itemL P k = insL (P.getD k default) ((farF P).getD k false) (wyF P k)) := rfl
          have HIM := HI.out k hlk
          have HI3 := Lib.hid (item_3 _ (HVV.out k hlk))
          have y0 := hc.kind
          have y1 := hc.op
          have y2 := hc.rd
          have y3 := hc.rs1
          have y4 := hc.rs2
          have y5 := hc.imm
          have y6 := hc.label
          simp only [Nat.add_zero] at y0
          clear hc
          obtain ⟨hb1, hb2⟩ := HWb
          generalize wyF P k = d at *
          generalize itemL P k = I at *
          generalize (farF P).getD k false = f at *
          generalize hKK : (wordsF P k).length = K at *
          generalize P.getD k default = X at *
          obtain ⟨kind, ⟨op, rd, rs1, rs2, imm⟩, label⟩ := X
          dsimp only at y0 y1 y2 y3 y4 y5 y6 hkd HIM HI3 HLb HLd
          clear hKK
          have hKb : K ≤ 65536 := by omega
          rcases hkd with rfl | rfl | rfl | rfl | rfl
          · obtain rfl : I = [⟨op, rd, rs1, rs2, imm⟩] := HIL.out
            have HK3 : Hid ((wordsF P (k + 1)).length = K + 1) := HK2
            obtain ⟨hKN, hwk⟩ := HWa.out 0 (by simp)
            simp only [Nat.add_zero, List.getD_cons_zero] at hKN hwk
            obtain ⟨bw, ow, rfl, hcw⟩ := HWD.out K hKN
            rw [hwk] at hcw
            simp only [Nat.mul_one, Nat.add_zero] at hcw
            have lbw : bw < w2.heap.size := World.block_lt_of_cell? w2 _ hcw
            have zw := (B.out.cell (p := ⟨bw, ow + K, none⟩) lbw).trans hcw
            have lbw2 : bw < wr.heap.size := World.block_lt_of_cell? wr _ zw
            have gN : decide (N ≤ K) = false := decide_eq_false (by omega)
            have HD : Hid (∀ w, Calls Try.prog 26 #[.int .u32 (encW ⟨op, rd, rs1, rs2, imm⟩)] w fun e w' => e = .returned (.tuple #[.agg #[.int .i64 op, .int .i64 rd, .int .i64 rs1, .int .i64 rs2, .int .i64 imm], .int .i64 0]) ∧ Below w.heap.size w w') := fun w => dec_w ⟨op, rd, rs1, rs2, imm⟩ (HOk.out _ (by simp)) w
            generalize encW ⟨op, rd, rs1, rs2, imm⟩ = ew at *
            (try clear HI3)
            clear HIL HK2 HLb HLd HWa HOk hwk
            go_wp2_with fail
            refine (HD.out _).mono ?_
            rintro e w4 ⟨rfl, hb4⟩
            obtain ⟨W5, hW5⟩ : ∃ W5, W5 = w4.alloc (.cells #[.int .i64 op, .int .i64 rd, .int .i64 rs1, .int .i64 rs2, .int .i64 imm] 39) := ⟨_, rfl⟩
            obtain ⟨BW, h1, h2, l5, l4, nlt⟩ := two_blocks hb4 hW5
            have ne : wr.heap.size ≠ w4.heap.size := by omega
            have H1 := Lib.hid h1
            have H2 := Lib.hid h2
            have BW : Hid (Below w2.heap.size w2 W5) := B.out.trans (BW.mono B.out.size)
            clear hb4 h1 h2 y0 y1 y2 y3 y4 y5 y6
            go_wp2_with fail
            rw [← hW5]
            clear hW5
            have y0 := cell_of_heap H1.out 0
            have y1 := cell_of_heap H1.out 1
            have y2 := cell_of_heap H1.out 2
            have y5 := cell_of_heap H1.out 5
            have y6 := cell_of_heap H1.out 6
            have x0 := cell_of_heap H2.out 0
            have x4 := cell_of_heap H2.out 4
            simp only [List.getElem?_toArray, List.getElem?_cons_zero, List.getElem?_cons_succ] at y0 y1 y2 y5 y6 x0 x4
            go_quiet (fail)
            have BW : Hid (Below w2.heap.size w2 (W5.drewN nq)) := below_drewN' BW.out nq
            have H1 : Hid ((W5.drewN nq).heap[wr.heap.size]? = _) := H1
            have H2 : Hid ((W5.drewN nq).heap[w4.heap.size]? = _) := H2
            have l5 : wr.heap.size < (W5.drewN nq).heap.size := l5
            have l4 : w4.heap.size < (W5.drewN nq).heap.size := l4
            clear y0 y1 y2 y5 y6 x0 x4
            generalize W5.drewN nq = W6 at BW H1 H2 l5 l4 ⊢
            have y0 := cell_of_heap H1.out 0
            have y1 := cell_of_heap H1.out 1
            have y2 := cell_of_heap H1.out 2
            have y5 := cell_of_heap H1.out 5
            have y6 := cell_of_heap H1.out 6
            have x0 := cell_of_heap H2.out 0
            have x4 := cell_of_heap H2.out 4
            simp only [List.getElem?_toArray, List.getElem?_cons_zero, List.getElem?_cons_succ] at y0 y1 y2 y5 y6 x0 x4
            go_wp2_with fail
            go_quiet (fail)
            have BW : Hid (Below w2.heap.size w2 (W6.drewN nq)) := below_drewN' BW.out nq
            have H1 : Hid ((W6.drewN nq).heap[wr.heap.size]? = _) := H1
            have H2 : Hid ((W6.drewN nq).heap[w4.heap.size]? = _) := H2
            have l5 : wr.heap.size < (W6.drewN nq).heap.size := l5
            have l4 : w4.heap.size < (W6.drewN nq).heap.size := l4
            clear y0 y1 y2 y5 y6 x0 x4
            generalize W6.drewN nq = W7 at BW H1 H2 l5 l4 ⊢
            have y0 := cell_of_heap H1.out 0
            have y1 := cell_of_heap H1.out 1
            have y2 := cell_of_heap H1.out 2
            have y5 := cell_of_heap H1.out 5
            have y6 := cell_of_heap H1.out 6
            have x0 := cell_of_heap H2.out 0
            have x4 := cell_of_heap H2.out 4
            simp only [List.getElem?_toArray, List.getElem?_cons_zero, List.getElem?_cons_succ] at y0 y1 y2 y5 y6 x0 x4
            go_wp2_with fail
            go_roundw
            case rel => exact ⟨k + 1, by omega, by go_num, by first | (rw [HK3.out]; done) | (rw [HK3.out]; go_num), BW.out⟩
            case measure => first | (simp [intOf]; done) | (simp [intOf]; omega)
          · obtain rfl : I = [] := HIL.out
            have HK3 : Hid ((wordsF P (k + 1)).length = K) := HK2
            obtain ⟨l, rfl, hlM, hll⟩ := HLb.out rfl
            obtain ⟨bl, o_l, rfl, hml⟩ := HLD.out l hlM
            rw [hll] at hml
            simp only [Nat.mul_one, Nat.add_zero] at hml
            have lbl : bl < w2.heap.size := World.block_lt_of_cell? w2 _ hml
            have ml := (B.out.cell (p := ⟨bl, o_l + l, none⟩) lbl).trans hml
            have lbl2 : bl < wr.heap.size := World.block_lt_of_cell? wr _ ml
            have gM : decide (M ≤ l) = false := decide_eq_false (by omega)
            have BW : Hid (Below w2.heap.size w2 (wr.alloc (.cells #[.int .i64 2, .int .i64 op, .int .i64 rd, .int .i64 rs1, .int .i64 rs2, .int .i64 imm, .int .i64 (l : Int)] 41))) := B.out.trans ((below_a1 _ _).mono B.out.size)
            clear HIL HK2 HI3 HLb HLd HWa HOk hll hml
            go_wp2_with fail
            go_roundw
            case rel => exact ⟨k + 1, by omega, by go_num, by first | (rw [HK3.out]; done) | (rw [HK3.out]; go_num), BW.out⟩
            case measure => first | (simp [intOf]; done) | (simp [intOf]; omega)
          · have HI3 := HI3.out rfl
            obtain ⟨-, hop1, hop2, -⟩ := HI3
            obtain ⟨l, rfl, hlM, hll⟩ := HLd.out (.inl rfl)
            obtain ⟨bl, o_l, rfl, hml⟩ := HLD.out l hlM
            rw [hll] at hml
            simp only [Nat.mul_one, Nat.add_zero] at hml
            have lbl : bl < w2.heap.size := World.block_lt_of_cell? w2 _ hml
            have gM : decide (M ≤ l) = false := decide_eq_false (by omega)
            have HCN : Hid (op ≠ contrF op) := show op ≠ _ by unfold contrF; split <;> (try split) <;> omega
            cases f
            · obtain rfl : I = [⟨op, rd, rs1, rs2, d⟩] := HIL.out
              have HK3 : Hid ((wordsF P (k + 1)).length = K + 1) := HK2
              obtain ⟨hKN, hwk⟩ := HWa.out 0 (by simp)
              simp only [Nat.add_zero, List.getD_cons_zero] at hKN hwk
              obtain ⟨bw, ow, rfl, hcw⟩ := HWD.out K hKN
              rw [hwk] at hcw
              simp only [Nat.mul_one, Nat.add_zero] at hcw
              have lbw : bw < w2.heap.size := World.block_lt_of_cell? w2 _ hcw
              have zw := (B.out.cell (p := ⟨bw, ow + K, none⟩) lbw).trans hcw
              have lbw2 : bw < wr.heap.size := World.block_lt_of_cell? wr _ zw
              have gN : decide (N ≤ K) = false := decide_eq_false (by omega)
              have HD : Hid (∀ w, Calls Try.prog 26 #[.int .u32 (encW ⟨op, rd, rs1, rs2, d⟩)] w fun e w' => e = .returned (.tuple #[.agg #[.int .i64 op, .int .i64 rd, .int .i64 rs1, .int .i64 rs2, .int .i64 d], .int .i64 0]) ∧ Below w.heap.size w w') := fun w => dec_w ⟨op, rd, rs1, rs2, d⟩ (HOk.out _ (by simp)) w
              generalize encW ⟨op, rd, rs1, rs2, d⟩ = ew at *
              (try clear HI3)
              clear HIL HK2 HLb HLd HWa HOk hwk
              go_wp2_with fail
              refine (HD.out _).mono ?_
              rintro e w4 ⟨rfl, hb4⟩
              obtain ⟨W5, hW5⟩ : ∃ W5, W5 = w4.alloc (.cells #[.int .i64 op, .int .i64 rd, .int .i64 rs1, .int .i64 rs2, .int .i64 d] 39) := ⟨_, rfl⟩
              obtain ⟨BW, h1, h2, l5, l4, nlt⟩ := two_blocks hb4 hW5
              have ne : wr.heap.size ≠ w4.heap.size := by omega
              have H1 := Lib.hid h1
              have H2 := Lib.hid h2
              have BW : Hid (Below w2.heap.size w2 W5) := B.out.trans (BW.mono B.out.size)
              clear hb4 h1 h2 y0 y1 y2 y3 y4 y5 y6
              go_wp2_with fail
              rw [← hW5]
              clear hW5
              have y0 := cell_of_heap H1.out 0
              have y1 := cell_of_heap H1.out 1
              have y2 := cell_of_heap H1.out 2
              have y5 := cell_of_heap H1.out 5
              have y6 := cell_of_heap H1.out 6
              have x0 := cell_of_heap H2.out 0
              have x4 := cell_of_heap H2.out 4
              simp only [List.getElem?_toArray, List.getElem?_cons_zero, List.getElem?_cons_succ] at y0 y1 y2 y5 y6 x0 x4
              have HQ : Hid (∀ n, Calls Try.prog 20 #[.int .i64 op] (W5.drewN n) fun e w'' => e = .returned (.int .i64 (contrF op)) ∧ w'' = W5.drewN n) := fun n => (contr_c op _).mono fun e w' ⟨h1, h2⟩ => ⟨h1, h2.symm⟩
              have gC : (op == contrF op) = false := beq_eq_false_iff_ne.2 HCN.out
              go_quiet ((go_at_call 20; exact Calls.quiet_of_same (HQ.out _)))
              clear HQ gC
              have BW : Hid (Below w2.heap.size w2 (W5.drewN nq)) := below_drewN' BW.out nq
              have H1 : Hid ((W5.drewN nq).heap[wr.heap.size]? = _) := H1
              have H2 : Hid ((W5.drewN nq).heap[w4.heap.size]? = _) := H2
              have l5 : wr.heap.size < (W5.drewN nq).heap.size := l5
              have l4 : w4.heap.size < (W5.drewN nq).heap.size := l4
              clear y0 y1 y2 y5 y6 x0 x4
              generalize W5.drewN nq = W6 at BW H1 H2 l5 l4 ⊢
              have y0 := cell_of_heap H1.out 0
              have y1 := cell_of_heap H1.out 1
              have y2 := cell_of_heap H1.out 2
              have y5 := cell_of_heap H1.out 5
              have y6 := cell_of_heap H1.out 6
              have x0 := cell_of_heap H2.out 0
              have x4 := cell_of_heap H2.out 4
              simp only [List.getElem?_toArray, List.getElem?_cons_zero, List.getElem?_cons_succ] at y0 y1 y2 y5 y6 x0 x4
              go_wp2_with fail
              have ml := (BW.out.cell (p := ⟨bl, o_l + l, none⟩) lbl).trans hml
              have HS : IntKind.i64.wrap (4 * (K : Int) + d) = 4 * (K : Int) + d := IntWalk.i64_in _ (by omega)
              go_quiet (fail)
              clear HS ml
              have BW : Hid (Below w2.heap.size w2 (W6.drewN nq)) := below_drewN' BW.out nq
              have H1 : Hid ((W6.drewN nq).heap[wr.heap.size]? = _) := H1
              have H2 : Hid ((W6.drewN nq).heap[w4.heap.size]? = _) := H2
              have l5 : wr.heap.size < (W6.drewN nq).heap.size := l5
              have l4 : w4.heap.size < (W6.drewN nq).heap.size := l4
              clear y0 y1 y2 y5 y6 x0 x4
              generalize W6.drewN nq = W7 at BW H1 H2 l5 l4 ⊢
              have y0 := cell_of_heap H1.out 0
              have y1 := cell_of_heap H1.out 1
              have y2 := cell_of_heap H1.out 2
              have y5 := cell_of_heap H1.out 5
              have y6 := cell_of_heap H1.out 6
              have x0 := cell_of_heap H2.out 0
              have x4 := cell_of_heap H2.out 4
              simp only [List.getElem?_toArray, List.getElem?_cons_zero, List.getElem?_cons_succ] at y0 y1 y2 y5 y6 x0 x4
              go_wp2_with fail
              go_roundw
              case rel => exact ⟨k + 1, by omega, by go_num, by first | (rw [HK3.out]; done) | (rw [HK3.out]; go_num), BW.out⟩
              case measure => first | (simp [intOf]; done) | (simp [intOf]; omega)
            · obtain rfl : I = [⟨contrF op, rd, rs1, rs2, 8⟩, ⟨3, 0, 0, 0, d - 4⟩] := HIL.out
              have HK3 : Hid ((wordsF P (k + 1)).length = K + 2) := HK2
              obtain ⟨hKN2, hwk2⟩ := HWa.out 1 (by simp)
              simp only [List.getD_cons_succ, List.getD_cons_zero] at hwk2
              have HF : Hid (∀ w, Calls Try.prog 27 #[.int .u32 (encW ⟨3, 0, 0, 0, d - 4⟩)] w fun e w' => e = .returned (.bool true) ∧ Below w.heap.size w w') := fun w => far_yes (d - 4) (HOk.out _ (by simp)) w
              have HD2 : Hid (∀ w, Calls Try.prog 26 #[.int .u32 (encW ⟨3, 0, 0, 0, d - 4⟩)] w fun e w' => e = .returned (.tuple #[.agg #[.int .i64 3, .int .i64 0, .int .i64 0, .int .i64 0, .int .i64 (d - 4)], .int .i64 0]) ∧ Below w.heap.size w w') := fun w => dec_w _ (HOk.out _ (by simp)) w
              generalize encW ⟨3, 0, 0, 0, d - 4⟩ = ew2 at *
              have HW2 := Lib.hid hwk2
              obtain ⟨hKN, hwk⟩ := HWa.out 0 (by simp)
              simp only [Nat.add_zero, List.getD_cons_zero] at hKN hwk
              obtain ⟨bw, ow, rfl, hcw⟩ := HWD.out K hKN
              rw [hwk] at hcw
              simp only [Nat.mul_one, Nat.add_zero] at hcw
              have lbw : bw < w2.heap.size := World.block_lt_of_cell? w2 _ hcw
              have zw := (B.out.cell (p := ⟨bw, ow + K, none⟩) lbw).trans hcw
              have lbw2 : bw < wr.heap.size := World.block_lt_of_cell? wr _ zw
              have gN : decide (N ≤ K) = false := decide_eq_false (by omega)
              have HD : Hid (∀ w, Calls Try.prog 26 #[.int .u32 (encW ⟨contrF op, rd, rs1, rs2, 8⟩)] w fun e w' => e = .returned (.tuple #[.agg #[.int .i64 (contrF op), .int .i64 rd, .int .i64 rs1, .int .i64 rs2, .int .i64 8], .int .i64 0]) ∧ Below w.heap.size w w') := fun w => dec_w ⟨contrF op, rd, rs1, rs2, 8⟩ (HOk.out _ (by simp)) w
              generalize encW ⟨contrF op, rd, rs1, rs2, 8⟩ = ew at *
              (try clear HI3)
              clear HIL HK2 HLb HLd HWa HOk hwk
              obtain ⟨b', o', e', hcw2⟩ := HWD.out (K + 1) hKN2
              cases e'
              rw [HW2.out] at hcw2
              simp only [Nat.mul_one, Nat.add_zero] at hcw2
              clear HW2
              go_wp2_with fail
              refine (HD.out _).mono ?_
              rintro e w4 ⟨rfl, hb4⟩
              obtain ⟨W5, hW5⟩ : ∃ W5, W5 = w4.alloc (.cells #[.int .i64 (contrF op), .int .i64 rd, .int .i64 rs1, .int .i64 rs2, .int .i64 8] 39) := ⟨_, rfl⟩
              obtain ⟨BW, h1, h2, l5, l4, nlt⟩ := two_blocks hb4 hW5
              have ne : wr.heap.size ≠ w4.heap.size := by omega
              have H1 := Lib.hid h1
              have H2 := Lib.hid h2
              have BW : Hid (Below w2.heap.size w2 W5) := B.out.trans (BW.mono B.out.size)
              clear hb4 h1 h2 y0 y1 y2 y3 y4 y5 y6
              go_wp2_with fail
              rw [← hW5]
              clear hW5
              have y0 := cell_of_heap H1.out 0
              have y1 := cell_of_heap H1.out 1
              have y2 := cell_of_heap H1.out 2
              have y5 := cell_of_heap H1.out 5
              have y6 := cell_of_heap H1.out 6
              have x0 := cell_of_heap H2.out 0
              have x4 := cell_of_heap H2.out 4
              simp only [List.getElem?_toArray, List.getElem?_cons_zero, List.getElem?_cons_succ] at y0 y1 y2 y5 y6 x0 x4
              have zw2 := (BW.out.cell (p := ⟨bw, ow + (K + 1), none⟩) lbw).trans hcw2
              have g0 : (0 : Int) ≤ (K : Int) + 1 := by omega
              have g1 : ((K : Int) + 1).toNat = K + 1 := by omega
              have g2 : IntKind.i64.wrap ((K : Int) + 1) = (K : Int) + 1 := IntWalk.i64_in _ (by omega)
              have g3 : decide ((K : Int) + 1 < (N : Int)) = true := decide_eq_true (by omega)
              have HC := Lib.hid (fun w => contr_c op w)
              refine wp_region_junk (fun _ => True) (by kernel_rfl) ?_
              refine J_mob 0 _ rfl (by kernel_rfl) ?_
              simp only [List.getElem_toArray, List.getElem_cons_succ, List.getElem_cons_zero]
              go_big_quiet_step (fail)
              refine wpQuiet_nil ?_
              refine J_mob 1 _ rfl (by kernel_rfl) ?_
              simp only [List.getElem_toArray, List.getElem_cons_succ, List.getElem_cons_zero]
              go_big_quiet_step (fail)
              refine wpQuiet_nil ?_
              refine J_mob 2 _ rfl (by kernel_rfl) ?_
              simp only [List.getElem_toArray, List.getElem_cons_succ, List.getElem_cons_zero]
              go_big_quiet_step (fail)
              refine wpQuiet_nil ?_
              refine J_mob 3 _ rfl (by kernel_rfl) ?_
              simp only [List.getElem_toArray, List.getElem_cons_succ, List.getElem_cons_zero]
              go_big_quiet_step (fail)
              refine wpQuiet_nil ?_
              refine J_mob 4 _ rfl (by kernel_rfl) ?_
              simp only [List.getElem_toArray, List.getElem_cons_succ, List.getElem_cons_zero]
              go_big_quiet_step (fail)
              refine wpQuiet_nil ?_
              refine J_mob 5 _ rfl (by kernel_rfl) ?_
              simp only [List.getElem_toArray, List.getElem_cons_succ, List.getElem_cons_zero]
              go_big_quiet_step (fail)
              refine wpQuiet_nil ?_
              refine J_mob 6 _ rfl (by kernel_rfl) ?_
              simp only [List.getElem_toArray, List.getElem_cons_succ, List.getElem_cons_zero]
              go_big_quiet_step (fail)
              refine wpQuiet_nil ?_
              refine J_mob 7 _ rfl (by kernel_rfl) ?_
              simp only [List.getElem_toArray, List.getElem_cons_succ, List.getElem_cons_zero]
              go_big_quiet_step (fail)
              refine wpQuiet_nil ?_
              refine J_mob 8 _ rfl (by kernel_rfl) ?_
              simp only [List.getElem_toArray, List.getElem_cons_succ, List.getElem_cons_zero]
              go_big_quiet_step (fail)
              refine wpQuiet_nil ?_
              refine J_call 9 _ (.int .i64 (contrF op)) rfl (by kernel_rfl) rfl ?_ ?_
              all_goals simp only [List.getElem_toArray, List.getElem_cons_succ, List.getElem_cons_zero]
              · intro wk hk
                go_wp2_with fail
                refine (HC.out _).mono ?_
                rintro e wz ⟨rfl, rfl⟩
                go_wp2_with fail
                exact ⟨rfl, Below.refl _ _⟩
              simp only [Act.put, List.setIfInBounds_toArray, List.set_cons_succ, List.set_cons_zero]
              refine J_mob 10 _ rfl (by kernel_rfl) ?_
              simp only [List.getElem_toArray, List.getElem_cons_succ, List.getElem_cons_zero]
              go_big_quiet_step (fail)
              refine wpQuiet_nil ?_
              refine J_mob 11 _ rfl (by kernel_rfl) ?_
              simp only [List.getElem_toArray, List.getElem_cons_succ, List.getElem_cons_zero]
              go_big_quiet_step (fail)
              refine wpQuiet_nil ?_
              refine J_mob 12 _ rfl (by kernel_rfl) ?_
              simp only [List.getElem_toArray, List.getElem_cons_succ, List.getElem_cons_zero]
              go_big_quiet_step (fail)
              refine wpQuiet_nil ?_
              refine J_mob 13 _ rfl (by kernel_rfl) ?_
              simp only [List.getElem_toArray, List.getElem_cons_succ, List.getElem_cons_zero]
              go_big_quiet_step (fail)
              refine wpQuiet_nil ?_
              refine J_mob 14 _ rfl (by kernel_rfl) ?_
              simp only [List.getElem_toArray, List.getElem_cons_succ, List.getElem_cons_zero]
              go_big_quiet_step (fail)
              refine wpQuiet_nil ?_
              refine J_mob 15 _ rfl (by kernel_rfl) ?_
              simp only [List.getElem_toArray, List.getElem_cons_succ, List.getElem_cons_zero]
              go_big_quiet_step (fail)
              refine wpQuiet_nil ?_
              refine J_mob 16 _ rfl (by kernel_rfl) ?_
              simp only [List.getElem_toArray, List.getElem_cons_succ, List.getElem_cons_zero]
              go_big_quiet_step (fail)
              refine wpQuiet_nil ?_
              refine J_mob 17 _ rfl (by kernel_rfl) ?_
              simp only [List.getElem_toArray, List.getElem_cons_succ, List.getElem_cons_zero]
              go_big_quiet_step (fail)
              refine wpQuiet_nil ?_
              refine J_mob 18 _ rfl (by kernel_rfl) ?_
              simp only [List.getElem_toArray, List.getElem_cons_succ, List.getElem_cons_zero]
              go_big_quiet_step (fail)
              refine wpQuiet_nil ?_
              refine J_mob 19 _ rfl (by kernel_rfl) ?_
              simp only [List.getElem_toArray, List.getElem_cons_succ, List.getElem_cons_zero]
              go_big_quiet_step (fail)
              refine wpQuiet_nil ?_
              refine J_mob 20 _ rfl (by kernel_rfl) ?_
              simp only [List.getElem_toArray, List.getElem_cons_succ, List.getElem_cons_zero]
              go_big_quiet_step (fail)
              refine wpQuiet_nil ?_
              refine J_mob 21 _ rfl (by kernel_rfl) ?_
              simp only [List.getElem_toArray, List.getElem_cons_succ, List.getElem_cons_zero]
              go_big_quiet_step (fail)
              refine wpQuiet_nil ?_
              refine J_mob 22 _ rfl (by kernel_rfl) ?_
              simp only [List.getElem_toArray, List.getElem_cons_succ, List.getElem_cons_zero]
              go_big_quiet_step (fail)
              refine wpQuiet_nil ?_
              refine J_mob 23 _ rfl (by kernel_rfl) ?_
              simp only [List.getElem_toArray, List.getElem_cons_succ, List.getElem_cons_zero]
              go_big_quiet_step (fail)
              refine wpQuiet_nil ?_
              refine J_mob 24 _ rfl (by kernel_rfl) ?_
              simp only [List.getElem_toArray, List.getElem_cons_succ, List.getElem_cons_zero]
              go_big_quiet_step (fail)
              refine wpQuiet_nil ?_
              refine J_mob 25 _ rfl (by kernel_rfl) ?_
              simp only [List.getElem_toArray, List.getElem_cons_succ, List.getElem_cons_zero]
              go_big_quiet_step (fail)
              refine wpQuiet_nil ?_
              refine J_mob 26 _ rfl (by kernel_rfl) ?_
              simp only [List.getElem_toArray, List.getElem_cons_succ, List.getElem_cons_zero]
              go_big_quiet_step (fail)
              refine wpQuiet_nil ?_
              refine J_mob 27 _ rfl (by kernel_rfl) ?_
              simp only [List.getElem_toArray, List.getElem_cons_succ, List.getElem_cons_zero]
              go_big_quiet_step (fail)
              refine wpQuiet_nil ?_
              refine J_mob 28 _ rfl (by kernel_rfl) ?_
              simp only [List.getElem_toArray, List.getElem_cons_succ, List.getElem_cons_zero]
              go_big_quiet_step (fail)
              refine wpQuiet_nil ?_
              refine J_mob 29 _ rfl (by kernel_rfl) ?_
              simp only [List.getElem_toArray, List.getElem_cons_succ, List.getElem_cons_zero]
              go_big_quiet_step (fail)
              refine wpQuiet_nil ?_
              refine J_call 30 _ (.bool true) rfl (by kernel_rfl) rfl ?_ ?_
              all_goals simp only [List.getElem_toArray, List.getElem_cons_succ, List.getElem_cons_zero]
              · intro wk hk
                go_wp2_with fail
                refine (HF.out _).mono ?_
                rintro e wz ⟨rfl, hb⟩
                go_wp2_with fail
                exact ⟨rfl, hb⟩
              simp only [Act.put, List.setIfInBounds_toArray, List.set_cons_succ, List.set_cons_zero]
              refine J_mob 31 _ rfl (by kernel_rfl) ?_
              simp only [List.getElem_toArray, List.getElem_cons_succ, List.getElem_cons_zero]
              go_big_quiet_step (fail)
              refine wpQuiet_nil ?_
              refine J_done (by kernel_rfl) (fun wj hj => ?_) _
              have zw2 := (hj.cell (p := ⟨bw, ow + (K + 1), none⟩) (Nat.lt_of_lt_of_le lbw BW.out.size)).trans zw2
              have BW : Hid (Below w2.heap.size w2 wj) := BW.out.trans (hj.mono BW.out.size)
              have H1 : Hid (wj.heap[wr.heap.size]? = _) := (hj.block _ l5).trans H1.out
              have H2 : Hid (wj.heap[w4.heap.size]? = _) := (hj.block _ l4).trans H2.out
              have l5 : wr.heap.size < wj.heap.size := Nat.lt_of_lt_of_le l5 hj.size
              have l4 : w4.heap.size < wj.heap.size := Nat.lt_of_lt_of_le l4 hj.size
              clear hj g0 g1 g2 g3
              clear y0 y1 y2 y5 y6 x0 x4
              go_wp2_with fail
              refine (HD2.out _).mono ?_
              rintro e w7 ⟨rfl, hb7⟩
              have BW : Hid (Below w2.heap.size w2 w7) := BW.out.trans (hb7.mono BW.out.size)
              have H1 : Hid (w7.heap[wr.heap.size]? = _) := (hb7.block _ l5).trans H1.out
              have H2 : Hid (w7.heap[w4.heap.size]? = _) := (hb7.block _ l4).trans H2.out
              have l5 : wr.heap.size < w7.heap.size := Nat.lt_of_lt_of_le l5 hb7.size
              have l4 : w4.heap.size < w7.heap.size := Nat.lt_of_lt_of_le l4 hb7.size
              clear hb7
              have v0 := cell_of_heap H2.out 0
              have v1 := cell_of_heap H2.out 1
              have v2 := cell_of_heap H2.out 2
              have v3 := cell_of_heap H2.out 3
              have v4 := cell_of_heap H2.out 4
              simp only [List.getElem?_toArray, List.getElem?_cons_zero, List.getElem?_cons_succ] at v0 v1 v2 v3 v4
              have u0 := frozen_of_heap H2.out 0
              have u1 := frozen_of_heap H2.out 1
              have u2 := frozen_of_heap H2.out 2
              have u3 := frozen_of_heap H2.out 3
              have u4 := frozen_of_heap H2.out 4
              go_wp2_with fail
              have hq : w2.heap.size ≤ w4.heap.size := by have := B.out.size; omega
              obtain ⟨W8, hW8⟩ : ∃ W8, W8 = (((((w7.setCell ⟨w4.heap.size, 0, none⟩ (.int .i64 3)).setCell ⟨w4.heap.size, 1, none⟩ (.int .i64 0)).setCell ⟨w4.heap.size, 2, none⟩ (.int .i64 0)).setCell ⟨w4.heap.size, 3, none⟩ (.int .i64 0)).setCell ⟨w4.heap.size, 4, none⟩ (.int .i64 (d - 4))) := ⟨_, rfl⟩
              have BW : Hid (Below w2.heap.size w2 W8) := by rw [hW8]; exact set5_below BW.out hq _ _ _ _ _
              have H1 : Hid (W8.heap[wr.heap.size]? = _) := (show W8.heap[wr.heap.size]? = w7.heap[wr.heap.size]? by rw [hW8]; exact set5_other _ _ _ ne _ _ _ _ _).trans H1.out
              have x4 : W8.cell? ⟨w4.heap.size, 4, none⟩ = some (.int .i64 (d - 4)) := by rw [hW8]; exact set5 H2.out _ _ _ _ _
              clear v0 v1 v2 v3 v4 u0 u1 u2 u3 u4 H2
              rw [← hW8]
              clear hW8
              have y0 := cell_of_heap H1.out 0
              have y6 := cell_of_heap H1.out 6
              simp only [List.getElem?_toArray, List.getElem?_cons_zero, List.getElem?_cons_succ] at y0 y6
              have ml := (BW.out.cell (p := ⟨bl, o_l + l, none⟩) lbl).trans hml
              have HS : IntKind.i64.wrap (4 * (K : Int) + 4 + (d - 4)) = 4 * (K : Int) + d := by rw [show 4 * (K : Int) + 4 + (d - 4) = 4 * (K : Int) + d by omega]; exact IntWalk.i64_in _ (by omega)
              go_quiet (fail)
              clear HS ml
              have BW : Hid (Below w2.heap.size w2 (W8.drewN nq)) := below_drewN' BW.out nq
              have y0 : (W8.drewN nq).cell? ⟨wr.heap.size, 0, none⟩ = _ := y0
              generalize W8.drewN nq = W9 at BW y0 ⊢
              go_wp2_with fail
              go_roundw
              case rel => exact ⟨k + 1, by omega, by go_num, by first | (rw [HK3.out]; done) | (rw [HK3.out]; go_num), BW.out⟩
              case measure => first | (simp [intOf]; done) | (simp [intOf]; omega)
          · obtain ⟨l, rfl, hlM, hll⟩ := HLd.out (.inr rfl)
            obtain ⟨bl, o_l, rfl, hml⟩ := HLD.out l hlM
            rw [hll] at hml
            simp only [Nat.mul_one, Nat.add_zero] at hml
            have lbl : bl < w2.heap.size := World.block_lt_of_cell? w2 _ hml
            have gM : decide (M ≤ l) = false := decide_eq_false (by omega)
            obtain rfl : I = [⟨op, rd, rs1, rs2, d⟩] := HIL.out.trans (insL_4 _ _ _ rfl)
            have HK3 : Hid ((wordsF P (k + 1)).length = K + 1) := HK2
            obtain ⟨hKN, hwk⟩ := HWa.out 0 (by simp)
            simp only [Nat.add_zero, List.getD_cons_zero] at hKN hwk
            obtain ⟨bw, ow, rfl, hcw⟩ := HWD.out K hKN
            rw [hwk] at hcw
            simp only [Nat.mul_one, Nat.add_zero] at hcw
            have lbw : bw < w2.heap.size := World.block_lt_of_cell? w2 _ hcw
            have zw := (B.out.cell (p := ⟨bw, ow + K, none⟩) lbw).trans hcw
            have lbw2 : bw < wr.heap.size := World.block_lt_of_cell? wr _ zw
            have gN : decide (N ≤ K) = false := decide_eq_false (by omega)
            have HD : Hid (∀ w, Calls Try.prog 26 #[.int .u32 (encW ⟨op, rd, rs1, rs2, d⟩)] w fun e w' => e = .returned (.tuple #[.agg #[.int .i64 op, .int .i64 rd, .int .i64 rs1, .int .i64 rs2, .int .i64 d], .int .i64 0]) ∧ Below w.heap.size w w') := fun w => dec_w ⟨op, rd, rs1, rs2, d⟩ (HOk.out _ (by simp)) w
            generalize encW ⟨op, rd, rs1, rs2, d⟩ = ew at *
            (try clear HI3)
            clear HIL HK2 HLb HLd HWa HOk hwk
            go_wp2_with fail
            refine (HD.out _).mono ?_
            rintro e w4 ⟨rfl, hb4⟩
            obtain ⟨W5, hW5⟩ : ∃ W5, W5 = w4.alloc (.cells #[.int .i64 op, .int .i64 rd, .int .i64 rs1, .int .i64 rs2, .int .i64 d] 39) := ⟨_, rfl⟩
            obtain ⟨BW, h1, h2, l5, l4, nlt⟩ := two_blocks hb4 hW5
            have ne : wr.heap.size ≠ w4.heap.size := by omega
            have H1 := Lib.hid h1
            have H2 := Lib.hid h2
            have BW : Hid (Below w2.heap.size w2 W5) := B.out.trans (BW.mono B.out.size)
            clear hb4 h1 h2 y0 y1 y2 y3 y4 y5 y6
            go_wp2_with fail
            rw [← hW5]
            clear hW5
            have y0 := cell_of_heap H1.out 0
            have y1 := cell_of_heap H1.out 1
            have y2 := cell_of_heap H1.out 2
            have y5 := cell_of_heap H1.out 5
            have y6 := cell_of_heap H1.out 6
            have x0 := cell_of_heap H2.out 0
            have x4 := cell_of_heap H2.out 4
            simp only [List.getElem?_toArray, List.getElem?_cons_zero, List.getElem?_cons_succ] at y0 y1 y2 y5 y6 x0 x4
            go_quiet (fail)
            have BW : Hid (Below w2.heap.size w2 (W5.drewN nq)) := below_drewN' BW.out nq
            have H1 : Hid ((W5.drewN nq).heap[wr.heap.size]? = _) := H1
            have H2 : Hid ((W5.drewN nq).heap[w4.heap.size]? = _) := H2
            have l5 : wr.heap.size < (W5.drewN nq).heap.size := l5
            have l4 : w4.heap.size < (W5.drewN nq).heap.size := l4
            clear y0 y1 y2 y5 y6 x0 x4
            generalize W5.drewN nq = W6 at BW H1 H2 l5 l4 ⊢
            have y0 := cell_of_heap H1.out 0
            have y1 := cell_of_heap H1.out 1
            have y2 := cell_of_heap H1.out 2
            have y5 := cell_of_heap H1.out 5
            have y6 := cell_of_heap H1.out 6
            have x0 := cell_of_heap H2.out 0
            have x4 := cell_of_heap H2.out 4
            simp only [List.getElem?_toArray, List.getElem?_cons_zero, List.getElem?_cons_succ] at y0 y1 y2 y5 y6 x0 x4
            go_wp2_with fail
            have ml := (BW.out.cell (p := ⟨bl, o_l + l, none⟩) lbl).trans hml
            have HS : IntKind.i64.wrap (4 * (K : Int) + d) = 4 * (K : Int) + d := IntWalk.i64_in _ (by omega)
            go_quiet (fail)
            clear HS ml
            have BW : Hid (Below w2.heap.size w2 (W6.drewN nq)) := below_drewN' BW.out nq
            have H1 : Hid ((W6.drewN nq).heap[wr.heap.size]? = _) := H1
            have H2 : Hid ((W6.drewN nq).heap[w4.heap.size]? = _) := H2
            have l5 : wr.heap.size < (W6.drewN nq).heap.size := l5
            have l4 : w4.heap.size < (W6.drewN nq).heap.size := l4
            clear y0 y1 y2 y5 y6 x0 x4
            generalize W6.drewN nq = W7 at BW H1 H2 l5 l4 ⊢
            have y0 := cell_of_heap H1.out 0
            have y1 := cell_of_heap H1.out 1
            have y2 := cell_of_heap H1.out 2
            have y5 := cell_of_heap H1.out 5
            have y6 := cell_of_heap H1.out 6
            have x0 := cell_of_heap H2.out 0
            have x4 := cell_of_heap H2.out 4
            simp only [List.getElem?_toArray, List.getElem?_cons_zero, List.getElem?_cons_succ] at y0 y1 y2 y5 y6 x0 x4
            go_wp2_with fail
            go_roundw
            case rel => exact ⟨k + 1, by omega, by go_num, by first | (rw [HK3.out]; done) | (rw [HK3.out]; go_num), BW.out⟩
            case measure => first | (simp [intOf]; done) | (simp [intOf]; omega)
          · have HI5 := Lib.hid (HIL.out.trans (insL_5 _ _ _ rfl))
            have HI5 : Hid (I = constL rd (imm % 4294967296)) := HI5
            have hc1 := constL_len rd (imm % 4294967296)
            have hc0 := constL_pos rd (imm % 4294967296)
            have HNB := Lib.hid (fun w => rnumber_c rd imm w HIM.1 HIM.2)
            rw [← HI5.out] at hc1 hc0 HNB
            have hme : I.getD 0 default ∈ I := by simp [List.getD, hc0]
            obtain ⟨hKN, hwk⟩ := HWa.out 0 hc0
            have HOk0 := Lib.hid (HOk.out _ hme)
            have hl : I.length = 1 ∨ I.length = 2 := by omega
            generalize I.getD 0 default = X0 at *
            obtain ⟨p0, p1, p2, p3, p4⟩ := X0
            simp only [Nat.add_zero] at hKN hwk
            obtain ⟨bw, ow, rfl, hcw⟩ := HWD.out K hKN
            rw [hwk] at hcw
            simp only [Nat.mul_one, Nat.add_zero] at hcw
            have lbw : bw < w2.heap.size := World.block_lt_of_cell? w2 _ hcw
            have zw := (B.out.cell (p := ⟨bw, ow + K, none⟩) lbw).trans hcw
            have lbw2 : bw < wr.heap.size := World.block_lt_of_cell? wr _ zw
            have gN : decide (N ≤ K) = false := decide_eq_false (by omega)
            have HD : Hid (∀ w, Calls Try.prog 26 #[.int .u32 (encW ⟨p0, p1, p2, p3, p4⟩)] w fun e w' => e = .returned (.tuple #[.agg #[.int .i64 p0, .int .i64 p1, .int .i64 p2, .int .i64 p3, .int .i64 p4], .int .i64 0]) ∧ Below w.heap.size w w') := fun w => dec_w ⟨p0, p1, p2, p3, p4⟩ HOk0.out w
            generalize encW ⟨p0, p1, p2, p3, p4⟩ = ew at *
            clear HIL HI3 HLb HLd HWa HOk hwk HI5 hme HOk0 hc0 hc1
            have HL2 := Lib.hid hl
            clear hl
            go_wp2_with fail
            refine (HD.out _).mono ?_
            rintro e w4 ⟨rfl, hb4⟩
            obtain ⟨W5, hW5⟩ : ∃ W5, W5 = w4.alloc (.cells #[.int .i64 p0, .int .i64 p1, .int .i64 p2, .int .i64 p3, .int .i64 p4] 39) := ⟨_, rfl⟩
            obtain ⟨BW, h1, h2, l5, l4, nlt⟩ := two_blocks hb4 hW5
            have ne : wr.heap.size ≠ w4.heap.size := by omega
            have H1 := Lib.hid h1
            have H2 := Lib.hid h2
            have BW : Hid (Below w2.heap.size w2 W5) := B.out.trans (BW.mono B.out.size)
            clear hb4 h1 h2 y0 y1 y2 y3 y4 y5 y6
            go_wp2_with fail
            rw [← hW5]
            clear hW5
            have y0 := cell_of_heap H1.out 0
            have y1 := cell_of_heap H1.out 1
            have y2 := cell_of_heap H1.out 2
            have y5 := cell_of_heap H1.out 5
            have y6 := cell_of_heap H1.out 6
            have x0 := cell_of_heap H2.out 0
            have x4 := cell_of_heap H2.out 4
            simp only [List.getElem?_toArray, List.getElem?_cons_zero, List.getElem?_cons_succ] at y0 y1 y2 y5 y6 x0 x4
            go_quiet (fail)
            have BW : Hid (Below w2.heap.size w2 (W5.drewN nq)) := below_drewN' BW.out nq
            have H1 : Hid ((W5.drewN nq).heap[wr.heap.size]? = _) := H1
            have H2 : Hid ((W5.drewN nq).heap[w4.heap.size]? = _) := H2
            have l5 : wr.heap.size < (W5.drewN nq).heap.size := l5
            have l4 : w4.heap.size < (W5.drewN nq).heap.size := l4
            clear y0 y1 y2 y5 y6 x0 x4
            generalize W5.drewN nq = W6 at BW H1 H2 l5 l4 ⊢
            have y0 := cell_of_heap H1.out 0
            have y1 := cell_of_heap H1.out 1
            have y2 := cell_of_heap H1.out 2
            have y5 := cell_of_heap H1.out 5
            have y6 := cell_of_heap H1.out 6
            have x0 := cell_of_heap H2.out 0
            have x4 := cell_of_heap H2.out 4
            simp only [List.getElem?_toArray, List.getElem?_cons_zero, List.getElem?_cons_succ] at y0 y1 y2 y5 y6 x0 x4
            go_wp2_with fail
            go_quiet (fail)
            have BW : Hid (Below w2.heap.size w2 (W6.drewN nq)) := below_drewN' BW.out nq
            have H1 : Hid ((W6.drewN nq).heap[wr.heap.size]? = _) := H1
            have H2 : Hid ((W6.drewN nq).heap[w4.heap.size]? = _) := H2
            have l5 : wr.heap.size < (W6.drewN nq).heap.size := l5
            have l4 : w4.heap.size < (W6.drewN nq).heap.size := l4
            clear y0 y1 y2 y5 y6 x0 x4
            generalize W6.drewN nq = W7 at BW H1 H2 l5 l4 ⊢
            have y0 := cell_of_heap H1.out 0
            have y1 := cell_of_heap H1.out 1
            have y2 := cell_of_heap H1.out 2
            have y5 := cell_of_heap H1.out 5
            have y6 := cell_of_heap H1.out 6
            have x0 := cell_of_heap H2.out 0
            have x4 := cell_of_heap H2.out 4
            simp only [List.getElem?_toArray, List.getElem?_cons_zero, List.getElem?_cons_succ] at y0 y1 y2 y5 y6 x0 x4
            rcases HL2.out with hl | hl
            · have HK3 : Hid ((wordsF P (k + 1)).length = K + 1) := by show _ = _; rw [HK2.out, hl]
              have HL := Lib.hid hl
              clear hl
              go_wp2_with (go_at_call 28; refine (HNB.out _).mono ?_; rintro e w9 ⟨v9, rfl, hv9, -, hb9⟩; obtain ⟨a9, c9, e9, -, -, -⟩ := hv9; rw [HL.out] at e9; subst e9; have BW : Hid (Below w2.heap.size w2 w9) := BW.out.trans (hb9.mono BW.out.size); clear hb9)
              go_roundw
              case rel => exact ⟨k + 1, by omega, by go_num, by first | (rw [HK3.out]; done) | (rw [HK3.out]; go_num), BW.out⟩
              case measure => first | (simp [intOf]; done) | (simp [intOf]; omega)
            · have HK3 : Hid ((wordsF P (k + 1)).length = K + 2) := by show _ = _; rw [HK2.out, hl]
              have HL := Lib.hid hl
              clear hl
              go_wp2_with (go_at_call 28; refine (HNB.out _).mono ?_; rintro e w9 ⟨v9, rfl, hv9, -, hb9⟩; obtain ⟨a9, c9, e9, -, -, -⟩ := hv9; rw [HL.out] at e9; subst e9; have BW : Hid (Below w2.heap.size w2 w9) := BW.out.trans (hb9.mono BW.out.size); clear hb9)
              go_roundw
              case rel => exact ⟨k + 1, by omega, by go_num, by first | (rw [HK3.out]; done) | (rw [HK3.out]; go_num), BW.out⟩
              case measure => first | (simp [intOf]; done) | (simp [intOf]; omega)
        · obtain rfl : k = P.length := by omega
          rw [HNN.out]
          go_wp2_with (go_at_call 12; refine (HA.out _).mono ?_; rintro e w9 ⟨rfl, hb9⟩)
          go_ret
          exact ⟨rfl, B2.out.trans ((B.out.trans (hb9.mono B.out.size)).mono B2.out.size)⟩
    · have g1 : (asmE P != 0) = true := bne_iff_ne.2 hE
      clear hE hw hl HI
      generalize asmE P = E at *
      go_wp2_with (go_at_call 12; refine (HA.out _).mono ?_; rintro e w9 ⟨rfl, hb9⟩)
      go_ret
      exact ⟨rfl, B2.out.trans (hb9.mono B2.out.size)⟩
end Go.Proofs.Ytedihiodmgnlpaa
