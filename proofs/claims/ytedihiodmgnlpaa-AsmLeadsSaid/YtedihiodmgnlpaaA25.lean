/-
  The statement on the words of any items: its walk.
-/
import Derived.Test.YtedihiodmgnlpaaA23
import Derived.Test.YtedihiodmgnlpaaO2
set_option linter.all false
namespace Go.Proofs.Ytedihiodmgnlpaa
open Go.ChangeShapes Go.WideShapes Go.ChangeAt Go.RowKit Go.Maps
set_option maxHeartbeats 4000000
set_option linter.unusedVariables false
set_option maxRecDepth 100000

theorem immOk_pad (L : List It) (a p : Int) (hL : ∀ i, i < L.length → ItOk (L.getD i default)) : ImmOk (padN L a p L.length) := by
  intro k hk
  have h := padN_all (fun x => -9223372036854775808 ≤ x.i.imm ∧ x.i.imm < 9223372036854775808) L a p (by simp [nopI]) (fun i hi => by have := (hL i hi).imm; unfold I64 at this; omega) L.length (Nat.le_refl _) ((padN L a p L.length).getD k default) (by simp [List.getD, hk])
  exact h
theorem AsmMakes_w (L : List It) (v : Value) (a p : Int) (w : World) (hok : ∀ i, i < L.length → ItOk (L.getD i default)) (hv : RdT w v L) (ha1 : -9223372036854775808 ≤ a) (ha2 : a < 9223372036854775808) (hp1 : -9223372036854775808 ≤ p) (hp2 : p < 9223372036854775808) :
    Calls Try.prog 3 #[v, .int .i64 a, .int .i64 p] w fun e w' => e = .returned (.bool true) ∧ Below w.heap.size w w' := by
  have HA := Lib.hid awake5_c
  have HV := Lib.hid hv
  obtain ⟨ai, ci, rfl, hl1, hl2, -⟩ := hv
  unfold maxLen at hl2
  by_cases hn : 60 < L.length
  · have g0 : decide ((60 : Int) < (L.length : Int)) = true := decide_eq_true (by omega)
    clear hn hok HV
    go_enter Try.func3, Try.ntmps3
    go_wp2_with (go_at_call 12; refine (HA.out _).mono ?_; rintro e w1 ⟨rfl, hb1⟩)
    go_ret
    exact ⟨rfl, hb1⟩
  · have g0 : decide ((60 : Int) < (L.length : Int)) = false := decide_eq_false (by omega)
    have HP := Lib.hid (padded_c L _ a p w HV.out (by omega) hp1 hp2)
    have HI := Lib.hid (immOk_pad L a p hok)
    have HPN := Lib.hid (padN_len L a p L.length)
    clear hok HV ha1 ha2 hp1 hp2
    generalize padN L a p L.length = P at *
    have HPL : Hid (P.length ≤ 100000000) := by show _ ≤ _; have := HPN.out; omega
    have HAS : Hid (∀ v w, RdT w v P → Calls Try.prog 14 #[v] w (AsmP P w)) := fun v w h => assemble_c P v w h
    have HRS : Hid (∀ v w, RdT w v P → Calls Try.prog 15 #[v] w (MadeP P w)) := fun v w h => rassemble_c P v w h HI.out
    have HRF : Hid (∀ v w, RdT w v P → Calls Try.prog 16 #[v] w fun e w' => ∃ u, e = .returned u ∧ RdT w' u P ∧ Below w.heap.size w w') := fun v w h => ref_c P v w h HPL.out
    go_enter Try.func3, Try.ntmps3
    go_wp2_with fail
    refine HP.out.mono ?_
    rintro e w1 ⟨u, rfl, hu, hb1⟩
    have HU := Lib.hid hu
    have B1 := Lib.hid hb1
    clear hu hb1
    go_wp2_with fail
    refine (HAS.out _ _ HU.out).mono ?_
    rintro e w2 ⟨vw, vl, rfl, hw, hl, hb2⟩
    have HU2 := Lib.hid (HU.out.ext (Ext.below hb2))
    have B2 : Hid (Below w.heap.size w w2) := B1.out.trans (hb2.mono B1.out.size)
    have HW := Lib.hid hw
    have HL := Lib.hid hl
    clear HU hw hl hb2 B1 HAS HP
    go_wp2_with fail
    refine (HRF.out _ _ HU2.out).mono ?_
    rintro e w3 ⟨u2, rfl, hu2, hb3⟩
    have B3 : Hid (Below w.heap.size w w3) := B2.out.trans (hb3.mono B2.out.size)
    have HW := Lib.hid (HW.out.ext (Ext.below hb3))
    have HL := Lib.hid (HL.out.ext (Ext.below hb3))
    have HU3 := Lib.hid hu2
    clear hu2 hb3 HU2 B2 HRF
    go_wp2_with fail
    refine (HRS.out _ _ HU3.out).mono ?_
    rintro e w4 ⟨vw2, vl2, rfl, hw2, hl2, hb4⟩
    have B4 : Hid (Below w.heap.size w w4) := B3.out.trans (hb4.mono B3.out.size)
    have hx1 := HW.out.ext (Ext.below hb4)
    have hx2 := HL.out.ext (Ext.below hb4)
    clear hb4 HU3 B3 HRS HPN HPL HI HW HL
    generalize asmE P = E
    generalize asmW P = WS at *
    generalize asmL P = LS at *
    obtain ⟨a1, c1, rfl, p1, p2, h1⟩ := hx1
    obtain ⟨a2, c2, rfl, p3, p4, h2⟩ := hw2
    obtain ⟨a3, c3, rfl, p5, p6, h3⟩ := hx2
    obtain ⟨a4, c4, rfl, p7, p8, h4⟩ := hl2
    unfold maxLen at p2 p4 p6 p8
    obtain ⟨W5, hW5⟩ : ∃ W5, W5 = w4.alloc (.cells #[.slice a2 WS.length c2, .slice a4 LS.length c4, .int .i64 E] 31) := ⟨_, rfl⟩
    have B5 : Hid (Below w4.heap.size w4 W5) := by rw [hW5]; exact below_a1 _ _
    have lb : w4.heap.size < W5.heap.size := by rw [hW5]; simp
    have hb := heap_new w4 (.cells #[.slice a2 WS.length c2, .slice a4 LS.length c4, .int .i64 E] 31) w4.heap.size rfl
    rw [← hW5] at hb
    have m0 := cell_of_heap hb 0
    have m1 := cell_of_heap hb 1
    have m2 := cell_of_heap hb 2
    simp only [List.getElem?_toArray, List.getElem?_cons_zero, List.getElem?_cons_succ] at m0 m1 m2
    have H1 : Hid (∀ i, i < WS.length → ∃ b o, a1 = some ⟨b, o, none⟩ ∧ W5.cell? ⟨b, o + i * 1 + 0, none⟩ = some (.int .u32 (WS.getD i 0))) := fun i hi => by obtain ⟨b, o, e, h⟩ := h1 i hi; exact ⟨b, o, e, Ext.below B5.out _ _ h⟩
    have H2 : Hid (∀ i, i < WS.length → ∃ b o, a2 = some ⟨b, o, none⟩ ∧ W5.cell? ⟨b, o + i * 1 + 0, none⟩ = some (.int .u32 (WS.getD i 0))) := fun i hi => by obtain ⟨b, o, e, h⟩ := h2 i hi; exact ⟨b, o, e, Ext.below B5.out _ _ h⟩
    have H3 : Hid (∀ i, i < LS.length → ∃ b o, a3 = some ⟨b, o, none⟩ ∧ W5.cell? ⟨b, o + i * 1 + 0, none⟩ = some (.int .i64 (LS.getD i 0))) := fun i hi => by obtain ⟨b, o, e, h⟩ := h3 i hi; exact ⟨b, o, e, Ext.below B5.out _ _ h⟩
    have H4 : Hid (∀ i, i < LS.length → ∃ b o, a4 = some ⟨b, o, none⟩ ∧ W5.cell? ⟨b, o + i * 1 + 0, none⟩ = some (.int .i64 (LS.getD i 0))) := fun i hi => by obtain ⟨b, o, e, h⟩ := h4 i hi; exact ⟨b, o, e, Ext.below B5.out _ _ h⟩
    clear h1 h2 h3 h4 hb
    have B6 : Hid (Below w.heap.size w W5) := B4.out.trans (B5.out.mono B4.out.size)
    have M0 := Lib.hid m0
    have M1 := Lib.hid m1
    clear B4 B5
    go_wp2_with fail
    rw [← hW5]
    clear hW5 m0 m1 m2
    go_loopw [12] (fun i wr => ∃ k : Nat, k ≤ WS.length ∧ i = .int .i64 (k : Int) ∧ Hid (Below W5.heap.size W5 wr)) (fun i _ => WS.length - (intOf i).toNat)
    case atStart => exact ⟨0, Nat.zero_le _, rfl, Below.refl _ _⟩
    case round =>
      obtain ⟨k, hk, rfl, B⟩ := hrel
      by_cases hlk : k < WS.length
      · obtain ⟨b1, o1, rfl, k1⟩ := H1.out k hlk
        obtain ⟨b2, o2, rfl, k2⟩ := H2.out k hlk
        have l1 : b1 < W5.heap.size := World.block_lt_of_cell? W5 _ k1
        have l2 : b2 < W5.heap.size := World.block_lt_of_cell? W5 _ k2
        have k1 := (B.out.cell (p := ⟨b1, o1 + k * 1 + 0, none⟩) l1).trans k1
        have k2 := (B.out.cell (p := ⟨b2, o2 + k * 1 + 0, none⟩) l2).trans k2
        have m0 := (B.out.cell (p := ⟨w4.heap.size, 0, none⟩) lb).trans M0.out
        simp only [Nat.mul_one, Nat.add_zero] at k1 k2
        generalize WS.getD k 0 = x at *
        go_wp2_with fail
        go_quiet (fail)
        go_wp2_with fail
        go_roundw
        case rel => exact ⟨k + 1, by omega, by go_num, below_drewN' B.out _⟩
        case measure => first | (simp [intOf]; done) | (simp [intOf]; omega)
      · obtain rfl : k = WS.length := by omega
        have BB := B
        clear B
        go_wp2_with fail
        go_loopw [13] (fun i wr => ∃ k : Nat, k ≤ LS.length ∧ i = .int .i64 (k : Int) ∧ Hid (Below W5.heap.size W5 wr)) (fun i _ => LS.length - (intOf i).toNat)
        case atStart => exact ⟨0, Nat.zero_le _, rfl, BB⟩
        case round =>
          clear BB
          obtain ⟨k, hk, rfl, B⟩ := hrel
          by_cases hlk : k < LS.length
          · obtain ⟨b1, o1, rfl, k1⟩ := H3.out k hlk
            obtain ⟨b2, o2, rfl, k2⟩ := H4.out k hlk
            have l1 : b1 < W5.heap.size := World.block_lt_of_cell? W5 _ k1
            have l2 : b2 < W5.heap.size := World.block_lt_of_cell? W5 _ k2
            have k1 := (B.out.cell (p := ⟨b1, o1 + k * 1 + 0, none⟩) l1).trans k1
            have k2 := (B.out.cell (p := ⟨b2, o2 + k * 1 + 0, none⟩) l2).trans k2
            have m0 := (B.out.cell (p := ⟨w4.heap.size, 1, none⟩) lb).trans M1.out
            simp only [Nat.mul_one, Nat.add_zero] at k1 k2
            generalize LS.getD k 0 = x at *
            go_wp2_with fail
            go_quiet (fail)
            go_wp2_with fail
            go_roundw
            case rel => exact ⟨k + 1, by omega, by go_num, below_drewN' B.out _⟩
            case measure => first | (simp [intOf]; done) | (simp [intOf]; omega)
          · obtain rfl : k = LS.length := by omega
            go_wp2_with (go_at_call 12; refine (HA.out _).mono ?_; rintro e w9 ⟨rfl, hb9⟩)
            go_ret
            exact ⟨rfl, B6.out.trans ((B.out.trans (hb9.mono B.out.size)).mono B6.out.size)⟩
end Go.Proofs.Ytedihiodmgnlpaa
