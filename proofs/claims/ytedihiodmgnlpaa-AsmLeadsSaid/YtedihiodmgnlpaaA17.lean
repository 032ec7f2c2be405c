/-
  The document's May.
-/
import Derived.Test.YtedihiodmgnlpaaA16
set_option linter.all false
namespace Go.Proofs.Ytedihiodmgnlpaa
open Go.ChangeShapes Go.WideShapes Go.ChangeAt Go.RowKit Go.Maps
set_option maxHeartbeats 4000000
set_option linter.unusedVariables false
set_option maxRecDepth 20000

def mayE (L : List It) : Int := if 32768 < L.length then 2 else if okN L L.length = false then 1 else labE L
theorem okN_pre (L : List It) : ∀ n j, j ≤ n → okN L j = false → okN L n = false
  | 0, j, h, hd => by obtain rfl : j = 0 := by omega
                      exact hd
  | n + 1, j, h, hd => by
    by_cases e : j = n + 1
    · subst e; exact hd
    · unfold okN; rw [okN_pre L n j (by omega) hd]; rfl
theorem memL_mono (L : List It) (x : Int) : ∀ n j, j ≤ n → memL L j x = true → memL L n x = true
  | 0, j, h, hd => by obtain rfl : j = 0 := by omega
                      exact hd
  | n + 1, j, h, hd => by
    by_cases e : j = n + 1
    · subst e; exact hd
    · unfold memL; rw [memL_mono L x n j (by omega) hd, Bool.or_true]
theorem misN_mono (L : List It) : ∀ n j, j ≤ n → misN L j = true → misN L n = true
  | 0, j, h, hd => by obtain rfl : j = 0 := by omega
                      exact hd
  | n + 1, j, h, hd => by
    by_cases e : j = n + 1
    · subst e; exact hd
    · unfold misN; rw [misN_mono L n j (by omega) hd]; rfl
def dupAt (L : List It) (k m : Nat) : Bool := (L.getD k default).kind == 2 && memL L m (L.getD k default).label
theorem dup_hit (L : List It) (k m : Nat) (hk : k < L.length) (hm : m < k) (h1 : (L.getD k default).kind = 2) (h2 : (L.getD m default).kind = 2) (h3 : (L.getD k default).label = (L.getD m default).label) : dupN L L.length = true := by
  refine dupN_mono L L.length (k + 1) (by omega) ?_
  unfold dupN
  have : memL L k (L.getD k default).label = true := by
    refine memL_mono L _ k (m + 1) (by omega) ?_
    unfold memL
    rw [h2, h3]; simp
  rw [this, h1]; simp
theorem dup_miss (L : List It) (k m : Nat) (h : dupAt L k m = false) (h' : ¬ ((L.getD k default).kind = 2 ∧ (L.getD m default).kind = 2 ∧ (L.getD k default).label = (L.getD m default).label)) : dupAt L k (m + 1) = false := by
  unfold dupAt at *
  unfold memL
  by_cases h1 : (L.getD k default).kind = 2
  · rw [h1] at h ⊢
    simp only [BEq.rfl, Bool.true_and] at h ⊢
    rw [h, Bool.or_false, Bool.and_eq_false_iff]
    by_cases h2 : (L.getD m default).kind = 2
    · exact .inr (beq_eq_false_iff_ne.2 fun e => h' ⟨h1, h2, e⟩)
    · exact .inl (beq_eq_false_iff_ne.2 h2)
  · rw [beq_eq_false_iff_ne.2 h1]; rfl
def BadP (L : List It) (w : World) (e : Ending) (w' : World) : Prop := e = .returned (.int .i64 (mayE L)) ∧ Below w.heap.size w w'
theorem may_2 (L : List It) (h : 32768 < L.length) : mayE L = 2 := by unfold mayE; rw [if_pos h]
theorem may_1 (L : List It) (h : ¬ 32768 < L.length) (h1 : okN L L.length = false) : mayE L = 1 := by unfold mayE; rw [if_neg h, if_pos h1]
theorem may_6 (L : List It) (h : ¬ 32768 < L.length) (h1 : okN L L.length = true) (h2 : dupN L L.length = true) : mayE L = 6 := by unfold mayE labE; rw [if_neg h, if_neg (by simp [h1]), if_pos h2]
theorem may_4 (L : List It) (h : ¬ 32768 < L.length) (h1 : okN L L.length = true) (h2 : dupN L L.length = false) (h3 : misN L L.length = true) : mayE L = 4 := by unfold mayE labE; rw [if_neg h, if_neg (by simp [h1]), if_neg (by simp [h2]), if_pos h3]
theorem may_0 (L : List It) (h : ¬ 32768 < L.length) (h1 : okN L L.length = true) (h2 : dupN L L.length = false) (h3 : misN L L.length = false) : mayE L = 0 := by unfold mayE labE; rw [if_neg h, if_neg (by simp [h1]), if_neg (by simp [h2]), if_neg (by simp [h3])]
theorem may_c (L : List It) (v : Value) (w : World) (hv : RdT w v L) :
    Calls Try.prog 44 #[v] w (BadP L w) := by
  have HV := Lib.hid hv
  obtain ⟨ai, ci, rfl, hl1, hl2, hit⟩ := hv
  unfold maxLen at hl2
  have HIT := Lib.hid hit
  clear hit
  have HST : Hid (∀ x w', Below w.heap.size w w' → Calls Try.prog 84 #[.slice ai L.length ci, .int .i64 x] w' fun e w'' => e = .returned (.int .i64 (stdN L x L.length)) ∧ w' = w'') := fun x w' hb => stands_c L _ x w' (HV.out.ext (Ext.below hb))
  have HPO : Hid (∀ n w', mayE L = n → Below w.heap.size w w' → BadP L w (.returned (.int .i64 n)) w') := fun n w' h hb => ⟨by rw [h], hb⟩
  by_cases h0 : 32768 < L.length
  · have g0 : decide ((32768 : Int) < (L.length : Int)) = true := decide_eq_true (by omega)
    have HE := Lib.hid (may_2 L h0)
    clear h0
    go_enter Try.func44, Try.ntmps44
    go_wp2_with fail
    go_ret
    exact HPO.out _ _ HE.out (Below.refl _ _)
  · have g0 : decide ((32768 : Int) < (L.length : Int)) = false := decide_eq_false (by omega)
    have hn : L.length ≤ 32768 := by omega
    have H0 := Lib.hid h0
    clear h0
    go_enter Try.func44, Try.ntmps44
    go_wp2_with fail
    go_loopw [3] (fun i wr => ∃ (k : Nat), k ≤ L.length ∧ i = .int .i64 (k : Int) ∧ Hid (okN L k = true) ∧ Hid (Below w.heap.size w wr)) (fun i _ => L.length - (intOf i).toNat)
    case atStart => exact ⟨0, Nat.zero_le _, rfl, rfl, Below.refl _ _⟩
    case round =>
      obtain ⟨k, hk, rfl, D, B⟩ := hrel
      by_cases hlk : k < L.length
      · obtain ⟨b, o, rfl, hc⟩ := HIT.out k hlk
        have hbw : b < w.heap.size := World.block_lt_of_cell? w _ hc.kind
        have hc := hc.sub (c' := fun j => wr.cell? ⟨b, o + k * 7 + j, none⟩) fun j v hv => (B.out.cell (p := ⟨b, o + k * 7 + j, none⟩) hbw).trans hv
        have y0 := hc.kind
        have y1 := hc.op
        have y2 := hc.rd
        have y3 := hc.rs1
        have y4 := hc.rs2
        have y5 := hc.imm
        have y6 := hc.label
        simp only [Nat.add_zero] at y0
        have HO : Hid (okN L (k + 1) = (okN L k && itemF (L.getD k default))) := rfl
        have HM : Hid (okN L (k + 1) = false → okN L L.length = false) := okN_pre L L.length (k + 1) (by omega)
        have HR := Lib.hid (fun w => aritem_c (L.getD k default) w)
        clear hc hbw
        generalize L.getD k default = X at *
        cases hx : itemF X
        · rw [hx] at HR HO
          have HE := Lib.hid (may_1 L H0.out (HM.out (by rw [HO.out]; simp)))
          clear hx HM HO
          obtain ⟨kind, ⟨op, rd, rs1, rs2, imm⟩, label⟩ := X
          dsimp only at y0 y1 y2 y3 y4 y5 y6
          have HR : Hid (∀ w, Calls Try.prog 19 #[.agg #[.int .i64 kind, .int .i64 op, .int .i64 rd, .int .i64 rs1, .int .i64 rs2, .int .i64 imm, .int .i64 label]] w fun e w' => e = .returned (.bool false) ∧ Below w.heap.size w w') := HR
          go_wp2_with (go_at_call 19; refine (HR.out _).mono ?_; rintro e w3 ⟨rfl, hb3⟩)
          go_ret
          exact HPO.out _ _ HE.out (B.out.trans (hb3.mono B.out.size))
        · rw [hx] at HR HO
          have HO : Hid (okN L (k + 1) = true) := by show _ = _; rw [HO.out, D.out]; rfl
          clear hx HM
          obtain ⟨kind, ⟨op, rd, rs1, rs2, imm⟩, label⟩ := X
          dsimp only at y0 y1 y2 y3 y4 y5 y6
          have HR : Hid (∀ w, Calls Try.prog 19 #[.agg #[.int .i64 kind, .int .i64 op, .int .i64 rd, .int .i64 rs1, .int .i64 rs2, .int .i64 imm, .int .i64 label]] w fun e w' => e = .returned (.bool true) ∧ Below w.heap.size w w') := HR
          go_wp2_with (go_at_call 19; refine (HR.out _).mono ?_; rintro e w3 ⟨rfl, hb3⟩)
          go_round
          case rel => exact ⟨k + 1, by omega, by go_num, HO, B.out.trans (hb3.mono B.out.size)⟩
          case measure => first | (simp [intOf]; done) | (simp [intOf]; omega)
      · obtain rfl : k = L.length := by omega
        have D0 := D
        clear D
        go_wp2_with fail
        go_loopw [4] (fun i wr => ∃ (k : Nat), k ≤ L.length ∧ i = .int .i64 (k : Int) ∧ Hid (dupN L k = false) ∧ Hid (Below w.heap.size w wr)) (fun i _ => L.length - (intOf i).toNat)
        case atStart => exact ⟨0, Nat.zero_le _, rfl, rfl, B⟩
        case round =>
          clear B
          obtain ⟨k, hk, rfl, D, B⟩ := hrel
          by_cases hlk : k < L.length
          · obtain ⟨b, o, rfl, hc⟩ := HIT.out k hlk
            have hbw : b < w.heap.size := World.block_lt_of_cell? w _ hc.kind
            have HC := Lib.hid hc
            clear hc
            go_wp2_with fail
            go_loopw [5] (fun i wr => ∃ (m : Nat), m ≤ k ∧ i = .int .i64 (m : Int) ∧ Hid (dupAt L k m = false) ∧ Hid (Below w.heap.size w wr)) (fun i _ => k - (intOf i).toNat)
            case atStart => exact ⟨0, Nat.zero_le _, rfl, by show _ = _; simp [dupAt, memL], B⟩
            case round =>
              clear B
              obtain ⟨m, hm, rfl, DM, BB⟩ := hrel
              by_cases hlm : m < k
              · obtain ⟨b2, o2, e2, hc2⟩ := HIT.out m (by omega)
                cases e2
                have y0 := (BB.out.cell (p := ⟨b, o + k * 7 + 0, none⟩) hbw).trans HC.out.kind
                have y6 := (BB.out.cell (p := ⟨b, o + k * 7 + 6, none⟩) hbw).trans HC.out.label
                have z0 := (BB.out.cell (p := ⟨b, o + m * 7 + 0, none⟩) hbw).trans hc2.kind
                have z6 := (BB.out.cell (p := ⟨b, o + m * 7 + 6, none⟩) hbw).trans hc2.label
                simp only [Nat.add_zero] at y0 z0
                have lb : b < wr.heap.size := World.block_lt_of_cell? wr _ y0
                have HH : Hid ((L.getD k default).kind = 2 → (L.getD m default).kind = 2 → (L.getD k default).label = (L.getD m default).label → mayE L = 6) := fun h1 h2 h3 => may_6 L H0.out D0.out (dup_hit L k m hlk hlm h1 h2 h3)
                have HM : Hid (¬ ((L.getD k default).kind = 2 ∧ (L.getD m default).kind = 2 ∧ (L.getD k default).label = (L.getD m default).label) → dupAt L k (m + 1) = false) := dup_miss L k m DM.out
                clear hc2 HC
                generalize (L.getD k default).kind = kd at *
                generalize (L.getD k default).label = l1 at *
                generalize (L.getD m default).kind = md at *
                generalize (L.getD m default).label = l2 at *
                by_cases h1 : kd = 2
                · subst h1
                  by_cases h2 : md = 2
                  · subst h2
                    by_cases h3 : l1 = l2
                    · subst h3
                      have HE := Lib.hid (HH.out rfl rfl rfl)
                      clear HH HM
                      go_wp2_with fail
                      go_quiet (fail)
                      go_wp2_with fail
                      go_ret
                      exact HPO.out _ _ HE.out (BB.out.trans (by first | exact (Below.refl _ _) | exact (below_drewN _ _ _)))
                    · have HE := Lib.hid (HM.out fun h => h3 h.2.2)
                      have h3' : (l1 == l2) = false := beq_eq_false_iff_ne.2 h3
                      clear h3 HH HM
                      go_wp2_with fail
                      go_quiet (fail)
                      go_wp2_with fail
                      go_roundw
                      case rel => exact ⟨m + 1, by omega, by go_num, by first | exact HE | exact Lib.hid HE.out, BB.out.trans (by first | exact (Below.refl _ _) | exact (below_drewN _ _ _))⟩
                      case measure => first | (simp [intOf]; done) | (simp [intOf]; omega)
                  · have HE := Lib.hid (HM.out fun h => h2 h.2.1)
                    have h2' : (md == 2) = false := beq_eq_false_iff_ne.2 h2
                    clear h2 HH HM
                    go_wp2_with fail
                    go_quiet (fail)
                    go_wp2_with fail
                    go_roundw
                    case rel => exact ⟨m + 1, by omega, by go_num, by first | exact HE | exact Lib.hid HE.out, BB.out.trans (by first | exact (Below.refl _ _) | exact (below_drewN _ _ _))⟩
                    case measure => first | (simp [intOf]; done) | (simp [intOf]; omega)
                · have HE := Lib.hid (HM.out fun h => h1 h.1)
                  have h1' : (kd == 2) = false := beq_eq_false_iff_ne.2 h1
                  clear h1 HH HM
                  go_wp2_with fail
                  go_quiet (fail)
                  go_wp2_with fail
                  go_roundw
                  case rel => exact ⟨m + 1, by omega, by go_num, by first | exact HE | exact Lib.hid HE.out, BB.out.trans (by first | exact (Below.refl _ _) | exact (below_drewN _ _ _))⟩
                  case measure => first | (simp [intOf]; done) | (simp [intOf]; omega)
              · obtain rfl : m = k := by omega
                have HE : Hid (dupN L (m + 1) = false) := by
                  show (dupN L m || dupAt L m m) = false
                  rw [D.out, DM.out]; rfl
                go_wp2_with fail
                go_roundw
                case rel => exact ⟨m + 1, by omega, by go_num, HE, BB⟩
                case measure => first | (simp [intOf]; done) | (simp [intOf]; omega)
          · obtain rfl : k = L.length := by omega
            have D1 := D
            clear D
            go_wp2_with fail
            go_loopw [6] (fun i wr => ∃ (k : Nat), k ≤ L.length ∧ i = .int .i64 (k : Int) ∧ Hid (misN L k = false) ∧ Hid (Below w.heap.size w wr)) (fun i _ => L.length - (intOf i).toNat)
            case atStart => exact ⟨0, Nat.zero_le _, rfl, rfl, B⟩
            case round =>
              clear B
              obtain ⟨k, hk, rfl, D, B⟩ := hrel
              by_cases hlk : k < L.length
              · obtain ⟨b, o, rfl, hc⟩ := HIT.out k hlk
                have hbw : b < w.heap.size := World.block_lt_of_cell? w _ hc.kind
                have y0 := (B.out.cell (p := ⟨b, o + k * 7 + 0, none⟩) hbw).trans hc.kind
                have y6 := (B.out.cell (p := ⟨b, o + k * 7 + 6, none⟩) hbw).trans hc.label
                simp only [Nat.add_zero] at y0
                clear hc
                have HO : Hid (misN L (k + 1) = (misN L k || (((L.getD k default).kind == 3 || (L.getD k default).kind == 4) && !(memL L L.length (L.getD k default).label)))) := rfl
                rw [D.out, Bool.false_or] at HO
                have HM : Hid (misN L (k + 1) = true → mayE L = 4) := fun h => may_4 L H0.out D0.out D1.out (misN_mono L L.length (k + 1) (by omega) h)
                have HS := Lib.hid (stdN_mem L (L.getD k default).label L.length)
                have HS2 := Lib.hid (stdN_bd L (L.getD k default).label L.length)
                have HB := Lib.hid (HST.out (L.getD k default).label wr B.out)
                clear D
                generalize stdN L (L.getD k default).label L.length = s at *
                generalize memL L L.length (L.getD k default).label = mm at *
                generalize (L.getD k default).kind = kd at *
                generalize (L.getD k default).label = lb at *
                by_cases h3 : kd = 3
                · subst h3
                  cases mm
                  · obtain rfl : s = -1 := HS.out.2 rfl
                    have HE := Lib.hid (HM.out HO.out)
                    clear HO HM HS HS2
                    go_wp2_with (go_at_call 84; refine HB.out.mono ?_; rintro e w3 ⟨rfl, rfl⟩)
                    go_ret
                    exact HPO.out _ _ HE.out B.out
                  · have hs : 0 ≤ s := by have := HS2.out; have : s ≠ -1 := fun e => by have := HS.out.1 e; cases this
                                          omega
                    have HE : Hid (misN L (k + 1) = false) := HO.out
                    clear HO HM HS HS2
                    go_wp2_with (go_at_call 84; refine HB.out.mono ?_; rintro e w3 ⟨rfl, rfl⟩)
                    go_roundw
                    case rel => exact ⟨k + 1, by omega, by go_num, HE, B⟩
                    case measure => first | (simp [intOf]; done) | (simp [intOf]; omega)
                · have h3' : (kd == 3) = false := beq_eq_false_iff_ne.2 h3
                  by_cases h4 : kd = 4
                  · subst h4
                    clear h3 h3'
                    cases mm
                    · obtain rfl : s = -1 := HS.out.2 rfl
                      have HE := Lib.hid (HM.out HO.out)
                      clear HO HM HS HS2
                      go_wp2_with (go_at_call 84; refine HB.out.mono ?_; rintro e w3 ⟨rfl, rfl⟩)
                      go_ret
                      exact HPO.out _ _ HE.out B.out
                    · have hs : 0 ≤ s := by have := HS2.out; have : s ≠ -1 := fun e => by have := HS.out.1 e; cases this
                                            omega
                      have HE : Hid (misN L (k + 1) = false) := HO.out
                      clear HO HM HS HS2
                      go_wp2_with (go_at_call 84; refine HB.out.mono ?_; rintro e w3 ⟨rfl, rfl⟩)
                      go_roundw
                      case rel => exact ⟨k + 1, by omega, by go_num, HE, B⟩
                      case measure => first | (simp [intOf]; done) | (simp [intOf]; omega)
                  · have h4' : (kd == 4) = false := beq_eq_false_iff_ne.2 h4
                    have HE : Hid (misN L (k + 1) = false) := by show _ = _; rw [HO.out, h3', h4']; rfl
                    clear h3 h4 HO HM HS HS2
                    go_wp2_with fail
                    go_roundw
                    case rel => exact ⟨k + 1, by omega, by go_num, HE, B⟩
                    case measure => first | (simp [intOf]; done) | (simp [intOf]; omega)
              · obtain rfl : k = L.length := by omega
                have HE := Lib.hid (may_0 L H0.out D0.out D1.out D.out)
                go_wp2_with fail
                go_ret
                exact HPO.out _ _ HE.out B.out
end Go.Proofs.Ytedihiodmgnlpaa
