/-
  The contract of the sheet's grow.
-/
import Derived.Test.YtedihiodmgnlpaaA8
set_option linter.all false
namespace Go.Proofs.Ytedihiodmgnlpaa
open Go.ChangeShapes Go.WideShapes Go.ChangeAt Go.RowKit
set_option maxHeartbeats 4000000
set_option linter.unusedVariables false
set_option maxRecDepth 20000

section
variable {wp w : World} {bs bf ba bl : Nat} {vi : Value} {L : List It} {far : List Bool} {at' lab : List Int}
def bOf : Option Value → Bool | some (.bool b) => b | _ => false
/-- how many are not far -/
def nearN (bf n : Nat) (w : World) : Nat := ((List.range n).filter fun k => !(bOf (w.cell? ⟨bf, k, none⟩))).length
theorem flt_le {α : Type} (p q : α → Bool) : ∀ l : List α, (∀ x ∈ l, p x = true → q x = true) → (l.filter p).length ≤ (l.filter q).length
  | [], _ => Nat.le_refl _
  | x :: l, h => by
    have ih := flt_le p q l fun y hy => h y (List.mem_cons_of_mem _ hy)
    have hx := h x List.mem_cons_self
    simp only [List.filter_cons]
    split
    · rw [if_pos (hx (by assumption))]; simpa using ih
    · split
      · simp only [List.length_cons]; omega
      · exact ih
theorem flt_lt {α : Type} (p q : α → Bool) : ∀ l : List α, (∀ x ∈ l, p x = true → q x = true) → (∃ x ∈ l, q x = true ∧ p x = false) → (l.filter p).length < (l.filter q).length
  | [], _, ⟨x, hx, _⟩ => by simp at hx
  | x :: l, h, ⟨y, hy, hq, hp⟩ => by
    have hl : ∀ z ∈ l, p z = true → q z = true := fun z hz => h z (List.mem_cons_of_mem _ hz)
    have hx := h x List.mem_cons_self
    rcases List.mem_cons.1 hy with rfl | hy
    · have := flt_le p q l hl
      rw [List.filter_cons, if_neg (by simp [hp]), List.filter_cons, if_pos hq]
      simp only [List.length_cons]; omega
    · have ih := flt_lt p q l hl ⟨y, hy, hq, hp⟩
      simp only [List.filter_cons]
      split
      · rw [if_pos (hx (by assumption))]; simpa using ih
      · split
        · simp only [List.length_cons]; omega
        · exact ih
theorem nearN_eq (h : Sh wp w bs bf ba bl vi L far at' lab) : nearN bf L.length w = ((List.range L.length).filter fun k => !(far.getD k false)).length := by
  unfold nearN
  congr 1
  apply List.filter_congr
  intro k hk
  rw [h.cf (List.mem_range.1 hk)]
  rfl
theorem near_lt (L : List It) (F : List Bool) (lab : List Int) (hl : F.length = L.length) (hg : gF L F lab L.length = true) : ((List.range L.length).filter fun k => !((stF L F lab L.length).getD k false)).length < ((List.range L.length).filter fun k => !(F.getD k false)).length := by
  apply flt_lt
  · intro k hk h
    rw [stF_at] at h
    split at h
    · simp at h
    · exact h
  · obtain ⟨j, hj, ht⟩ := gF_yes L F lab L.length hg
    refine ⟨j, List.mem_range.2 hj, ?_, ?_⟩
    · unfold trgF at ht; simp at ht; simpa using ht.1.2
    · rw [stF_at, if_pos ⟨hj, ht, by omega⟩]; rfl
theorem lbF_bd (L : List It) (F : List Bool) (lab : List Int) (hn : L.length ≤ 32768) (hb : ∀ j, -1 ≤ lab.getD j 0 ∧ lab.getD j 0 ≤ 262144) : ∀ k, k ≤ L.length → ∀ j, -1 ≤ (lbF L F lab k).getD j 0 ∧ (lbF L F lab k).getD j 0 ≤ 262144
  | 0, _, j => hb j
  | k + 1, hk, j => by
    have ih := lbF_bd L F lab hn hb k (by omega)
    have hp := posF_bd L F k
    unfold lbF
    split
    · by_cases e : (L.getD k default).label.toNat = j
      · by_cases hj : j < (lbF L F lab k).length
        · rw [e]; simp [List.getD, hj]; omega
        · have e2 : (lbF L F lab k).set (L.getD k default).label.toNat (posF L F k) = lbF L F lab k := List.set_eq_of_length_le (by rw [e]; omega)
          rw [e2]; exact ih j
      · rw [List.getD_eq_getElem?_getD, List.getElem?_set_ne e, ← List.getD_eq_getElem?_getD]; exact ih j
    · exact ih j
theorem stF_none (L : List It) (F : List Bool) (lab : List Int) : ∀ k, gF L F lab k = false → stF L F lab k = F
  | 0, _ => rfl
  | k + 1, h => by
    unfold gF at h
    rw [Bool.or_eq_false_iff] at h
    unfold stF
    rw [if_neg (by simp [h.2])]
    exact stF_none L F lab k h.1
/-- the frame at the label -/
def FrG (bs : Nat) (a : Act) : Prop := ∃ u1 u2 u3 u4 u5 u6 u7 u8 u9 u10 u11 u12 u13 u14 u15 u16 u17 u18 u19 u20 u21 u22 u23 u24 u25 u26 u27 u28 u29 u30 u31 u32 u33 u34 u35 u36 u37 u38 u39 u40 u41 u42 u43 u44 u45 u46 u47 u48 u49 u50 u51 u52 u53 : Value, a = { tmps := #[.pointer (some ⟨bs, 0, none⟩), u1, u2, u3, u4, u5, u6, u7, u8, u9, u10, u11, u12, u13, u14, u15, u16, u17, u18, u19, u20, u21, u22, u23, u24, u25, u26, u27, u28, u29, u30, u31, u32, u33, u34, u35, u36, u37, u38, u39, u40, u41, u42, u43, u44, u45, u46, u47, u48, u49, u50, u51, u52, u53], defers := [] }
/-- what holds at the label -/
def AtG (wp : World) (bs bf ba bl : Nat) (vi : Value) (L : List It) (far : List Bool) (lab : List Int) (a : Act) (w : World) : Prop :=
  FrG bs a ∧ ∃ m at' lab', Sh wp w bs bf ba bl vi L (itF L lab far m) at' lab' ∧ (lab' = lab ∨ ∃ f, lab' = lbF L f lab L.length)

theorem grow_c (h : Sh wp w bs bf ba bl vi L far at' lab) (hL : LabOk L lab.length) (hb : ∀ j, -1 ≤ lab.getD j 0 ∧ lab.getD j 0 ≤ 262144) :
    Calls Try.prog 41 #[.pointer (some ⟨bs, 0, none⟩)] w fun e w' => (∃ v, e = .returned v) ∧ ∃ m at2, gF L (itF L lab far m) lab L.length = false ∧ (∀ k, k < L.length + 1 → at2.getD k 0 = posF L (itF L lab far m) k) ∧ Sh wp w' bs bf ba bl vi L (itF L lab far m) at2 (lbF L (itF L lab far m) lab L.length) := by
  go_enter Try.func41, Try.ntmps41
  go_wp2_with fail
  refine wp_scope_jumps 0 (AtG wp bs bf ba bl vi L far lab) (fun _ w' => nearN bf L.length w') rfl ?_ ?_
  · obtain ⟨m, lab', H, hlab⟩ : ∃ m lab', Sh wp w bs bf ba bl vi L (itF L lab far m) at' lab' ∧ (lab' = lab ∨ ∃ f, lab' = lbF L f lab L.length) := ⟨0, lab, h, .inl rfl⟩
    clear h
    go_wp2_with fail
    go_step3
    go_wp2_with fail
    have hL' : LabOk L lab'.length := by
      rcases hlab with rfl | ⟨f, rfl⟩
      · exact hL
      · rw [lbF_len]; exact hL
    have E : lbF L (itF L lab far m) lab' L.length = lbF L (itF L lab far m) lab L.length := by
      rcases hlab with rfl | ⟨f, rfl⟩
      · rfl
      · exact lbF_again _ _ _ _ hL
    have HN := Lib.hid (nearN_eq H)
    have hat := fun k hk => atF_at L (itF L lab far m) at' (L.length + 1) k hk (by rw [H.alen]; exact Nat.le_refl _)
    have hfl := H.flen
    refine (place_c H hL').mono ?_
    rintro e w2 ⟨⟨v, rfl⟩, H2⟩
    rw [E] at H2
    clear H E hL' hlab
    have HS : Hid (stF L (itF L lab far m) lab L.length = itF L lab far (m + 1)) := rfl
    obtain ⟨F, hF⟩ : ∃ F, F = itF L lab far m := ⟨_, rfl⟩
    rw [← hF] at H2 hat hfl HN HS
    generalize atF L F at' (L.length + 1) = A2 at *
    have hbd := lbF_bd L F lab H2.most hb L.length (Nat.le_refl _)
    have HL := Lib.hid hL
    have HB := Lib.hid hbd
    have HA := Lib.hid hat
    have HF := Lib.hid hF
    have HFL := Lib.hid hfl
    have M0 := Lib.hid H2
    have c0 := H2.c0
    have hn := H2.most
    have lbs : bs < w2.heap.size := World.block_lt_of_cell? w2 _ c0
    obtain ⟨ai, ci, hvi, hit⟩ := H2.it
    have HV := Lib.hid hvi
    rw [hvi] at c0
    clear hL hb hat hF hfl hbd hvi hit H2
    go_wp2_with fail
    go_loopw [2, 13] (fun g i wr => ∃ (k : Nat), k ≤ L.length ∧ i = .int .i64 (k : Int) ∧ g = .bool (gF L F lab k) ∧ Hid (Sh wp wr bs bf ba bl vi L (stF L F lab k) A2 (lbF L F lab L.length))) (fun _ i _ => L.length - (intOf i).toNat)
    case atStart => exact ⟨0, Nat.zero_le _, rfl, rfl, M0⟩
    case round =>
      clear M0 c0 lbs
      obtain ⟨k, hk, rfl, rfl, M⟩ := hrel
      by_cases hlk : k < L.length
      · have c0 := M.out.c0
        have c1 := M.out.c1
        have c2 := M.out.c2
        have ca := M.out.ca (show k < L.length + 1 by omega)
        rw [HA.out k (by omega)] at ca
        have cf := M.out.cf hlk
        rw [stF_at, if_neg (by omega)] at cf
        obtain ⟨ai', ci', e, hit⟩ := M.out.it
        rw [HV.out] at e c0
        simp only [Value.slice.injEq] at e
        obtain ⟨rfl, -, rfl⟩ := e
        obtain ⟨b, o, rfl, hb, hc⟩ := hit k hlk
        have y0 := hc.kind
        have y1 := hc.op
        have y2 := hc.rd
        have y3 := hc.rs1
        have y4 := hc.rs2
        have y5 := hc.imm
        have y6 := hc.label
        simp only [Nat.add_zero] at y0
        have lbs : bs < wr.heap.size := World.block_lt_of_cell? wr _ c0
        have lba : ba < wr.heap.size := World.block_lt_of_cell? wr _ ca
        have lbf : bf < wr.heap.size := World.block_lt_of_cell? wr _ cf
        have lb : b < wr.heap.size := World.block_lt_of_cell? wr _ y0
        have fzf := M.out.fr.frozenAt k
        have HK := HL.out k hlk
        have HG : Hid (gF L F lab (k + 1) = (gF L F lab k || trgF L F lab k)) := rfl
        have HT : Hid (stF L F lab (k + 1) = if trgF L F lab k = true then (stF L F lab k).set k true else stF L F lab k) := rfl
        have HW : Hid (∀ w' l d, Sh wp w' bs bf ba bl vi L (stF L F lab k) A2 (lbF L F lab L.length) → (L.getD k default).label = ((l : Nat) : Int) → l < lab.length → (lbF L F lab L.length).getD l 0 - posF L F k = d → Calls Try.prog 80 #[.pointer (some ⟨bs, 0, none⟩), .int .i64 (k : Int), .int .i64 (posF L F k)] w' fun e w'' => e = .returned (.int .i64 d) ∧ ∃ m, w'.drewN m = w'') := fun w' l d h' h1 h2 h3 => by
          have b1 := HB.out l
          have b2 := posF_bd L F k
          exact way_c h' k hlk l h1 (by rw [lbF_len]; exact h2) _ d h3 (by omega) (by omega)
        have HTR : Hid (trgF L F lab k = ((L.getD k default).kind == 3 && !(F.getD k false) && (decide (wayF L F lab k < -4096) || decide (4094 < wayF L F lab k)))) := rfl
        have HWY : Hid (wayF L F lab k = (lbF L F lab L.length).getD (L.getD k default).label.toNat 0 - posF L F k) := rfl
        clear hit hc hb
        generalize L.getD k default = X at *
        obtain ⟨kind, ⟨op, rd, rs1, rs2, imm⟩, label⟩ := X
        dsimp only at y0 y1 y2 y3 y4 y5 y6 HK HTR HWY HW
        generalize F.getD k false = fk at *
        by_cases h3 : kind = 3
        · subst h3
          cases fk
          · obtain ⟨l, rfl, hl⟩ := HK (.inr (.inl rfl))
            clear HK
            rw [Int.toNat_natCast] at HWY
            simp only [beq_self_eq_true, Bool.not_false, Bool.true_and] at HTR
            go_wp2_with fail
            have M2 := M.out.grow (below_a1 _ (.cells #[.int .i64 3, .int .i64 op, .int .i64 rd, .int .i64 rs1, .int .i64 rs2, .int .i64 imm, .int .i64 (l : Int)] 41))
            refine (HW.out _ l _ M2 rfl hl HWY.out.symm).mono ?_
            rintro e w3 ⟨rfl, dm, rfl⟩
            have M3 := Lib.hid (M2.grow (below_drewN' (Below.refl _ _) dm))
            clear M2 HW HWY
            generalize wayF L F lab k = d at *
            by_cases hd1 : d < -4096
            · have ht : trgF L F lab k = true := by rw [HTR.out]; simp [hd1]
              have HG : Hid (gF L F lab (k + 1) = true) := by have := HG.out; rw [ht, Bool.or_true] at this; exact this
              have HT : Hid (stF L F lab (k + 1) = (stF L F lab k).set k true) := by have := HT.out; rw [if_pos ht] at this; exact this
              clear ht HTR
              clear y0 y1 y2 y3 y4 y5 y6
              have lbf3 : bf < ((wr.alloc (.cells #[.int .i64 3, .int .i64 op, .int .i64 rd, .int .i64 rs1, .int .i64 rs2, .int .i64 imm, .int .i64 (l : Int)] 41)).drewN dm).heap.size := by simp; omega
              go_wp2_with fail
              have M4 := Lib.hid (M3.out.setF k true)
              rw [← HT.out] at M4
              go_round
              case rel => exact ⟨k + 1, by omega, by go_num, by rw [HG.out], M4⟩
              case measure => first | (simp [intOf]; done) | (simp [intOf]; omega)
            · by_cases hd2 : 4094 < d
              · have ht : trgF L F lab k = true := by rw [HTR.out]; simp [hd2]
                have HG : Hid (gF L F lab (k + 1) = true) := by have := HG.out; rw [ht, Bool.or_true] at this; exact this
                have HT : Hid (stF L F lab (k + 1) = (stF L F lab k).set k true) := by have := HT.out; rw [if_pos ht] at this; exact this
                clear ht HTR
                clear y0 y1 y2 y3 y4 y5 y6
                have lbf3 : bf < ((wr.alloc (.cells #[.int .i64 3, .int .i64 op, .int .i64 rd, .int .i64 rs1, .int .i64 rs2, .int .i64 imm, .int .i64 (l : Int)] 41)).drewN dm).heap.size := by simp; omega
                go_wp2_with fail
                have M4 := Lib.hid (M3.out.setF k true)
                rw [← HT.out] at M4
                go_round
                case rel => exact ⟨k + 1, by omega, by go_num, by rw [HG.out], M4⟩
                case measure => first | (simp [intOf]; done) | (simp [intOf]; omega)
              · have ht : trgF L F lab k = false := by rw [HTR.out]; simp [hd1, hd2]
                have HG : Hid (gF L F lab (k + 1) = gF L F lab k) := by have := HG.out; rw [ht, Bool.or_false] at this; exact this
                have HT : Hid (stF L F lab (k + 1) = stF L F lab k) := by have := HT.out; rw [if_neg (by simp [ht])] at this; exact this
                clear ht HTR y0 y1 y2 y3 y4 y5 y6
                go_wp2_with fail
                rw [← HG.out]
                go_round
                case rel => exact ⟨k + 1, by omega, by go_num, rfl, by rw [HT.out]; exact M3⟩
                case measure => first | (simp [intOf]; done) | (simp [intOf]; omega)
          · have ht : trgF L F lab k = false := by rw [HTR.out]; simp
            have HG : Hid (gF L F lab (k + 1) = gF L F lab k) := by have := HG.out; rw [ht, Bool.or_false] at this; exact this
            have HT : Hid (stF L F lab (k + 1) = stF L F lab k) := by have := HT.out; rw [if_neg (by simp [ht])] at this; exact this
            clear ht HTR HW HWY HK
            go_wp2_with fail
            rw [← HG.out]
            go_round
            case rel => exact ⟨k + 1, by omega, by go_num, rfl, by rw [HT.out]; exact Lib.hid (M.out.grow (below_a1 _ _))⟩
            case measure => first | (simp [intOf]; done) | (simp [intOf]; omega)
        · have h3' : (kind == 3) = false := beq_eq_false_iff_ne.2 h3
          have h3n : (kind != 3) = true := bne_iff_ne.2 h3
          have ht : trgF L F lab k = false := by rw [HTR.out, h3']; rfl
          have HG : Hid (gF L F lab (k + 1) = gF L F lab k) := by have := HG.out; rw [ht, Bool.or_false] at this; exact this
          have HT : Hid (stF L F lab (k + 1) = stF L F lab k) := by have := HT.out; rw [if_neg (by simp [ht])] at this; exact this
          clear ht HTR HW HWY HK
          go_wp2_with fail
          rw [← HG.out]
          go_round
          case rel => exact ⟨k + 1, by omega, by go_num, rfl, by rw [HT.out]; exact Lib.hid (M.out.grow (below_a1 _ _))⟩
          case measure => first | (simp [intOf]; done) | (simp [intOf]; omega)
      · obtain rfl : k = L.length := by omega
        have HLT := Lib.hid (near_lt L F lab HFL.out)
        have HNL := Lib.hid (nearN_eq M.out)
        have hn' := M.out.most
        cases hg : gF L F lab L.length
        · have HG := Lib.hid hg
          clear hg
          have HN0 := Lib.hid (stF_none L F lab L.length HG.out)
          go_wp2_with fail
          simp only [Exit.jump]
          go_end0
          refine ⟨⟨_, rfl⟩, m, A2, ?_, ?_, ?_⟩
          · rw [← HF.out]; exact HG.out
          · rw [← HF.out]; exact HA.out
          · rw [← HF.out]; have := M.out; rw [HN0.out] at this; exact this
        · have HG := Lib.hid hg
          clear hg
          go_wp2_with fail
          go_step3
          have AT : Hid (∃ m' at2 lab2, Sh wp wr bs bf ba bl vi L (itF L lab far m') at2 lab2 ∧ (lab2 = lab ∨ ∃ f, lab2 = lbF L f lab L.length)) := ⟨m + 1, A2, _, by rw [← HS.out]; exact M.out, .inr ⟨F, rfl⟩⟩
          first
            | exact ⟨rfl, ⟨⟨_, _, _, _, _, _, _, _, _, _, _, _, _, _, _, _, _, _, _, _, _, _, _, _, _, _, _, _, _, _, _, _, _, _, _, _, _, _, _, _, _, _, _, _, _, _, _, _, _, _, _, _, _, rfl⟩, AT.out⟩, by rw [HN.out, HNL.out]; exact HLT.out HG.out⟩
            | exact ⟨rfl, ⟨_, _, _, _, _, _, _, _, _, _, _, _, _, _, _, _, _, _, _, _, _, _, _, _, _, _, _, _, _, _, _, _, _, _, _, _, _, _, _, _, _, _, _, _, _, _, _, _, _, _, _, _, _, rfl⟩, AT.out⟩
  · rintro a' w' ⟨⟨u1, u2, u3, u4, u5, u6, u7, u8, u9, u10, u11, u12, u13, u14, u15, u16, u17, u18, u19, u20, u21, u22, u23, u24, u25, u26, u27, u28, u29, u30, u31, u32, u33, u34, u35, u36, u37, u38, u39, u40, u41, u42, u43, u44, u45, u46, u47, u48, u49, u50, u51, u52, u53, rfl⟩, m, at', lab', H, hlab⟩
    clear h
    go_wp2_with fail
    have hL' : LabOk L lab'.length := by
      rcases hlab with rfl | ⟨f, rfl⟩
      · exact hL
      · rw [lbF_len]; exact hL
    have E : lbF L (itF L lab far m) lab' L.length = lbF L (itF L lab far m) lab L.length := by
      rcases hlab with rfl | ⟨f, rfl⟩
      · rfl
      · exact lbF_again _ _ _ _ hL
    have HN := Lib.hid (nearN_eq H)
    have hat := fun k hk => atF_at L (itF L lab far m) at' (L.length + 1) k hk (by rw [H.alen]; exact Nat.le_refl _)
    have hfl := H.flen
    refine (place_c H hL').mono ?_
    rintro e w2 ⟨⟨v, rfl⟩, H2⟩
    rw [E] at H2
    clear H E hL' hlab
    have HS : Hid (stF L (itF L lab far m) lab L.length = itF L lab far (m + 1)) := rfl
    obtain ⟨F, hF⟩ : ∃ F, F = itF L lab far m := ⟨_, rfl⟩
    rw [← hF] at H2 hat hfl HN HS
    generalize atF L F at' (L.length + 1) = A2 at *
    have hbd := lbF_bd L F lab H2.most hb L.length (Nat.le_refl _)
    have HL := Lib.hid hL
    have HB := Lib.hid hbd
    have HA := Lib.hid hat
    have HF := Lib.hid hF
    have HFL := Lib.hid hfl
    have M0 := Lib.hid H2
    have c0 := H2.c0
    have hn := H2.most
    have lbs : bs < w2.heap.size := World.block_lt_of_cell? w2 _ c0
    obtain ⟨ai, ci, hvi, hit⟩ := H2.it
    have HV := Lib.hid hvi
    rw [hvi] at c0
    clear hL hb hat hF hfl hbd hvi hit H2
    go_wp2_with fail
    go_loopw [2, 13] (fun g i wr => ∃ (k : Nat), k ≤ L.length ∧ i = .int .i64 (k : Int) ∧ g = .bool (gF L F lab k) ∧ Hid (Sh wp wr bs bf ba bl vi L (stF L F lab k) A2 (lbF L F lab L.length))) (fun _ i _ => L.length - (intOf i).toNat)
    case atStart => exact ⟨0, Nat.zero_le _, rfl, rfl, M0⟩
    case round =>
      clear M0 c0 lbs
      obtain ⟨k, hk, rfl, rfl, M⟩ := hrel
      by_cases hlk : k < L.length
      · have c0 := M.out.c0
        have c1 := M.out.c1
        have c2 := M.out.c2
        have ca := M.out.ca (show k < L.length + 1 by omega)
        rw [HA.out k (by omega)] at ca
        have cf := M.out.cf hlk
        rw [stF_at, if_neg (by omega)] at cf
        obtain ⟨ai', ci', e, hit⟩ := M.out.it
        rw [HV.out] at e c0
        simp only [Value.slice.injEq] at e
        obtain ⟨rfl, -, rfl⟩ := e
        obtain ⟨b, o, rfl, hb, hc⟩ := hit k hlk
        have y0 := hc.kind
        have y1 := hc.op
        have y2 := hc.rd
        have y3 := hc.rs1
        have y4 := hc.rs2
        have y5 := hc.imm
        have y6 := hc.label
        simp only [Nat.add_zero] at y0
        have lbs : bs < wr.heap.size := World.block_lt_of_cell? wr _ c0
        have lba : ba < wr.heap.size := World.block_lt_of_cell? wr _ ca
        have lbf : bf < wr.heap.size := World.block_lt_of_cell? wr _ cf
        have lb : b < wr.heap.size := World.block_lt_of_cell? wr _ y0
        have fzf := M.out.fr.frozenAt k
        have HK := HL.out k hlk
        have HG : Hid (gF L F lab (k + 1) = (gF L F lab k || trgF L F lab k)) := rfl
        have HT : Hid (stF L F lab (k + 1) = if trgF L F lab k = true then (stF L F lab k).set k true else stF L F lab k) := rfl
        have HW : Hid (∀ w' l d, Sh wp w' bs bf ba bl vi L (stF L F lab k) A2 (lbF L F lab L.length) → (L.getD k default).label = ((l : Nat) : Int) → l < lab.length → (lbF L F lab L.length).getD l 0 - posF L F k = d → Calls Try.prog 80 #[.pointer (some ⟨bs, 0, none⟩), .int .i64 (k : Int), .int .i64 (posF L F k)] w' fun e w'' => e = .returned (.int .i64 d) ∧ ∃ m, w'.drewN m = w'') := fun w' l d h' h1 h2 h3 => by
          have b1 := HB.out l
          have b2 := posF_bd L F k
          exact way_c h' k hlk l h1 (by rw [lbF_len]; exact h2) _ d h3 (by omega) (by omega)
        have HTR : Hid (trgF L F lab k = ((L.getD k default).kind == 3 && !(F.getD k false) && (decide (wayF L F lab k < -4096) || decide (4094 < wayF L F lab k)))) := rfl
        have HWY : Hid (wayF L F lab k = (lbF L F lab L.length).getD (L.getD k default).label.toNat 0 - posF L F k) := rfl
        clear hit hc hb
        generalize L.getD k default = X at *
        obtain ⟨kind, ⟨op, rd, rs1, rs2, imm⟩, label⟩ := X
        dsimp only at y0 y1 y2 y3 y4 y5 y6 HK HTR HWY HW
        generalize F.getD k false = fk at *
        by_cases h3 : kind = 3
        · subst h3
          cases fk
          · obtain ⟨l, rfl, hl⟩ := HK (.inr (.inl rfl))
            clear HK
            rw [Int.toNat_natCast] at HWY
            simp only [beq_self_eq_true, Bool.not_false, Bool.true_and] at HTR
            go_wp2_with fail
            have M2 := M.out.grow (below_a1 _ (.cells #[.int .i64 3, .int .i64 op, .int .i64 rd, .int .i64 rs1, .int .i64 rs2, .int .i64 imm, .int .i64 (l : Int)] 41))
            refine (HW.out _ l _ M2 rfl hl HWY.out.symm).mono ?_
            rintro e w3 ⟨rfl, dm, rfl⟩
            have M3 := Lib.hid (M2.grow (below_drewN' (Below.refl _ _) dm))
            clear M2 HW HWY
            generalize wayF L F lab k = d at *
            by_cases hd1 : d < -4096
            · have ht : trgF L F lab k = true := by rw [HTR.out]; simp [hd1]
              have HG : Hid (gF L F lab (k + 1) = true) := by have := HG.out; rw [ht, Bool.or_true] at this; exact this
              have HT : Hid (stF L F lab (k + 1) = (stF L F lab k).set k true) := by have := HT.out; rw [if_pos ht] at this; exact this
              clear ht HTR
              clear y0 y1 y2 y3 y4 y5 y6
              have lbf3 : bf < ((wr.alloc (.cells #[.int .i64 3, .int .i64 op, .int .i64 rd, .int .i64 rs1, .int .i64 rs2, .int .i64 imm, .int .i64 (l : Int)] 41)).drewN dm).heap.size := by simp; omega
              go_wp2_with fail
              have M4 := Lib.hid (M3.out.setF k true)
              rw [← HT.out] at M4
              go_round
              case rel => exact ⟨k + 1, by omega, by go_num, by rw [HG.out], M4⟩
              case measure => first | (simp [intOf]; done) | (simp [intOf]; omega)
            · by_cases hd2 : 4094 < d
              · have ht : trgF L F lab k = true := by rw [HTR.out]; simp [hd2]
                have HG : Hid (gF L F lab (k + 1) = true) := by have := HG.out; rw [ht, Bool.or_true] at this; exact this
                have HT : Hid (stF L F lab (k + 1) = (stF L F lab k).set k true) := by have := HT.out; rw [if_pos ht] at this; exact this
                clear ht HTR
                clear y0 y1 y2 y3 y4 y5 y6
                have lbf3 : bf < ((wr.alloc (.cells #[.int .i64 3, .int .i64 op, .int .i64 rd, .int .i64 rs1, .int .i64 rs2, .int .i64 imm, .int .i64 (l : Int)] 41)).drewN dm).heap.size := by simp; omega
                go_wp2_with fail
                have M4 := Lib.hid (M3.out.setF k true)
                rw [← HT.out] at M4
                go_round
                case rel => exact ⟨k + 1, by omega, by go_num, by rw [HG.out], M4⟩
                case measure => first | (simp [intOf]; done) | (simp [intOf]; omega)
              · have ht : trgF L F lab k = false := by rw [HTR.out]; simp [hd1, hd2]
                have HG : Hid (gF L F lab (k + 1) = gF L F lab k) := by have := HG.out; rw [ht, Bool.or_false] at this; exact this
                have HT : Hid (stF L F lab (k + 1) = stF L F lab k) := by have := HT.out; rw [if_neg (by simp [ht])] at this; exact this
                clear ht HTR y0 y1 y2 y3 y4 y5 y6
                go_wp2_with fail
                rw [← HG.out]
                go_round
                case rel => exact ⟨k + 1, by omega, by go_num, rfl, by rw [HT.out]; exact M3⟩
                case measure => first | (simp [intOf]; done) | (simp [intOf]; omega)
          · have ht : trgF L F lab k = false := by rw [HTR.out]; simp
            have HG : Hid (gF L F lab (k + 1) = gF L F lab k) := by have := HG.out; rw [ht, Bool.or_false] at this; exact this
            have HT : Hid (stF L F lab (k + 1) = stF L F lab k) := by have := HT.out; rw [if_neg (by simp [ht])] at this; exact this
            clear ht HTR HW HWY HK
            go_wp2_with fail
            rw [← HG.out]
            go_round
            case rel => exact ⟨k + 1, by omega, by go_num, rfl, by rw [HT.out]; exact Lib.hid (M.out.grow (below_a1 _ _))⟩
            case measure => first | (simp [intOf]; done) | (simp [intOf]; omega)
        · have h3' : (kind == 3) = false := beq_eq_false_iff_ne.2 h3
          have h3n : (kind != 3) = true := bne_iff_ne.2 h3
          have ht : trgF L F lab k = false := by rw [HTR.out, h3']; rfl
          have HG : Hid (gF L F lab (k + 1) = gF L F lab k) := by have := HG.out; rw [ht, Bool.or_false] at this; exact this
          have HT : Hid (stF L F lab (k + 1) = stF L F lab k) := by have := HT.out; rw [if_neg (by simp [ht])] at this; exact this
          clear ht HTR HW HWY HK
          go_wp2_with fail
          rw [← HG.out]
          go_round
          case rel => exact ⟨k + 1, by omega, by go_num, rfl, by rw [HT.out]; exact Lib.hid (M.out.grow (below_a1 _ _))⟩
          case measure => first | (simp [intOf]; done) | (simp [intOf]; omega)
      · obtain rfl : k = L.length := by omega
        have HLT := Lib.hid (near_lt L F lab HFL.out)
        have HNL := Lib.hid (nearN_eq M.out)
        have hn' := M.out.most
        cases hg : gF L F lab L.length
        · have HG := Lib.hid hg
          clear hg
          have HN0 := Lib.hid (stF_none L F lab L.length HG.out)
          go_wp2_with fail
          simp only [Exit.jump]
          go_end0
          refine ⟨⟨_, rfl⟩, m, A2, ?_, ?_, ?_⟩
          · rw [← HF.out]; exact HG.out
          · rw [← HF.out]; exact HA.out
          · rw [← HF.out]; have := M.out; rw [HN0.out] at this; exact this
        · have HG := Lib.hid hg
          clear hg
          go_wp2_with fail
          go_step3
          have AT : Hid (∃ m' at2 lab2, Sh wp wr bs bf ba bl vi L (itF L lab far m') at2 lab2 ∧ (lab2 = lab ∨ ∃ f, lab2 = lbF L f lab L.length)) := ⟨m + 1, A2, _, by rw [← HS.out]; exact M.out, .inr ⟨F, rfl⟩⟩
          first
            | exact ⟨rfl, ⟨⟨_, _, _, _, _, _, _, _, _, _, _, _, _, _, _, _, _, _, _, _, _, _, _, _, _, _, _, _, _, _, _, _, _, _, _, _, _, _, _, _, _, _, _, _, _, _, _, _, _, _, _, _, _, rfl⟩, AT.out⟩, by rw [HN.out, HNL.out]; exact HLT.out HG.out⟩
            | exact ⟨rfl, ⟨_, _, _, _, _, _, _, _, _, _, _, _, _, _, _, _, _, _, _, _, _, _, _, _, _, _, _, _, _, _, _, _, _, _, _, _, _, _, _, _, _, _, _, _, _, _, _, _, _, _, _, _, _, rfl⟩, AT.out⟩
end
end Go.Proofs.Ytedihiodmgnlpaa
