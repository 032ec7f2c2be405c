/-
  The contract of Assemble.
-/
import Derived.Test.YtedihiodmgnlpaaA13
import Derived.Test.YtedihiodmgnlpaaE3
import Derived.Deep.CutRange
import Derived.Deep.Cut
import Derived.Deep.CutBlock
set_option linter.all false
namespace Go.Proofs.Ytedihiodmgnlpaa
open Go.ChangeShapes Go.WideShapes Go.ChangeAt Go.RowKit Go.Maps
set_option maxHeartbeats 4000000
set_option linter.unusedVariables false
set_option maxRecDepth 20000

theorem ok_mono (L : List It) : ∀ n j, j ≤ n → okN L j = false → okN L n = false
  | 0, j, h, hd => by obtain rfl : j = 0 := by omega
                      exact hd
  | n + 1, j, h, hd => by
    by_cases e : j = n + 1
    · subst e; exact hd
    · unfold okN; rw [ok_mono L n j (by omega) hd]; rfl
theorem in_mono (L : List It) : ∀ n j, j ≤ n → inN L j = false → inN L n = false
  | 0, j, h, hd => by obtain rfl : j = 0 := by omega
                      exact hd
  | n + 1, j, h, hd => by
    by_cases e : j = n + 1
    · subst e; exact hd
    · unfold inN; rw [in_mono L n j (by omega) hd]; rfl
theorem okN_at (L : List It) : ∀ k, okN L k = true → ∀ j, j < k → itemF (L.getD j default) = true
  | 0, _, j, h => absurd h (Nat.not_lt_zero j)
  | k + 1, h, j, hj => by
    unfold okN at h
    rw [Bool.and_eq_true] at h
    by_cases e : j = k
    · subst e; exact h.2
    · exact okN_at L k h.1 j (by omega)
theorem infoBool : (Try.prog.info? 4).map (fun i => (i.zero, i.size, i.bytes)) = some (some (.bool false), 1, 1) := by kernel_rfl
def AsmP (L : List It) (w : World) (e : Ending) (w' : World) : Prop :=
  ∃ v u, e = .returned (.tuple #[v, u, .int .i64 (asmE L)]) ∧ RdW w' v (asmW L) ∧ RdI w' u (asmL L) ∧ Below w.heap.size w w'
theorem asm_bad (L : List It) (w w' : World) (n : Int) (h : asmE L = n) (hn : n ≠ 0) (hb : Below w.heap.size w w') : AsmP L w (.returned (.tuple #[.slice none 0 0, .slice none 0 0, .int .i64 n])) w' := by
  refine ⟨_, _, by rw [h], ?_, ?_, hb⟩
  · unfold asmW; rw [if_neg (by rw [h]; exact hn)]
    exact ⟨none, 0, rfl, Nat.le_refl _, by simp [maxLen], fun i hi => absurd hi (Nat.not_lt_zero i)⟩
  · unfold asmL; rw [if_neg (by rw [h]; exact hn)]
    exact ⟨none, 0, rfl, Nat.le_refl _, by simp [maxLen], fun i hi => absurd hi (Nat.not_lt_zero i)⟩
theorem asmE_2 (L : List It) (h : 32768 < L.length) : asmE L = 2 := by unfold asmE; rw [if_pos h]
theorem asmE_1 (L : List It) (h : ¬ 32768 < L.length) (h1 : okN L L.length = false) : asmE L = 1 := by unfold asmE; rw [if_neg h, if_pos h1]
theorem asmE_l (L : List It) (h : ¬ 32768 < L.length) (h1 : okN L L.length = true) (h2 : labE L ≠ 0) : asmE L = labE L := by unfold asmE; rw [if_neg h, if_neg (by simp [h1]), if_pos h2]
theorem asmE_7 (L : List It) (h : ¬ 32768 < L.length) (h1 : okN L L.length = true) (h2 : labE L = 0) (h3 : inN L L.length = false) : asmE L = 7 := by unfold asmE; rw [if_neg h, if_neg (by simp [h1]), if_neg (by simp [h2]), if_pos h3]
theorem asmE_0 (L : List It) (h : ¬ 32768 < L.length) (h1 : okN L L.length = true) (h2 : labE L = 0) (h3 : inN L L.length = true) : asmE L = 0 := by unfold asmE; rw [if_neg h, if_neg (by simp [h1]), if_neg (by simp [h2]), if_neg (by simp [h3])]
theorem madeBo (w : World) (R : Nat) (hR : R ≤ maxLen) : (w.alloc (.cells (madeCells #[.bool false] R) 4)).ownsRow 0 4 1 (rowAt w.heap.size R) R ((List.replicate R false).map Value.bool) := by
  have hl : (madeCells #[Value.bool false] R).toList = (List.replicate R false).map Value.bool := by
    apply List.ext_getElem
    · simp [madeCells]
    · intro i h1 h2
      simp [madeCells, Nat.mod_one]
  refine ⟨by simp, .inr ⟨w.heap.size, R, _, rfl, Nat.zero_le _, heap_alloc_new w _, by simp, hR, by simp [madeCells], ?_⟩⟩
  rw [hl]
  simp [List.take_of_length_le]
theorem madeSh (w : World) (a b c d : Value) : (w.alloc (.cells #[a, b, c, d] 86)).ownsRow 0 86 4 (rowAt w.heap.size 1) 1 [a, b, c, d] :=
  ⟨by simp, .inr ⟨w.heap.size, 1, _, rfl, Nat.zero_le _, heap_alloc_new w _, by simp, by simp [maxLen], by simp, by simp⟩⟩
theorem Sh0.start {wp W : World} {g bf ba : Nat} {vi : Value} {L : List It} (hg : g = W.heap.size) (h : Below wp.heap.size wp W) (hi : RdT wp vi L) (hn : L.length ≤ 32768) (fr : W.ownsRow 0 4 1 (rowAt bf L.length) L.length ((noF L).map Value.bool))
    (ar : W.ownsRow 0 3 1 (rowAt ba (L.length + 1)) (L.length + 1) ((List.replicate (L.length + 1) (0 : Int)).map (Value.int .i64))) (pf : wp.heap.size ≤ bf) (pa : wp.heap.size ≤ ba) :
    Sh0 wp (W.alloc (.cells #[vi, .slice (some ⟨bf, 0, none⟩) L.length L.length, .slice (some ⟨ba, 0, none⟩) (L.length + 1) (L.length + 1), .slice none 0 0] 86)) g bf ba vi L (noF L) (List.replicate (L.length + 1) 0) := by
  subst hg
  have hga := World.grownBy_alloc W (.cells #[vi, .slice (some ⟨bf, 0, none⟩) L.length L.length, .slice (some ⟨ba, 0, none⟩) (L.length + 1) (L.length + 1), .slice none 0 0] 86) none
  have nn : ∀ b n : Nat, (rowAt b n).ownBlock = none ∨ (rowAt b n).ownBlock ≠ none := fun b n => .inr (by simp [rowAt, Value.ownBlock])
  exact ⟨madeSh _ _ _ _ _, hi, fr.kept hga (nn _ _), ar.kept hga (nn _ _), h.alloc h.size _, h.size, pf, pa, hn⟩
section
variable {wp w : World} {bs bf ba bl : Nat} {vi : Value} {L : List It} {far : List Bool} {at' lab : List Int}
theorem Sh.app (h : Sh wp w bs bf ba bl vi L far at' lab) {W w' : World} {B n : Nat} {o : Value} {xs : List Value} (hb : Below w.heap.size w W) (hown : W.ownsRow B 35 1 o n xs) (hg : W.grownBy w' o.ownBlock) (hB : wp.heap.size ≤ B) : Sh wp w' bs bf ba bl vi L far at' lab := by
  have h := h.grow hb
  refine ⟨h.sh.kept hg (rowsNe h.sh hown (by decide)), h.items, h.fr.kept hg (rowsNe h.fr hown (by decide)), h.ar.kept hg (rowsNe h.ar hown (by decide)), h.lr.kept hg (rowsNe h.lr hown (by decide)), h.ne,
    below_grown h.below hg h.below.size fun g e => Nat.le_trans hB (own_lt hown e).1, h.ps, h.pf, h.pa, h.pl, h.most, h.lmost⟩
end
theorem itemL_len (L : List It) (k : Nat) : (itemL L k).length ≤ 2 := by
  have := constL_len (L.getD k default).i.rd ((L.getD k default).i.imm % 4294967296)
  unfold itemL insL; (repeat' split) <;> simp_all
theorem wordsF_len (L : List It) : ∀ k, (wordsF L k).length ≤ 2 * k
  | 0 => by simp [wordsF]
  | k + 1 => by
    have := wordsF_len L k
    have := itemL_len L k
    unfold wordsF; simp; omega
theorem wyN (L : List It) (hn : L.length ≤ 32768) (k : Nat) (hk : k ≤ L.length) : -1000000000 ≤ wyF L k ∧ wyF L k ≤ 1000000000 := by
  have h1 := lbF_bd L (farF L) (labs0 L) hn (fun j => by
    unfold labs0
    simp only [List.getD, List.getElem?_replicate]
    split <;> simp) L.length (Nat.le_refl _) (L.getD k default).label.toNat
  have h2 := posF_bd L (farF L) k
  unfold wyF lblF; omega
theorem asm_good (L : List It) (w wr : World) (n : Nat) (v u : Value) (h : asmE L = 0) (hw : RdW wr v (wordsF L L.length)) (hl : RdI wr u (lblF L)) (hb : Below w.heap.size w wr) : AsmP L w (.returned (.tuple #[v, u, .int .i64 0])) (wr.drewN n) := by
  refine ⟨_, _, by rw [h], ?_, ?_, below_drewN' hb n⟩
  · unfold asmW; rw [if_pos h]; exact hw.ext (Ext.below (below_drewN _ _ _))
  · unfold asmL; rw [if_pos h]; exact hl.ext (Ext.below (below_drewN _ _ _))
theorem assemble_c (L : List It) (v : Value) (w : World) (hv : RdT w v L) :
    Calls Try.prog 14 #[v] w (AsmP L w) := by
  have HV := Lib.hid hv
  obtain ⟨ai, ci, rfl, hl1, hl2, hit⟩ := hv
  unfold maxLen at hl2
  have HIT := Lib.hid hit
  clear hit
  by_cases h0 : 32768 < L.length
  · have g0 : decide ((32768 : Int) < (L.length : Int)) = true := decide_eq_true (by omega)
    have HE := Lib.hid (asmE_2 L h0)
    clear h0
    go_enter Try.func14, Try.ntmps14
    go_wp2_with fail
    go_ret3
    exact asm_bad L w w 2 HE.out (by decide) (Below.refl _ _)
  · have g0 : decide ((32768 : Int) < (L.length : Int)) = false := decide_eq_false (by omega)
    have hn : L.length ≤ 32768 := by omega
    have H0 := Lib.hid h0
    clear h0
    go_enter Try.func14, Try.ntmps14
    go_wp2_with fail
    go_loopw [22] (fun i wr => ∃ (k : Nat), k ≤ L.length ∧ i = .int .i64 (k : Int) ∧ Hid (okN L k = true) ∧ Hid (Below w.heap.size w wr)) (fun i _ => L.length - (intOf i).toNat)
    case atStart => exact ⟨0, Nat.zero_le _, rfl, rfl, Below.refl _ _⟩
    case round =>
      obtain ⟨k, hk, rfl, D, B⟩ := hrel
      by_cases hlk : k < L.length
      · obtain ⟨b, o, rfl, hc⟩ := HIT.out k hlk
        have hbw : b < w.heap.size := World.block_lt_of_cell? w _ hc.kind
        have hc := hc.sub (c' := fun j => wr.cell? ⟨b, o + k * 7 + j, none⟩) fun j v hv => (B.out.cell (p := ⟨b, o + k * 7 + j, none⟩) hbw).trans hv
        have y0 := hc.kind
        have y1 := hc.op
        have y2 := hc.rd
        have y3 := hc.rs1
        have y4 := hc.rs2
        have y5 := hc.imm
        have y6 := hc.label
        simp only [Nat.add_zero] at y0
        have lb : b < wr.heap.size := World.block_lt_of_cell? wr _ y0
        have HO : Hid (okN L (k + 1) = (okN L k && itemF (L.getD k default))) := rfl
        have HM : Hid (okN L (k + 1) = false → okN L L.length = false) := ok_mono L L.length (k + 1) (by omega)
        have HR := Lib.hid (fun w => aright_c (L.getD k default) w)
        clear hc hbw
        generalize L.getD k default = X at *
        cases hx : itemF X
        · rw [hx] at HR HO
          have HE := Lib.hid (asmE_1 L H0.out (HM.out (by rw [HO.out]; simp)))
          clear hx HM HO
          obtain ⟨kind, ⟨op, rd, rs1, rs2, imm⟩, label⟩ := X
          dsimp only at y0 y1 y2 y3 y4 y5 y6
          have HR : Hid (∀ w, Calls Try.prog 18 #[.agg #[.int .i64 kind, .int .i64 op, .int .i64 rd, .int .i64 rs1, .int .i64 rs2, .int .i64 imm, .int .i64 label]] w fun e w' => e = .returned (.bool false) ∧ Below w.heap.size w w') := HR
          go_wp2_with (go_at_call 18; refine (HR.out _).mono ?_; rintro e w3 ⟨rfl, hb3⟩)
          go_ret3
          exact asm_bad L w _ 1 HE.out (by decide) (B.out.trans (((below_a1 _ _).trans (hb3.mono (by simp))).mono B.out.size))
        · rw [hx] at HR HO
          have HO : Hid (okN L (k + 1) = true) := by show _ = _; rw [HO.out, D.out]; rfl
          clear hx HM
          obtain ⟨kind, ⟨op, rd, rs1, rs2, imm⟩, label⟩ := X
          dsimp only at y0 y1 y2 y3 y4 y5 y6
          have HR : Hid (∀ w, Calls Try.prog 18 #[.agg #[.int .i64 kind, .int .i64 op, .int .i64 rd, .int .i64 rs1, .int .i64 rs2, .int .i64 imm, .int .i64 label]] w fun e w' => e = .returned (.bool true) ∧ Below w.heap.size w w') := HR
          go_wp2_with (go_at_call 18; refine (HR.out _).mono ?_; rintro e w3 ⟨rfl, hb3⟩)
          go_round
          case rel => exact ⟨k + 1, by omega, by go_num, HO, B.out.trans (((below_a1 _ _).trans (hb3.mono (by simp))).mono B.out.size)⟩
          case measure => first | (simp [intOf]; done) | (simp [intOf]; omega)
      · obtain rfl : k = L.length := by omega
        go_upto_region 9 with (fail)
        go_cut [7] from 30 to 39 (fun v wx => ∃ bs bf ba, v = .pointer (some ⟨bs, 0, none⟩) ∧ Hid (Sh0 w wx bs bf ba (.slice ai L.length ci) L (noF L) (List.replicate (L.length + 1) 0)))
        case first =>
          have hmkB := run_make_row' (P := Try.prog) 84 4 (.bool false) 1 Try.underlying84 infoBool rfl .i64 .i64 L.length (by omega) (by omega)
          have hmkI : ∀ w : World, (Instr.makeSlice 26 (.int .i64 ((L.length : Int) + 1)) (.int .i64 ((L.length : Int) + 1))).run Try.prog w = .ok (.slice (some ⟨w.heap.size, 0, none⟩) (L.length + 1) (L.length + 1)) (w.alloc (.cells (madeCells #[.int .i64 0] (L.length + 1)) 3)) := fun w => by
            have := run_make_row' (P := Try.prog) 26 3 (.int .i64 0) 8 Try.underlying26 infoInt rfl .i64 .i64 (L.length + 1) (by omega) (by omega) w
            simpa using this
          have B1 : Hid (Below w.heap.size w wr.drew) := B.out.drew
          have ml : L.length + 1 ≤ maxLen := by unfold maxLen; omega
          have ML := Lib.hid ml
          clear ml HIT D
          refine wp_region_game (fun _ => False) (by kernel_rfl) ?_
          show wpE _ _ _ _ _ _ _ wr.drew
          generalize wr.drew = W1 at B1 ⊢
          refine E_mob2 0 _ rfl (by kernel_rfl) ?_
          simp only [List.getElem_toArray, List.getElem_cons_succ, List.getElem_cons_zero]
          go_big_quiet_step (fail)
          refine wpQuiet_nil ?_
          refine E_mob2 1 _ rfl (by kernel_rfl) ?_
          simp only [List.getElem_toArray, List.getElem_cons_succ, List.getElem_cons_zero]
          go_big_quiet_step (fail)
          refine wpQuiet_nil ?_
          refine E_mob2 2 _ rfl (by kernel_rfl) ?_
          simp only [List.getElem_toArray, List.getElem_cons_succ, List.getElem_cons_zero]
          go_big_quiet_step (fail)
          refine wpQuiet_nil ?_
          refine E_mob2 4 _ rfl (by kernel_rfl) ?_
          simp only [List.getElem_toArray, List.getElem_cons_succ, List.getElem_cons_zero]
          go_big_quiet_step (fail)
          refine wpQuiet_nil ?_
          refine E_mob2 5 _ rfl (by kernel_rfl) ?_
          simp only [List.getElem_toArray, List.getElem_cons_succ, List.getElem_cons_zero]
          go_big_quiet_step (fail)
          refine wpQuiet_nil ?_
          refine E_mob2 6 _ rfl (by kernel_rfl) ?_
          simp only [List.getElem_toArray, List.getElem_cons_succ, List.getElem_cons_zero]
          go_big_quiet_step (fail)
          refine wpQuiet_nil ?_
          refine E_loud2 3 7 _ _ rfl rfl (by kernel_rfl) ?_ ?_
          · simp only [List.getElem_toArray, List.getElem_cons_succ, List.getElem_cons_zero]
            go_wp2_with fail
            refine ⟨fun _ _ h => h.elim, ?_⟩
            refine E_loud1 7 _ rfl (by kernel_rfl) ?_
            simp only [List.getElem_toArray, List.getElem_cons_succ, List.getElem_cons_zero]
            go_wp2_with fail
            refine ⟨fun _ _ h => h.elim, ?_⟩
            refine E_mob2 8 _ rfl (by kernel_rfl) ?_
            simp only [List.getElem_toArray, List.getElem_cons_succ, List.getElem_cons_zero]
            go_big_quiet_step (fail)
            refine wpQuiet_nil ?_
            refine E_loud1 9 _ rfl (by kernel_rfl) ?_
            simp only [List.getElem_toArray, List.getElem_cons_succ, List.getElem_cons_zero]
            go_wp2_with fail
            refine ⟨fun _ _ h => h.elim, ?_⟩
            refine E_mob2 10 _ rfl (by kernel_rfl) ?_
            simp only [List.getElem_toArray, List.getElem_cons_succ, List.getElem_cons_zero]
            go_big_quiet_step (fail)
            refine wpQuiet_nil ?_
            refine E_done (by kernel_rfl) ?_ _
            go_wp2_with fail
            go_meet
            case rel =>
              refine ⟨W1.heap.size + 1 + 1, W1.heap.size, W1.heap.size + 1, rfl, ?_⟩
              refine Lib.hid (Sh0.start (by simp) ((B1.out.trans ((below_a1 _ _).mono B1.out.size)).trans ((below_a1 _ _).mono (by have := B1.out.size; simp; omega))) HV.out hn ?_ ?_ B1.out.size (by have := B1.out.size; omega))
              · exact World.ownsRow.kept (madeBo W1 L.length (by have := ML.out; omega)) (World.grownBy_alloc _ _ none) (.inr (by simp [rowAt, Value.ownBlock]))
              · have := madeI (W1.alloc (.cells (madeCells #[.bool false] L.length) 4)) 0 (L.length + 1) (Nat.zero_le _) ML.out
                simpa [rowAt] using this
          · simp only [List.getElem_toArray, List.getElem_cons_succ, List.getElem_cons_zero]
            go_wp2_with fail
            refine ⟨fun _ _ h => h.elim, ?_⟩
            refine E_loud1 3 _ rfl (by kernel_rfl) ?_
            simp only [List.getElem_toArray, List.getElem_cons_succ, List.getElem_cons_zero]
            go_wp2_with fail
            refine ⟨fun _ _ h => h.elim, ?_⟩
            refine E_mob2 8 _ rfl (by kernel_rfl) ?_
            simp only [List.getElem_toArray, List.getElem_cons_succ, List.getElem_cons_zero]
            go_big_quiet_step (fail)
            refine wpQuiet_nil ?_
            refine E_loud1 9 _ rfl (by kernel_rfl) ?_
            simp only [List.getElem_toArray, List.getElem_cons_succ, List.getElem_cons_zero]
            go_wp2_with fail
            refine ⟨fun _ _ h => h.elim, ?_⟩
            refine E_mob2 10 _ rfl (by kernel_rfl) ?_
            simp only [List.getElem_toArray, List.getElem_cons_succ, List.getElem_cons_zero]
            go_big_quiet_step (fail)
            refine wpQuiet_nil ?_
            refine E_done (by kernel_rfl) ?_ _
            go_wp2_with fail
            go_meet
            case rel =>
              refine ⟨W1.heap.size + 1 + 1, W1.heap.size + 1, W1.heap.size, rfl, ?_⟩
              refine Lib.hid (Sh0.start (by simp) ((B1.out.trans ((below_a1 _ _).mono B1.out.size)).trans ((below_a1 _ _).mono (by have := B1.out.size; simp; omega))) HV.out hn ?_ ?_ (by have := B1.out.size; omega) B1.out.size)
              · have := madeBo (W1.alloc (.cells (madeCells #[.int .i64 0] (L.length + 1)) 3)) L.length (by have := ML.out; omega)
                simpa [rowAt, noF] using this
              · exact World.ownsRow.kept (madeI W1 0 (L.length + 1) (Nat.zero_le _) ML.out) (World.grownBy_alloc _ _ none) (.inr (by simp [rowAt, Value.ownBlock]))
        case rest =>
          obtain ⟨bs, bf, ba, rfl, S0⟩ := hcut
          have hV : OkL L := okN_at L L.length D.out
          have HLB := Lib.hid (labels_c S0.out hV)
          have HVV := Lib.hid hV
          clear hV
          go_wp2_with fail
          refine HLB.out.mono ?_
          rintro e w2 ⟨rfl, hb2, HS⟩
          have HB2 := Lib.hid hb2
          by_cases hl0 : labE L = 0
          · have HS := HS hl0
            have g1 : (labE L != 0) = false := by rw [hl0]; rfl
            have HL0 := Lib.hid hl0
            clear hl0
            obtain ⟨bl, S2⟩ := HS
            have hbm := mostF_bd L HVV.out L.length (Nat.le_refl _)
            have hmis : misN L L.length = false := by
              have := HL0.out
              unfold labE at this
              split at this
              · cases this
              · split at this
                · cases this
                · rename_i h; simpa using h
            have hLab : LabOk L (labs0 L).length := by unfold labs0; rw [List.length_replicate]; exact labOk_of L HVV.out hmis
            have hb0 : ∀ j, -1 ≤ (labs0 L).getD j 0 ∧ (labs0 L).getD j 0 ≤ 262144 := fun j => by
              unfold labs0
              simp only [List.getD, List.getElem?_replicate]
              split <;> simp
            have S2 : Sh w w2 bs bf ba bl (.slice ai L.length ci) L (noF L) (List.replicate (L.length + 1) 0) (labs0 L) := S2
            have HLK := Lib.hid hLab
            have HBB := Lib.hid hb0
            clear hb0 hmis hbm HB2 hb2
            go_wp2_with fail
            refine (grow_c S2 HLK.out HBB.out).mono ?_
            rintro e w3 ⟨⟨v, rfl⟩, m, at2, hg, hat, S3⟩
            have he := it_end L (labs0 L) (noF L) (by simp [noF]) m hg
            have he : itF L (labs0 L) (noF L) m = farF L := he
            rw [he] at hat S3
            have S3 : Sh w w3 bs bf ba bl (.slice ai L.length ci) L (farF L) at2 (lblF L) := S3
            clear hg he S2 hLab
            have HS3 := Lib.hid S3
            have HAT := Lib.hid hat
            clear hat S3
            go_wp2_with fail
            have HIO := Lib.hid (in_mono L)
            have B3 : Hid (Below w.heap.size w w3) := HS3.out.below
            go_loopw [9, 49] (fun o i wr => ∃ (k : Nat), k ≤ L.length ∧ i = .int .i64 (k : Int) ∧ Hid (inN L k = true) ∧ Hid (wr.ownsRow w.heap.size 35 1 o (wordsF L k).length ((wordsF L k).map (Value.int .u32))) ∧ Hid (Sh w wr bs bf ba bl (.slice ai L.length ci) L (farF L) at2 (lblF L))) (fun _ i _ => L.length - (intOf i).toNat)
            case atStart => exact ⟨0, Nat.zero_le _, rfl, rfl, own_nil _ _ _ _, HS3⟩
            case round =>
              clear HS3 B3
              obtain ⟨k, hk, rfl, DI, OW, HSH⟩ := hrel
              by_cases hlk : k < L.length
              · have HD : Hid (inN L (k + 1) = (inN L k && itemB L k)) := rfl
                have HW : Hid (wordsF L (k + 1) = wordsF L k ++ (itemL L k).map encW) := rfl
                have HIN : Hid (Calls Try.prog 42 #[.pointer (some ⟨bs, 0, none⟩), .int .i64 (k : Int)] wr fun e w' => ∃ v, e = .returned (.tuple #[v, .bool (itemB L k)]) ∧ RdN w' v (itemL L k) ∧ FrV wr v ∧ Below wr.heap.size wr w') := by
                  have hb := wyN L hn k (by omega)
                  have hp := posF_bd L (farF L) k
                  have e := HAT.out k (by omega)
                  exact insts_c HSH.out k hlk (HVV.out k hlk) (by unfold lblF; rw [lbF_len]; exact HLK.out) (wyF L k) (by rw [e]; rfl) hb.1 hb.2 (by rw [e]; exact hp.1) (by rw [e]; omega)
                have HLN := Lib.hid (itemL_len L k)
                have HWN := Lib.hid (wordsF_len L k)
                have HAS := Lib.hid (asmE_7 L H0.out D.out HL0.out)
                have HIM : Hid (inN L (k + 1) = false → inN L L.length = false) := HIO.out L.length (k + 1) (by omega)
                generalize itemL L k = I at *
                generalize itemB L k = ib at *
                cases ib
                · have HE : Hid (asmE L = 7) := HAS.out (HIM.out (by rw [HD.out]; simp))
                  clear HAS HIM HD HW
                  go_wp2_with (go_at_call 42; refine HIN.out.mono ?_; rintro e w4 ⟨v4, rfl, hv4, hf4, hb4⟩)
                  go_ret3
                  exact asm_bad L w _ 7 HE.out (by decide) (HSH.out.below.trans (hb4.mono HSH.out.below.size))
                · have HE : Hid (inN L (k + 1) = true) := by show _ = _; rw [HD.out, DI.out]; rfl
                  clear HAS HIM HD
                  go_wp2_with (go_at_call 42; refine HIN.out.mono ?_; rintro e w4 ⟨v4, rfl, hv4, hf4, hb4⟩; have HV4 := Lib.hid hv4; obtain ⟨av, cv, rfl, hv41, hv42, -⟩ := hv4)
                  have HA4 : Hid (Apart (.slice av I.length cv) _) := Apart.new OW.out hf4
                  have OW4 := Lib.hid (own_below OW.out hb4)
                  have SH4 := Lib.hid (HSH.out.grow hb4)
                  clear hf4 hb4 OW HSH HIN
                  unfold maxLen at hv42
                  have hI := HLN.out
                  go_loopw [9, 62] (fun o i wr => ∃ (j : Nat), j ≤ I.length ∧ i = .int .i64 (j : Int) ∧ Hid (wr.ownsRow w.heap.size 35 1 o (wordsF L k ++ (I.take j).map encW).length ((wordsF L k ++ (I.take j).map encW).map (Value.int .u32))) ∧ Hid (Apart (.slice av I.length cv) o.ownBlock) ∧ Hid (RdN wr (.slice av I.length cv) I) ∧ Hid (Sh w wr bs bf ba bl (.slice ai L.length ci) L (farF L) at2 (lblF L))) (fun _ i _ => I.length - (intOf i).toNat)
                  case atStart => exact ⟨0, Nat.zero_le _, rfl, by simpa using OW4, HA4, HV4, SH4⟩
                  case round =>
                    clear HA4 OW4 SH4 HV4
                    obtain ⟨j, hj, rfl, OW, HA, HV, SH⟩ := hrel
                    by_cases hlj : j < I.length
                    · have HT : Hid (wordsF L k ++ (I.take (j + 1)).map encW = (wordsF L k ++ (I.take j).map encW) ++ [encW (I.getD j default)]) := by
                        show _ = _
                        rw [List.take_succ, List.map_append, List.append_assoc]
                        simp [List.getD, hlj]
                      have HLW : Hid ((wordsF L k ++ (I.take j).map encW).length ≤ 100000) := by
                        have := HWN.out
                        show _ ≤ _
                        simp; omega
                      obtain ⟨a2, c2, e2, -, -, h4⟩ := HV.out
                      cases e2
                      obtain ⟨bi, oi, rfl, hc⟩ := h4 j hlj
                      have z0 := hc.op
                      have z1 := hc.rd
                      have z2 := hc.rs1
                      have z3 := hc.rs2
                      have z4 := hc.imm
                      simp only [Nat.add_zero] at z0
                      have lbi : bi < wr.heap.size := World.block_lt_of_cell? wr _ z0
                      have HEN := Lib.hid (fun w => encode_c (I.getD j default) w)
                      clear hc h4
                      generalize I.getD j default = X at *
                      obtain ⟨op, rd, rs1, rs2, imm⟩ := X
                      dsimp only at z0 z1 z2 z3 z4
                      generalize encW ⟨op, rd, rs1, rs2, imm⟩ = ew at *
                      have HEN : Hid (∀ w, Calls Try.prog 43 #[.agg #[.int .i64 op, .int .i64 rd, .int .i64 rs1, .int .i64 rs2, .int .i64 imm]] w fun e w' => (∃ n, e = .returned (.tuple #[.int .u32 ew, .int .i64 n])) ∧ Below w.heap.size w w') := HEN
                      generalize wordsF L k ++ (I.take j).map encW = ws at *
                      have hsz := SH.out.below.size
                      go_wp2_with (first | (go_at_call 43; refine (HEN.out _).mono ?_; rintro e w5 ⟨⟨n5, rfl⟩, hb5⟩; have B5 : Hid (Below wr.heap.size wr w5) := (below_a1 _ _).trans (hb5.mono (by simp)); have hs5 := B5.out.size; have OW5 := Lib.hid (own_below (own_below OW.out B5.out) (below_a1 w5 (.cells #[.int .u32 ew] 35))); clear hb5) | (at_builtin; refine appG 25 35 infoU32 Try.underlying25 rfl (by decide) (by decide) [.int .u32 ew] rfl (by simp [Value.oneCell']) OW5.out rfl rfl rfl rfl (cell_new1 _ _ _ _ rfl) (by have := HLW.out; omega) (by simp; omega) ?_; intro o6 w6 O6 G6 D6))
                      have SH6 := Lib.hid (SH.out.app (B5.out.trans ((below_a1 w5 (.cells #[.int .u32 ew] 35)).mono hs5)) OW5.out G6 (Nat.le_refl _))
                      have HV6 : Hid (RdN w6 (.slice (some ⟨bi, oi, none⟩) I.length cv) I) := Rows'.grown (HV.out.ext (Ext.below (B5.out.trans ((below_a1 w5 (.cells #[.int .u32 ew] 35)).mono hs5)))) G6 HA.out fun _ _ _ hs h => h.sub hs
                      have HA6 : Hid (Apart (.slice (some ⟨bi, oi, none⟩) I.length cv) o6.ownBlock) := Apart.app HA.out (fun b p n c e => by cases e; simp; omega) D6
                      have O6 : Hid (w6.ownsRow w.heap.size 35 1 o6 (ws ++ [ew]).length ((ws ++ [ew]).map (Value.int .u32))) := by
                        have := O6
                        rw [List.map_append, List.length_append]; exact this
                      rw [← HT.out] at O6
                      clear G6 D6 OW5 B5 OW HA HV SH HT
                      go_wp2_with fail
                      go_roundw
                      case rel => exact ⟨j + 1, by omega, by go_num, O6, HA6, HV6, SH6⟩
                      case measure => first | (simp [intOf]; done) | (simp [intOf]; omega)
                    · obtain rfl : j = I.length := by omega
                      have OW2 := OW.out
                      rw [List.take_of_length_le (Nat.le_refl _), ← HW.out] at OW2
                      have OW2 := Lib.hid OW2
                      clear OW HA HV HW
                      go_wp2_with fail
                      go_roundw
                      case rel => exact ⟨k + 1, by omega, by go_num, HE, OW2, SH⟩
                      case measure => first | (simp [intOf]; done) | (simp [intOf]; omega)
              · obtain rfl : k = L.length := by omega
                have c3 := HSH.out.c3
                have HE := Lib.hid (asmE_0 L H0.out D.out HL0.out DI.out)
                have hO := Lib.hid (own_rows (f := Value.int .u32) 0 OW.out)
                have hL := Lib.hid (own_rows (f := Value.int .i64) 0 HSH.out.lr)
                have hB := Lib.hid HSH.out.below
                clear OW HSH
                go_wp2_with fail
                go_quiet (fail)
                go_wp2_with fail
                go_ret3
                exact asm_good L w _ _ _ _ HE.out hO.out hL.out hB.out
          · have HE := Lib.hid (asmE_l L H0.out D.out hl0)
            have HN := Lib.hid hl0
            have g1 : (labE L != 0) = true := bne_iff_ne.2 hl0
            clear hl0 HS
            go_wp2_with fail
            go_ret3
            exact asm_bad L w _ _ HE.out HN.out HB2.out
end Go.Proofs.Ytedihiodmgnlpaa
