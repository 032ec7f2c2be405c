/-
  The device's step, and its failure of the power.
-/
import Derived.Test.YtppmjdljnacpgaaV11
set_option linter.all false
namespace Go.Proofs.Ytppmjdljnacpgaa
open Go.ChangeShapes Go.WideShapes Go.ChangeAt Go.RowKit
set_option maxHeartbeats 2000000
set_option linter.unusedVariables false
set_option maxRecDepth 20000

section
variable {k : VK} {w : World} {vl : Value} {m : Dv} {ts : List Mt}
/-- the device does an instruction -/
theorem vdo_c (h : Vm k w vl m ts) (hk : k.ok) (hm : Dok m) (hs : m.steps ≤ 1000000) (i : Iv) (hi : IvOk i) :
    Calls Try.prog 55 #[.pointer (some ⟨k.bm, 0, none⟩), ivV i] w fun e w' => ∃ vl', e = .returned (.bool (doW k.inp m i).isSome) ∧ Vm k w' vl' ((doW k.inp m i).getD m) ts ∧ Chv k vl vl' w w' := by
  obtain ⟨op, rd, r1, r2, imm⟩ := i
  obtain ⟨⟨o1, o2⟩, ⟨d1, d2⟩, ⟨a1, a2⟩, ⟨b1, b2⟩, him⟩ := hi
  dsimp only at o1 o2 d1 d2 a1 a2 b1 b2 him
  obtain ⟨nd, rfl⟩ := Int.eq_ofNat_of_zero_le d1
  obtain ⟨na, rfl⟩ := Int.eq_ofNat_of_zero_le a1
  obtain ⟨nb, rfl⟩ := Int.eq_ofNat_of_zero_le b1
  have hd : nd < 32 := by omega
  have ha : na < 32 := by omega
  have hb : nb < 32 := by omega
  unfold doW
  dsimp only
  by_cases e1 : op = 1
  · subst e1; exact vdo_1 h hm imm nd na nb hd ha hb him
  rw [if_neg e1]
  by_cases e2 : op = 2
  · subst e2; exact vdo_2 h hm imm nd na nb hd ha hb him
  rw [if_neg e2]
  by_cases e3 : op = 3
  · subst e3; exact vdo_3 h hm imm nd na nb hd ha hb him
  rw [if_neg e3]
  by_cases e4 : op = 4
  · subst e4; exact vdo_4 h hm imm nd na nb hd ha hb him
  rw [if_neg e4]
  by_cases e5 : op ≤ 10
  · rw [if_pos e5]; exact vdo_branch h hm op imm nd na nb hd ha hb him (by omega) e5
  rw [if_neg e5]
  by_cases e6 : op ≤ 15
  · rw [if_pos e6]
    refine (vdo_load h hk hm op imm nd na nb hd ha hb him (by omega) e6).mono fun e w' hq => ?_
    obtain ⟨vl', q1, q2, q3⟩ := hq
    have er : regD m (na : Int) = m.regs.getD na 0 := rfl
    rw [er]
    cases hl : loadD k.inp m op (wd (m.regs.getD na 0 + imm)) <;> rw [hl] at q1 q2 <;> exact ⟨vl', q1, q2, q3⟩
  rw [if_neg e6]
  by_cases e7 : op ≤ 18
  · rw [if_pos e7]
    refine (vdo_store h hm hs op imm nd na nb hd ha hb him (by omega) e7).mono fun e w' hq => ?_
    obtain ⟨vl', q1, q2, q3⟩ := hq
    have er : regD m (na : Int) = m.regs.getD na 0 := rfl
    have es : regD m (nb : Int) = m.regs.getD nb 0 := rfl
    rw [er, es]
    cases hl : storeD m op (wd (m.regs.getD na 0 + imm)) (m.regs.getD nb 0) <;> rw [hl] at q1 q2 <;> exact ⟨vl', q1, q2, q3⟩
  rw [if_neg e7]
  by_cases e8 : op ≤ 27
  · rw [if_pos e8]; exact vdo_imm h hm op imm nd na nb hd ha hb him (by omega) e8
  rw [if_neg e8]
  exact vdo_reg h hm op imm nd na nb hd ha hb him (by omega) o2
theorem vstate_c (h : Vm k w vl m ts) : Calls Try.prog 19 #[.pointer (some ⟨k.bm, 0, none⟩)] w fun e w' => e = .returned (.int .i64 m.state) ∧ w = w' := by
  have c9 := h.c 9 (by decide)
  have lb := h.bmLt.2
  clear h
  generalize k.bm = bm at *
  go_enter Try.func19, Try.ntmps19
  go_wp2_with fail
  go_ret
  exact ⟨rfl, rfl⟩
/-- what a step leaves -/
def StepP (k : VK) (vl : Value) (m : Dv) (w : World) (e : Ending) (w' : World) : Prop := ∃ vl' ts', e = .returned (.int .i64 (stepD k.code k.inp m).state) ∧ Vm k w' vl' (stepD k.code k.inp m) ts' ∧ Chv k vl vl' w w'
theorem vstep_c (h : Vm k w vl m ts) (hk : k.ok) (hm : Dok m) (hs : m.steps ≤ 1000000) :
    Calls Try.prog 45 #[.pointer (some ⟨k.bm, 0, none⟩)] w (StepP k vl m w) := by
  have c9 := h.c 9 (by decide)
  simp only [List.getElem?_cons_succ, List.getElem?_cons_zero] at c9
  have lb := h.bmLt.2
  have HE : Hid (stepD k.code k.inp m = _) := stepD_eq k m
  by_cases hst : m.state = 0
  · rw [if_neg (by rw [hst]; decide)] at HE
    rw [hst] at c9
    have CF := Lib.hid (vfetch_c h hk hm)
    have H0 := Lib.hid h
    have HI : Hid (∀ i, fetchD k m = some i → IvOk i) := fun i hi => by
      unfold fetchD at hi
      split at hi
      · exact decD_ok (hk.cb _).1 (hk.cb _).2 hi
      · cases hi
    cases hf : fetchD k m with
    | none =>
      rw [hf] at HE CF
      have CF : Hid (Calls Try.prog 54 #[.pointer (some ⟨k.bm, 0, none⟩)] w fun e w' => ∃ ts', e = .returned (.tuple #[.agg #[.int .i64 0, .int .i64 0, .int .i64 0, .int .i64 0, .int .i64 0], .bool false]) ∧ Vm k w' vl m ts' ∧ Chv k vl vl w w') := CF
      have HE : Hid (stepD k.code k.inp m = { m with state := 2 }) := HE
      clear h hf HI hst
      go_enter Try.func45, Try.ntmps45
      go_wp2_with (go_at_call 54; (with_reducible refine CF.out.mono ?_); rintro e w1 ⟨ts', rfl, hv, hc⟩; have c9 : w1.cell? ⟨k.bm, 41, none⟩ = some (.int .i64 m.state) := hv.c 9 (by decide); have f9 := hv.fz 41; have lb := hv.bmLt.2)
      go_ret
      obtain ⟨u1, u2⟩ := hv.setState 2
      have B := vbelow1 (w1.setCell ⟨k.bm, 41, none⟩ (.int .i64 2)) (.cells #[.int .i64 0, .int .i64 0, .int .i64 0, .int .i64 0, .int .i64 0] 23)
      refine ⟨vl, ts', ?_, ?_, ?_⟩
      · rw [HE.out]; rfl
      · rw [HE.out]; exact u1.grow B
      · exact (hc.trans u2).trans (Chv.of_below B)
    | some i =>
      have hi := HI.out i hf
      rw [hf] at HE CF
      have HD := Lib.hid (doW_doD (inp := k.inp) hm hi)
      have CD : Hid (∀ W ts', Vm k W vl m ts' → Calls Try.prog 55 #[.pointer (some ⟨k.bm, 0, none⟩), ivV i] W fun e w' => ∃ vl', e = .returned (.bool (doW k.inp m i).isSome) ∧ Vm k w' vl' ((doW k.inp m i).getD m) ts' ∧ Chv k vl vl' W w') := fun W ts' hW => vdo_c hW hk hm hs i hi
      have hbs : ∀ m1, doW k.inp m i = some m1 → m1.steps = m.steps := fun m1 e => by
        have e2 := doW_doD (inp := k.inp) hm hi
        rw [e] at e2
        exact (doD_ok hk.ib hm hi e2).2.2.2
      have HB := Lib.hid hbs
      have tb := hm.tb
      obtain ⟨op, rd, r1, r2, imm⟩ := i
      have CF : Hid (Calls Try.prog 54 #[.pointer (some ⟨k.bm, 0, none⟩)] w fun e w' => ∃ ts', e = .returned (.tuple #[.agg #[.int .i64 op, .int .i64 rd, .int .i64 r1, .int .i64 r2, .int .i64 imm], .bool true]) ∧ Vm k w' vl m ts' ∧ Chv k vl vl w w') := CF
      have CD : Hid (∀ W ts', Vm k W vl m ts' → Calls Try.prog 55 #[.pointer (some ⟨k.bm, 0, none⟩), .agg #[.int .i64 op, .int .i64 rd, .int .i64 r1, .int .i64 r2, .int .i64 imm]] W fun e w' => ∃ vl', e = .returned (.bool (doW k.inp m ⟨op, rd, r1, r2, imm⟩).isSome) ∧ Vm k w' vl' ((doW k.inp m ⟨op, rd, r1, r2, imm⟩).getD m) ts' ∧ Chv k vl vl' W w') := CD
      dsimp only at HE
      generalize doW k.inp m ⟨op, rd, r1, r2, imm⟩ = dw at CD HD HB
      generalize doD k.inp m ⟨op, rd, r1, r2, imm⟩ = dd at HE HD
      clear h hf HI hi hbs hst
      go_enter Try.func45, Try.ntmps45
      go_wp2_with (go_at_call 54; (with_reducible refine CF.out.mono ?_); rintro e w1 ⟨ts', rfl, hv, hc⟩)
      have B := vbelow1 w1 (.cells #[.int .i64 op, .int .i64 rd, .int .i64 r1, .int .i64 r2, .int .i64 imm] 23)
      have M3 := hv.grow B
      have C3 := Lib.hid (hc.trans (Chv.of_below B))
      clear hv hc B
      cases dw with
      | none =>
        have CD : Hid (∀ W ts', Vm k W vl m ts' → Calls Try.prog 55 #[.pointer (some ⟨k.bm, 0, none⟩), .agg #[.int .i64 op, .int .i64 rd, .int .i64 r1, .int .i64 r2, .int .i64 imm]] W fun e w' => ∃ vl', e = .returned (.bool false) ∧ Vm k w' vl' m ts' ∧ Chv k vl vl' W w') := CD
        have HE2 : Hid (stepD k.code k.inp m = { m with state := 2 }) := by show _ = _; rw [HE.out, HD.out]; rfl
        refine (CD.out _ _ M3).mono ?_
        rintro e w4 ⟨vl', rfl, hv4, hc4⟩
        clear M3 HE HD HB
        have c9 : w4.cell? ⟨k.bm, 41, none⟩ = some (.int .i64 m.state) := hv4.c 9 (by decide)
        have f9 := hv4.fz 41
        have lb := hv4.bmLt.2
        have H4 := Lib.hid hv4
        have C4 := Lib.hid hc4
        clear hv4 hc4
        go_wp2_with fail
        go_ret
        obtain ⟨u1, u2⟩ := H4.out.setState 2
        refine ⟨vl', ts', ?_, ?_, ?_⟩
        · rw [HE2.out]; rfl
        · rw [HE2.out]; exact u1
        · exact (C3.out.trans C4.out).trans u2
      | some m1 =>
        have CD : Hid (∀ W ts', Vm k W vl m ts' → Calls Try.prog 55 #[.pointer (some ⟨k.bm, 0, none⟩), .agg #[.int .i64 op, .int .i64 rd, .int .i64 r1, .int .i64 r2, .int .i64 imm]] W fun e w' => ∃ vl', e = .returned (.bool true) ∧ Vm k w' vl' m1 ts' ∧ Chv k vl vl' W w') := CD
        have hst : m1.steps = m.steps := HB.out m1 rfl
        have HE2 : Hid (stepD k.code k.inp m = { ({ m1 with regs := m1.regs.set 0 0 } : Dv) with steps := m1.steps + 1 }) := by show _ = _; rw [HE.out, HD.out, hst]; rfl
        rw [← hst] at hs tb
        clear hst
        refine (CD.out _ _ M3).mono ?_
        rintro e w4 ⟨vl', rfl, hv4, hc4⟩
        clear M3 HE HD HB
        have c9 : w4.cell? ⟨k.bm, 41, none⟩ = some (.int .i64 m1.state) := hv4.c 9 (by decide)
        have c8 : w4.cell? ⟨k.bm, 40, none⟩ = some (.int .i64 m1.steps) := hv4.c 8 (by decide)
        have c0 := hv4.cR 0 (by decide)
        have f0 := hv4.fz 0
        have f8 := hv4.fz 40
        have lb := hv4.bmLt.2
        have H4 := Lib.hid hv4
        have C4 := Lib.hid hc4
        clear hv4 hc4
        go_wp2_with fail
        go_ret
        obtain ⟨s1, s2⟩ := H4.out.setR 0 (by decide) 0
        obtain ⟨u1, u2⟩ := s1.setSteps (m1.steps + 1)
        refine ⟨vl', ts', ?_, ?_, ?_⟩
        · rw [HE2.out]; rfl
        · rw [HE2.out]; exact u1
        · exact ((C3.out.trans C4.out).trans s2).trans u2
  · rw [if_pos hst] at HE
    have g1 : (m.state == 0) = false := beq_eq_false_iff_ne.2 hst
    have g2 : (m.state != 0) = true := bne_iff_ne.2 hst
    have CS := Lib.hid (vstate_c h)
    have H0 := Lib.hid h
    clear hst h
    go_enter Try.func45, Try.ntmps45
    go_wp2_with (go_at_call 19; (with_reducible refine CS.out.mono ?_); rintro e w1 ⟨rfl, rfl⟩)
    go_ret
    exact ⟨vl, ts, by rw [HE.out]; rfl, by rw [HE.out]; exact H0.out, Chv.refl _ _ _⟩
end
end Go.Proofs.Ytppmjdljnacpgaa
