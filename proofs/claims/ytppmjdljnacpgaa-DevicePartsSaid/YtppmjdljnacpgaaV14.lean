/-
  The device's run.
-/
import Derived.Test.YtppmjdljnacpgaaV13
import Derived.Deep.LoopGhost
import Derived.BigQuiet
set_option linter.all false
namespace Go.Proofs.Ytppmjdljnacpgaa
open Go.ChangeShapes Go.WideShapes Go.ChangeAt Go.RowKit
set_option maxHeartbeats 2000000
set_option linter.unusedVariables false
set_option maxRecDepth 20000

/-- failures in memory, in block fb -/
def FV (w : World) (fb : Nat) (v : Value) (L : List Int) : Prop := ((∃ a c, v = .slice a 0 c) ∧ L = []) ∨ ∃ o c, v = .slice (some ⟨fb, o, none⟩) L.length c ∧ L.length ≤ c ∧ c ≤ maxLen ∧ ∀ j, j < L.length → w.cell? ⟨fb, o + j, none⟩ = some (.int .i64 (L.getD j 0))
theorem FV.tail {w : World} {fb o n c : Nat} {x : Int} {L : List Int} (h : FV w fb (.slice (some ⟨fb, o, none⟩) n c) (x :: L)) : FV w fb (.slice (some ⟨fb, o + 1, none⟩) L.length (c - 1)) L := by
  rcases h with ⟨-, h⟩ | ⟨o', c', e, h1, h2, h3⟩
  · cases h
  · simp only [Value.slice.injEq, Option.some.injEq, Addr.mk.injEq, and_true, true_and, List.length_cons] at e h1
    obtain ⟨rfl, -, rfl⟩ := e
    refine .inr ⟨o + 1, c - 1, rfl, by omega, by omega, fun j hj => ?_⟩
    have := h3 (j + 1) (by simp; omega)
    rw [show o + 1 + j = o + (j + 1) by omega]
    exact this
def lenV : Value → Nat
  | .slice _ n _ => n
  | _ => 0
theorem FV.len {w : World} {fb : Nat} {v : Value} {L : List Int} (h : FV w fb v L) : lenV v = L.length := by
  rcases h with ⟨⟨a, c, rfl⟩, rfl⟩ | ⟨o', c', rfl, -⟩ <;> rfl
theorem FV.nil {w : World} {fb : Nat} {v : Value} (h : FV w fb v []) : ∃ a c, v = .slice a 0 c := by
  rcases h with ⟨⟨a, c, rfl⟩, -⟩ | ⟨o', c', rfl, -⟩
  · exact ⟨a, c, rfl⟩
  · exact ⟨_, _, rfl⟩
theorem FV.cons {w : World} {fb : Nat} {v : Value} {x : Int} {L : List Int} (h : FV w fb v (x :: L)) : ∃ o c, v = .slice (some ⟨fb, o, none⟩) (L.length + 1) c ∧ L.length + 1 ≤ c ∧ c ≤ maxLen ∧ w.cell? ⟨fb, o, none⟩ = some (.int .i64 x) := by
  rcases h with ⟨-, h⟩ | ⟨o', c', rfl, h1, h2, h3⟩
  · cases h
  · exact ⟨o', c', rfl, h1, h2, h3 0 (by simp)⟩
def muD (n : Int) (m : Dv) : Nat := if m.state = 0 then (n - m.steps).toNat + 1 else 0
def runT (code inp : List Int) (n : Int) (L : List Int) (m : Dv) : Dv := runD code inp n ((n - m.steps).toNat + 1) L m
theorem stepD_next {code inp : List Int} {m : Dv} (h : m.state = 0) (h' : (stepD code inp m).state = 0) : (stepD code inp m).steps = m.steps + 1 := by
  unfold stepD at h' ⊢
  rw [if_neg (by rw [h]; decide)] at h' ⊢
  split at h'
  · cases hd : decD (code.getD (m.pc / 4).toNat 0) with
    | none => rw [hd] at h'; cases h'
    | some i =>
      rw [hd] at h'
      dsimp only at h'
      cases ho : doD inp m i with
      | none => rw [ho] at h'; cases h'
      | some m' => rw [if_pos (by assumption)]; dsimp only; rw [ho]
  · cases h'
theorem runD_stop {code inp : List Int} {n : Int} {L : List Int} {m : Dv} (h : ¬(m.state = 0 ∧ m.steps < n)) : ∀ f, runD code inp n f L m = m
  | 0 => rfl
  | f + 1 => by unfold runD; rw [if_neg h]
theorem runD_go {code inp : List Int} {n : Int} {L : List Int} {m : Dv} (h : m.state = 0) (h2 : m.steps < n) (f : Nat) : runD code inp n (f + 1) L m = match dropD m.steps L with
    | [] => runD code inp n f [] (stepD code inp m)
    | x :: l => if x = m.steps then runD code inp n f l (stepD code inp (failD m)) else runD code inp n f (x :: l) (stepD code inp m) := by
  show (if _ then _ else _) = _
  rw [if_pos ⟨h, h2⟩]
  rfl
theorem failD_state {m : Dv} (h : m.state = 0) : (failD m).state = 0 := by
  unfold failD; rw [if_pos h]; exact h
theorem muD_step {code inp : List Int} {n : Int} {m m0 : Dv} (h : m.state = 0) (h2 : m.steps < n) (h0 : m0.state = 0) (hs : m0.steps = m.steps) : muD n (stepD code inp m0) + 1 ≤ muD n m := by
  unfold muD
  rw [if_pos h]
  by_cases hz : (stepD code inp m0).state = 0
  · rw [if_pos hz, stepD_next h0 hz, hs]; omega
  · rw [if_neg hz]; omega
section
variable {k : VK} {w : World} {vl : Value} {m : Dv} {ts : List Mt}
/-- what a run has come to -/
structure RunI (k : VK) (vl : Value) (w : World) (n : Int) (fb : Nat) (R : Dv) (q : Nat) (tv : Value) (wr : World) (f : Nat) (vl' : Value) (m' : Dv) (ts' : List Mt) (L' : List Int) : Prop where
  M : Vm k wr vl' m' ts'
  C : Chv k vl vl' w wr
  ok : Dok m'
  st : m'.steps ≤ 1000000
  F : FV w fb tv L'
  R' : runD k.code k.inp n f L' m' = R
  mu : muD n m' ≤ f
  q' : q = muD n m'
theorem vrun_c (h : Vm k w vl m ts) (hk : k.ok) (hm : Dok m) (n : Int) (hn : n ≤ 1000000) (hs : m.steps ≤ 1000000) (L : List Int) (fb : Nat) (v : Value) (hv : FV w fb v L) (hL : L.length ≤ 1000000)
    (hf : fb ≠ k.bm ∧ fb ≠ k.bt ∧ some fb ≠ k.vd.ownBlock ∧ some fb ≠ vl.ownBlock) :
    Calls Try.prog 18 #[.pointer (some ⟨k.bm, 0, none⟩), .int .i64 n, v] w fun e w' => ∃ vl' ts', e = .returned (.int .i64 (runT k.code k.inp n L m).state) ∧ Vm k w' vl' (runT k.code k.inp n L m) ts' ∧ Chv k vl vl' w w' := by
  have HI : Hid (RunI k vl w n fb (runT k.code k.inp n L m) (muD n m) v w ((n - m.steps).toNat + 1) vl m ts L) := ⟨h, Chv.refl _ _ _, hm, hs, hv, rfl, by unfold muD; split <;> omega, rfl⟩
  have HS : Hid (∀ W vl' m' ts', Vm k W vl' m' ts' → Dok m' → m'.steps ≤ 1000000 → Calls Try.prog 45 #[.pointer (some ⟨k.bm, 0, none⟩)] W (StepP k vl' m' W)) := fun W vl' m' ts' a b c => vstep_c a hk b c
  have HF : Hid (∀ W vl' m' ts', Vm k W vl' m' ts' → Calls Try.prog 42 #[.pointer (some ⟨k.bm, 0, none⟩)] W fun e w' => e = .returned (.tuple #[]) ∧ Vm k w' vl' (failD m') ts' ∧ Chv k vl' vl' W w') := fun W vl' m' ts' a => vfail_c a
  have HK := Lib.hid hk
  have HX : Hid (∀ {vl' wx o x}, Chv k vl vl' w wx → w.cell? ⟨fb, o, none⟩ = some x → wx.cell? ⟨fb, o, none⟩ = some x) := fun hc hx => hc.cell hf.1 hf.2.1 hf.2.2.1 hf.2.2.2 hx
  have HLL : Hid (lenV v ≤ 1000000) := by show _ ≤ _; rw [hv.len]; exact hL
  generalize runT k.code k.inp n L m = R at *
  clear h hk hm hs hv hf hL
  go_enter Try.func18, Try.ntmps18
  go_wp2_with fail
  go_loopg [2] (muD n m) (fun q tv wr => ∃ (f : Nat) (vl' : Value) (m' : Dv) (ts' : List Mt) (L' : List Int), Hid (RunI k vl w n fb R q tv wr f vl' m' ts' L') ∧ Hid (L'.length ≤ 1000000))
  case atStart => exact ⟨_, _, _, _, _, HI, by have := HLL.out; rw [HI.out.F.len] at this; exact this⟩
  case round =>
    obtain ⟨f, vl', m', ts', L', I, HL'⟩ := hrel
    have HM := Lib.hid I.out.M
    have HQ := Lib.hid I.out.q'
    by_cases hc : m'.state = 0 ∧ m'.steps < n
    · obtain ⟨hc1, hc2⟩ := hc
      have g1 : decide (m'.steps < n) = true := decide_eq_true hc2
      have hmu : muD n m' = (n - m'.steps).toNat + 1 := by unfold muD; rw [if_pos hc1]
      obtain ⟨f, rfl⟩ : ∃ f0, f = f0 + 1 := ⟨f - 1, by have := I.out.mu; omega⟩
      have HMU : Hid (muD n m' ≤ f + 1) := I.out.mu
      have HR : Hid (_ = R) := I.out.R'
      rw [runD_go hc1 hc2 f] at HR
      have HOK := Lib.hid I.out.ok
      have HST := Lib.hid I.out.st
      have hst := HST.out
      have htb := HOK.out.tb
      have HM1 : Hid (muD n (stepD k.code k.inp m') + 1 ≤ muD n m') := muD_step hc1 hc2 hc1 rfl
      have HM2 : Hid (muD n (stepD k.code k.inp (failD m')) + 1 ≤ muD n m') := muD_step hc1 hc2 (failD_state hc1) (failD_ok HOK.out).2.2
      have HS1 : Hid ((stepD k.code k.inp m').steps ≤ 1000000) := by show _ ≤ _; have := (stepD_ok HK.out.cb HK.out.ib HOK.out).2.2.2.2; omega
      have HS2 : Hid ((stepD k.code k.inp (failD m')).steps ≤ 1000000) := by show _ ≤ _; have := (stepD_ok HK.out.cb HK.out.ib (failD_ok HOK.out).1).2.2.2.2; have := (failD_ok HOK.out).2.2; omega
      have IC := Lib.hid I.out.C
      have IF := Lib.hid I.out.F
      have c9 := HM.out.c 9 (by decide)
      have c8 := HM.out.c 8 (by decide)
      simp only [List.getElem?_cons_succ, List.getElem?_cons_zero] at c9 c8
      rw [hc1] at c9
      have lb := HM.out.bmLt.2
      clear I hmu
      go_wp2_with fail
      go_loopw [2] (fun tv wr => ∃ (L2 : List Int), Hid (dropD m'.steps L2 = dropD m'.steps L') ∧ Hid (FV w fb tv L2) ∧ Hid (L2.length ≤ 1000000) ∧ Hid (Vm k wr vl' m' ts') ∧ Hid (Chv k vl vl' w wr)) (fun tv _ => lenV tv)
      case atStart => exact ⟨L', rfl, IF, HL', HM, IC⟩
      case round =>
        clear HM IC IF HL' c9 c8 lb
        obtain ⟨L2, HD, IF, HL', HM, IC⟩ := hrel
        have c9 := HM.out.c 9 (by decide)
        have c8 := HM.out.c 8 (by decide)
        simp only [List.getElem?_cons_succ, List.getElem?_cons_zero] at c9 c8
        rw [hc1] at c9
        have lb := HM.out.bmLt.2
        rw [← HD.out] at HR
        cases L2 with
        | nil =>
          obtain ⟨a, c, rfl⟩ := IF.out.nil
          have HLN : Hid (([] : List Int).length ≤ 1000000) := by show _ ≤ _; simp
          have HR : Hid (runD k.code k.inp n f [] (stepD k.code k.inp m') = R) := HR
          go_wp2_with fail
          go_quiet (fail)
          have IC := Lib.hid (IC.out.trans (Chv.of_below (k := k) (vl := vl') (below_drewN3 wr nq)))
          have HM := Lib.hid (HM.out.grow (below_drewN3 wr nq))
          try have hx : (wr.drewN nq).cell? ⟨fb, o, none⟩ = _ := hx
          have c9 : (wr.drewN nq).cell? ⟨k.bm, 41, none⟩ = _ := c9
          have c8 : (wr.drewN nq).cell? ⟨k.bm, 40, none⟩ = _ := c8
          have lb : k.bm < (wr.drewN nq).heap.size := lb
          generalize wr.drewN nq = wr at *
          go_wp2_with fail
          go_quiet (fail)
          have IC := Lib.hid (IC.out.trans (Chv.of_below (k := k) (vl := vl') (below_drewN3 wr nq)))
          have HM := Lib.hid (HM.out.grow (below_drewN3 wr nq))
          try have hx : (wr.drewN nq).cell? ⟨fb, o, none⟩ = _ := hx
          have c9 : (wr.drewN nq).cell? ⟨k.bm, 41, none⟩ = _ := c9
          have c8 : (wr.drewN nq).cell? ⟨k.bm, 40, none⟩ = _ := c8
          have lb : k.bm < (wr.drewN nq).heap.size := lb
          generalize wr.drewN nq = wr at *
          go_wp2_with fail
          refine (HS.out _ vl' m' ts' (HM.out) (HOK.out) (HST.out)).mono ?_
          rintro e w4 ⟨vl2, ts2, rfl, M4, C4⟩
          have M4 := Lib.hid M4
          have C4 := Lib.hid C4
          go_wp2_with fail
          go_roundg (muD n (stepD k.code k.inp m'))
          case rel =>
            have HN : RunI k vl w n fb R (muD n (stepD k.code k.inp m')) (.slice a 0 c) w4 f vl2 (stepD k.code k.inp m') ts2 [] := ⟨M4.out, (IC.out).trans C4.out, (stepD_ok HK.out.cb HK.out.ib (HOK.out)).1, HS1.out, IF.out, HR.out, by have := HM1.out; have := HMU.out; omega, rfl⟩
            exact ⟨f, vl2, _, ts2, [], Lib.hid HN, HLN⟩
          case measure => have := HM1.out; rw [HQ.out]; omega
        | cons x l =>
          obtain ⟨o, c, rfl, hc3, hc4, hx⟩ := IF.out.cons
          have hx := HX.out IC.out hx
          have hl := HL'.out
          simp only [List.length_cons] at hl
          have gl : decide ((0 : Int) < ((l.length + 1 : Nat) : Int)) = true := decide_eq_true (by omega)
          have gl' : decide (0 < l.length + 1) = true := decide_eq_true (by omega)
          by_cases hxs : x < m'.steps
          · have gx : decide (x < m'.steps) = true := decide_eq_true hxs
            have HD2 : Hid (dropD m'.steps l = dropD m'.steps L') := by
              show _ = _
              rw [← HD.out]
              conv => rhs; unfold dropD; rw [if_pos hxs]
            have HLl : Hid (l.length ≤ 1000000) := by show _ ≤ _; omega
            clear HR HD
            by_cases hcc : c = 1
            · subst hcc
              obtain rfl : l = [] := List.eq_nil_of_length_eq_zero (by omega)
              have IF2 : Hid (FV w fb (.slice (some ⟨fb, o, none⟩) 0 0) []) := .inr ⟨o, 0, rfl, Nat.le_refl _, by decide, fun j hj => absurd hj (Nat.not_lt_zero j)⟩
              go_wp2_with fail
              go_quiet (fail)
              have IC := Lib.hid (IC.out.trans (Chv.of_below (k := k) (vl := vl') (below_drewN3 wr nq)))
              have HM := Lib.hid (HM.out.grow (below_drewN3 wr nq))
              try have hx : (wr.drewN nq).cell? ⟨fb, o, none⟩ = _ := hx
              have c9 : (wr.drewN nq).cell? ⟨k.bm, 41, none⟩ = _ := c9
              have c8 : (wr.drewN nq).cell? ⟨k.bm, 40, none⟩ = _ := c8
              have lb : k.bm < (wr.drewN nq).heap.size := lb
              generalize wr.drewN nq = wr at *
              go_wp2_with fail
              exact ⟨⟨[], HD2, IF2, HLl, HM, IC⟩, Nat.lt_succ_self 0⟩
            · have IF2 := Lib.hid IF.out.tail
              go_wp2_with fail
              go_quiet (fail)
              have IC := Lib.hid (IC.out.trans (Chv.of_below (k := k) (vl := vl') (below_drewN3 wr nq)))
              have HM := Lib.hid (HM.out.grow (below_drewN3 wr nq))
              try have hx : (wr.drewN nq).cell? ⟨fb, o, none⟩ = _ := hx
              have c9 : (wr.drewN nq).cell? ⟨k.bm, 41, none⟩ = _ := c9
              have c8 : (wr.drewN nq).cell? ⟨k.bm, 40, none⟩ = _ := c8
              have lb : k.bm < (wr.drewN nq).heap.size := lb
              generalize wr.drewN nq = wr at *
              go_wp2_with fail
              first | exact ⟨⟨l, HD2, IF2, HLl, HM, IC⟩, Nat.lt_succ_self _⟩ | (rw [if_neg hcc]; exact ⟨⟨l, HD2, IF2, HLl, HM, IC⟩, Nat.lt_succ_self _⟩)
          · have gx : decide (x < m'.steps) = false := decide_eq_false hxs
            have hdr : dropD m'.steps (x :: l) = x :: l := by unfold dropD; rw [if_neg hxs]
            rw [hdr] at HR
            clear hdr HD
            by_cases hxe : x = m'.steps
            · have HR : Hid (runD k.code k.inp n f l (stepD k.code k.inp (failD m')) = R) := by have := HR.out; dsimp only at this; rw [if_pos hxe] at this; exact this
              have ge : (x == m'.steps) = true := beq_iff_eq.2 hxe
              have HLl : Hid (l.length ≤ 1000000) := by show _ ≤ _; omega
              have HOKF := Lib.hid (failD_ok HOK.out).1
              have HSTF : Hid ((failD m').steps ≤ 1000000) := by show _ ≤ _; rw [(failD_ok HOK.out).2.2]; exact hst
              clear hxe hxs
              by_cases hcc : c = 1
              · subst hcc
                obtain rfl : l = [] := List.eq_nil_of_length_eq_zero (by omega)
                have IF2 : Hid (FV w fb (.slice (some ⟨fb, o, none⟩) 0 0) []) := .inr ⟨o, 0, rfl, Nat.le_refl _, by decide, fun j hj => absurd hj (Nat.not_lt_zero j)⟩
                go_wp2_with fail
                go_quiet (fail)
                have IC := Lib.hid (IC.out.trans (Chv.of_below (k := k) (vl := vl') (below_drewN3 wr nq)))
                have HM := Lib.hid (HM.out.grow (below_drewN3 wr nq))
                try have hx : (wr.drewN nq).cell? ⟨fb, o, none⟩ = _ := hx
                have c9 : (wr.drewN nq).cell? ⟨k.bm, 41, none⟩ = _ := c9
                have c8 : (wr.drewN nq).cell? ⟨k.bm, 40, none⟩ = _ := c8
                have lb : k.bm < (wr.drewN nq).heap.size := lb
                generalize wr.drewN nq = wr at *
                go_wp2_with fail
                go_quiet (fail)
                have IC := Lib.hid (IC.out.trans (Chv.of_below (k := k) (vl := vl') (below_drewN3 wr nq)))
                have HM := Lib.hid (HM.out.grow (below_drewN3 wr nq))
                try have hx : (wr.drewN nq).cell? ⟨fb, o, none⟩ = _ := hx
                have c9 : (wr.drewN nq).cell? ⟨k.bm, 41, none⟩ = _ := c9
                have c8 : (wr.drewN nq).cell? ⟨k.bm, 40, none⟩ = _ := c8
                have lb : k.bm < (wr.drewN nq).heap.size := lb
                generalize wr.drewN nq = wr at *
                go_wp2_with fail
                refine (HF.out _ vl' m' ts' HM.out).mono ?_
                rintro e w3 ⟨rfl, M3, C3⟩
                have IC := Lib.hid (IC.out.trans C3)
                have HM := Lib.hid M3
                clear C3 M3 c9 c8 lb
                go_wp2_with fail
                refine (HS.out _ vl' (failD m') ts' (HM.out) (HOKF.out) (HSTF.out)).mono ?_
                rintro e w4 ⟨vl2, ts2, rfl, M4, C4⟩
                have M4 := Lib.hid M4
                have C4 := Lib.hid C4
                go_wp2_with fail
                go_roundg (muD n (stepD k.code k.inp (failD m')))
                case rel =>
                  have HN : RunI k vl w n fb R (muD n (stepD k.code k.inp (failD m'))) (.slice (some ⟨fb, o, none⟩) 0 0) w4 f vl2 (stepD k.code k.inp (failD m')) ts2 [] := ⟨M4.out, (IC.out).trans C4.out, (stepD_ok HK.out.cb HK.out.ib (HOKF.out)).1, HS2.out, IF2.out, HR.out, by have := HM2.out; have := HMU.out; omega, rfl⟩
                  exact ⟨f, vl2, _, ts2, [], Lib.hid HN, HLl⟩
                case measure => have := HM2.out; rw [HQ.out]; omega
              · have IF2 := Lib.hid IF.out.tail
                go_wp2_with fail
                go_quiet (fail)
                have IC := Lib.hid (IC.out.trans (Chv.of_below (k := k) (vl := vl') (below_drewN3 wr nq)))
                have HM := Lib.hid (HM.out.grow (below_drewN3 wr nq))
                try have hx : (wr.drewN nq).cell? ⟨fb, o, none⟩ = _ := hx
                have c9 : (wr.drewN nq).cell? ⟨k.bm, 41, none⟩ = _ := c9
                have c8 : (wr.drewN nq).cell? ⟨k.bm, 40, none⟩ = _ := c8
                have lb : k.bm < (wr.drewN nq).heap.size := lb
                generalize wr.drewN nq = wr at *
                go_wp2_with fail
                go_quiet (fail)
                have IC := Lib.hid (IC.out.trans (Chv.of_below (k := k) (vl := vl') (below_drewN3 wr nq)))
                have HM := Lib.hid (HM.out.grow (below_drewN3 wr nq))
                try have hx : (wr.drewN nq).cell? ⟨fb, o, none⟩ = _ := hx
                have c9 : (wr.drewN nq).cell? ⟨k.bm, 41, none⟩ = _ := c9
                have c8 : (wr.drewN nq).cell? ⟨k.bm, 40, none⟩ = _ := c8
                have lb : k.bm < (wr.drewN nq).heap.size := lb
                generalize wr.drewN nq = wr at *
                go_wp2_with fail
                refine (HF.out _ vl' m' ts' HM.out).mono ?_
                rintro e w3 ⟨rfl, M3, C3⟩
                have IC := Lib.hid (IC.out.trans C3)
                have HM := Lib.hid M3
                clear C3 M3 c9 c8 lb
                go_wp2_with fail
                refine (HS.out _ vl' (failD m') ts' (HM.out) (HOKF.out) (HSTF.out)).mono ?_
                rintro e w4 ⟨vl2, ts2, rfl, M4, C4⟩
                have M4 := Lib.hid M4
                have C4 := Lib.hid C4
                go_wp2_with fail
                go_roundg (muD n (stepD k.code k.inp (failD m')))
                case rel =>
                  have HN : RunI k vl w n fb R (muD n (stepD k.code k.inp (failD m'))) (.slice (some ⟨fb, o + 1, none⟩) l.length (c - 1)) w4 f vl2 (stepD k.code k.inp (failD m')) ts2 l := ⟨M4.out, (IC.out).trans C4.out, (stepD_ok HK.out.cb HK.out.ib (HOKF.out)).1, HS2.out, IF2.out, HR.out, by have := HM2.out; have := HMU.out; omega, rfl⟩
                  exact ⟨f, vl2, _, ts2, l, Lib.hid HN, HLl⟩
                case measure => have := HM2.out; rw [HQ.out]; omega
            · have HR : Hid (runD k.code k.inp n f (x :: l) (stepD k.code k.inp m') = R) := by have := HR.out; dsimp only at this; rw [if_neg hxe] at this; exact this
              have ge : (x == m'.steps) = false := beq_eq_false_iff_ne.2 hxe
              clear hxe hxs
              go_wp2_with fail
              go_quiet (fail)
              have IC := Lib.hid (IC.out.trans (Chv.of_below (k := k) (vl := vl') (below_drewN3 wr nq)))
              have HM := Lib.hid (HM.out.grow (below_drewN3 wr nq))
              try have hx : (wr.drewN nq).cell? ⟨fb, o, none⟩ = _ := hx
              have c9 : (wr.drewN nq).cell? ⟨k.bm, 41, none⟩ = _ := c9
              have c8 : (wr.drewN nq).cell? ⟨k.bm, 40, none⟩ = _ := c8
              have lb : k.bm < (wr.drewN nq).heap.size := lb
              generalize wr.drewN nq = wr at *
              go_wp2_with fail
              go_quiet (fail)
              have IC := Lib.hid (IC.out.trans (Chv.of_below (k := k) (vl := vl') (below_drewN3 wr nq)))
              have HM := Lib.hid (HM.out.grow (below_drewN3 wr nq))
              try have hx : (wr.drewN nq).cell? ⟨fb, o, none⟩ = _ := hx
              have c9 : (wr.drewN nq).cell? ⟨k.bm, 41, none⟩ = _ := c9
              have c8 : (wr.drewN nq).cell? ⟨k.bm, 40, none⟩ = _ := c8
              have lb : k.bm < (wr.drewN nq).heap.size := lb
              generalize wr.drewN nq = wr at *
              go_wp2_with fail
              refine (HS.out _ vl' m' ts' (HM.out) (HOK.out) (HST.out)).mono ?_
              rintro e w4 ⟨vl2, ts2, rfl, M4, C4⟩
              have M4 := Lib.hid M4
              have C4 := Lib.hid C4
              go_wp2_with fail
              go_roundg (muD n (stepD k.code k.inp m'))
              case rel =>
                have HN : RunI k vl w n fb R (muD n (stepD k.code k.inp m')) (.slice (some ⟨fb, o, none⟩) (l.length + 1) c) w4 f vl2 (stepD k.code k.inp m') ts2 (x :: l) := ⟨M4.out, (IC.out).trans C4.out, (stepD_ok HK.out.cb HK.out.ib (HOK.out)).1, HS1.out, IF.out, HR.out, by have := HM1.out; have := HMU.out; omega, rfl⟩
                exact ⟨f, vl2, _, ts2, (x :: l), Lib.hid HN, HL'⟩
              case measure => have := HM1.out; rw [HQ.out]; omega
    · have hR : Hid (m' = R) := by show _ = _; rw [← I.out.R', runD_stop hc]
      have c9 := HM.out.c 9 (by decide)
      have c8 := HM.out.c 8 (by decide)
      simp only [List.getElem?_cons_succ, List.getElem?_cons_zero] at c9 c8
      have lb := HM.out.bmLt.2
      by_cases h0 : m'.state = 0
      · have g0 : (m'.state == 0) = true := beq_iff_eq.2 h0
        have g1 : decide (m'.steps < n) = false := decide_eq_false (fun e => hc ⟨h0, e⟩)
        clear hc h0
        go_wp2_with fail
        go_ret
        exact ⟨vl', ts', by rw [← hR.out]; rfl, by rw [← hR.out]; exact I.out.M, I.out.C⟩
      · have g0 : (m'.state == 0) = false := beq_eq_false_iff_ne.2 h0
        clear hc h0
        go_wp2_with fail
        go_ret
        exact ⟨vl', ts', by rw [← hR.out]; rfl, by rw [← hR.out]; exact I.out.M, I.out.C⟩
end
end Go.Proofs.Ytppmjdljnacpgaa
