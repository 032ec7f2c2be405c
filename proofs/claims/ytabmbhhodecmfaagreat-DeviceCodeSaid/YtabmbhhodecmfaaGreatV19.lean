/-
  The document's loads.
-/
import Derived.Test.YtabmbhhodecmfaaGreatV17
import Derived.Test.YtabmbhhodecmfaaGreatV18
set_option linter.all false
namespace Go.Proofs.YtabmbhhodecmfaaGreat
open Go.ChangeShapes Go.WideShapes Go.ChangeAt Go.RowKit
set_option maxHeartbeats 2000000
set_option linter.unusedVariables false
set_option maxRecDepth 20000

section
variable {k : WK} {w : World} {vr vl : Value} {m : Dv}
theorem rin_c (at' n : Int) (h : Wm k w vr vl m) (hm : Dok m) (h1 : 0 ≤ at') (h2 : at' < 4294967296) (hn : n = 1 ∨ n = 2 ∨ n = 4) :
    Calls Tryz.prog 77 #[.pointer (some ⟨k.br, 0, none⟩), .int .i64 at', .int .i64 n] w fun e w' => e = .returned (.bool (liesP m at' n)) ∧ w = w' := by
  obtain ⟨g, c, eD, -⟩ := h.cD (by have := hm.dl; omega)
  have cD : w.cell? ⟨k.br, 1, none⟩ = some k.vd := h.c 1 (by decide)
  have hl := hm.dl
  have lb := h.brLt.2
  rw [eD] at cD
  have HL : liesP m at' n = (decide (at' % n = 0) && (decide (268435456 ≤ at') && decide (at' + n ≤ 268435456 + (m.data.length : Int)))) := rfl
  clear h hm eD
  generalize liesP m at' n = B at *
  generalize m.data.length = L at *
  generalize k.br = bm at *
  have HLL := Lib.hid HL
  clear HL
  by_cases q1 : at' % n = 0
  · have q1' := Lib.hid q1
    by_cases q2 : 268435456 ≤ at'
    · have g2 : decide (268435456 ≤ at') = true := decide_eq_true q2
      by_cases q3 : at' + n ≤ 268435456 + (L : Int)
      · have g3 : decide (at' + n ≤ 268435456 + (L : Int)) = true := decide_eq_true q3
        have HB : Hid (true = B) := by show _ = _; rw [HLL.out]; simp [q1, q2, q3]
        rcases hn with rfl | rfl | rfl
        · clear q1 HLL
          go_enter Tryz.func77, Tryz.ntmps77
          go_wp2_with fail
          go_ret
          exact ⟨by rw [← HB.out]; rfl, rfl⟩
        all_goals
          have g1 : (at' % _ == 0) = true := beq_iff_eq.2 q1
          clear q1 HLL
          go_enter Tryz.func77, Tryz.ntmps77
          go_wp2_with fail
          go_ret
          exact ⟨by rw [← HB.out]; rfl, rfl⟩
      · have g3 : decide (at' + n ≤ 268435456 + (L : Int)) = false := decide_eq_false q3
        have HB : Hid (false = B) := by show _ = _; rw [HLL.out]; simp [q1, q2, q3]
        rcases hn with rfl | rfl | rfl
        · clear q1 HLL
          go_enter Tryz.func77, Tryz.ntmps77
          go_wp2_with fail
          go_ret
          exact ⟨by rw [← HB.out]; rfl, rfl⟩
        all_goals
          have g1 : (at' % _ == 0) = true := beq_iff_eq.2 q1
          clear q1 HLL
          go_enter Tryz.func77, Tryz.ntmps77
          go_wp2_with fail
          go_ret
          exact ⟨by rw [← HB.out]; rfl, rfl⟩
    · have g2 : decide (268435456 ≤ at') = false := decide_eq_false q2
      have HB : Hid (false = B) := by show _ = _; rw [HLL.out]; simp [q1, q2]
      rcases hn with rfl | rfl | rfl
      · clear q1 HLL
        go_enter Tryz.func77, Tryz.ntmps77
        go_wp2_with fail
        go_ret
        exact ⟨by rw [← HB.out]; rfl, rfl⟩
      all_goals
        have g1 : (at' % _ == 0) = true := beq_iff_eq.2 q1
        clear q1 HLL
        go_enter Tryz.func77, Tryz.ntmps77
        go_wp2_with fail
        go_ret
        exact ⟨by rw [← HB.out]; rfl, rfl⟩
  · have HB : Hid (false = B) := by show _ = _; rw [HLL.out]; simp [q1]
    rcases hn with rfl | rfl | rfl
    · exact absurd (Int.emod_one _) q1
    all_goals
      have g1 : (at' % _ == 0) = false := beq_eq_false_iff_ne.2 q1
      clear q1 HLL
      go_enter Tryz.func77, Tryz.ntmps77
      go_wp2_with fail
      go_ret
      exact ⟨by rw [← HB.out]; rfl, rfl⟩
theorem rload_port (h : Wm k w vr vl m) (hi : k.inp.length ≤ 1000000) (hm : Dok m) :
    Calls Tryz.prog 47 #[.pointer (some ⟨k.br, 0, none⟩), .int .i64 13, .int .i64 536870924] w fun e w' => e = .returned (.tuple #[.int .u32 (if m.index < (k.inp.length : Int) then k.inp.getD m.index.toNat 0 else 0), .bool true]) ∧ Below w.heap.size w w' := by
  generalize hR : (if m.index < (k.inp.length : Int) then k.inp.getD m.index.toNat 0 else 0) = R
  have CS := Lib.hid (fun w => rsize_d 13 w (by decide) (by decide))
  have CS : Hid (∀ w, Calls Tryz.prog 76 #[.int .i64 13] w fun e w' => e = .returned (.int .i64 4) ∧ w = w') := CS
  have cI : w.cell? ⟨k.br, 6, none⟩ = some (.int .u32 m.index) := h.c 6 (by decide)
  have cV : w.cell? ⟨k.br, 2, none⟩ = some k.vi := h.c 2 (by decide)
  have hb := hm.ib
  have lb := h.brLt.2
  have hl := hi
  obtain ⟨n, hn⟩ : ∃ n : Nat, m.index = (n : Int) := ⟨m.index.toNat, by omega⟩
  rw [hn] at cI hR hb
  clear hm hn hi
  by_cases hlt : (n : Int) < (k.inp.length : Int)
  · rw [if_pos hlt, Int.toNat_natCast] at hR
    subst hR
    obtain ⟨b, o, c, e, hc, lg⟩ := src_at h.ii h.below n (by omega)
    rw [e] at cV
    have gl : decide ((n : Int) < (k.inp.length : Int)) = true := decide_eq_true hlt
    have gl' : decide (n < k.inp.length) = true := decide_eq_true (by omega)
    have gn : n < k.inp.length := by omega
    clear h e hlt
    generalize k.br = bm at *
    generalize k.inp.getD n 0 = x at *
    generalize k.inp.length = len at *
    go_enter Tryz.func47, Tryz.ntmps47
    go_wp2_with (go_at_call 76; (with_reducible refine (CS.out _).mono ?_); rintro e w1 ⟨rfl, rfl⟩)
    go_quiet (fail)
    have cI : (w.drewN nq).cell? ⟨bm, 6, none⟩ = _ := cI
    have cV : (w.drewN nq).cell? ⟨bm, 2, none⟩ = _ := cV
    have hc : (w.drewN nq).cell? ⟨b, o + n, none⟩ = _ := hc
    have hB := Lib.hid (below_drewN3 w nq)
    generalize w.drewN nq = W1 at *
    go_wp2_with fail
    go_quiet (fail)
    go_wp2_with fail
    go_ret2
    exact ⟨rfl, hB.out.trans ((below_drewN3 W1 nq).mono hB.out.size)⟩
  · rw [if_neg hlt] at hR
    subst hR
    obtain ⟨vs, cap, e⟩ := h.ii.form
    rw [e] at cV
    have gl : decide ((n : Int) < (k.inp.length : Int)) = false := decide_eq_false hlt
    have gl' : decide (n < k.inp.length) = false := decide_eq_false (by omega)
    clear h e hlt
    generalize k.br = bm at *
    generalize k.inp.length = len at *
    go_enter Tryz.func47, Tryz.ntmps47
    go_wp2_with (go_at_call 76; (with_reducible refine (CS.out _).mono ?_); rintro e w1 ⟨rfl, rfl⟩)
    go_quiet (fail)
    go_wp2_with fail
    go_ret2
    exact ⟨rfl, below_drewN3 w nq⟩
theorem rload_no (op at' : Int) (h : Wm k w vr vl m) (hm : Dok m) (h1 : 0 ≤ at') (h2 : at' < 4294967296) (ho : 11 ≤ op) (ho' : op ≤ 15) (hne : ¬(op = 13 ∧ at' = 536870924)) (hl : liesP m at' (sizeP op) = false) :
    Calls Tryz.prog 47 #[.pointer (some ⟨k.br, 0, none⟩), .int .i64 op, .int .i64 at'] w fun e w' => e = .returned (.tuple #[.int .u32 0, .bool false]) ∧ w = w' := by
  have CS := Lib.hid (fun w => rsize_d op w ho (by omega))
  have CP := rin_c at' (sizeP op) h hm h1 h2 (sizeP_or op)
  rw [hl] at CP
  have CP := Lib.hid CP
  clear h hl
  generalize k.br = bm at *
  have hc : op = 11 ∨ op = 12 ∨ op = 13 ∨ op = 14 ∨ op = 15 := by omega
  clear ho ho'
  rcases hc with rfl | rfl | rfl | rfl | rfl
  case inr.inr.inl =>
    have gq : (at' == 536870924) = false := beq_eq_false_iff_ne.2 fun e => hne ⟨rfl, e⟩
    clear hne
    go_enter Tryz.func47, Tryz.ntmps47
    go_wp2_with (first | (go_at_call 76; (with_reducible refine (CS.out _).mono ?_); rintro e w1 ⟨rfl, rfl⟩) | (go_at_call 77; (with_reducible refine CP.out.mono ?_); rintro e w1 ⟨rfl, rfl⟩))
    go_ret2
    exact ⟨rfl, rfl⟩
  all_goals
    clear hne
    go_enter Tryz.func47, Tryz.ntmps47
    go_wp2_with (first | (go_at_call 76; (with_reducible refine (CS.out _).mono ?_); rintro e w1 ⟨rfl, rfl⟩) | (go_at_call 77; (with_reducible refine CP.out.mono ?_); rintro e w1 ⟨rfl, rfl⟩))
    go_ret2
    exact ⟨rfl, rfl⟩
theorem sx8 (b : Int) (h : 0 ≤ b) (h' : b < 256) : signX b 8 = (if 128 ≤ b then b - 256 else b) % 4294967296 := by
  unfold signX
  rw [if_neg (by decide)]
  have e : b % 2 ^ (8 : Int).toNat = b := Int.emod_eq_of_lt h h'
  rw [e]
  have e2 : (2 : Int) ^ ((8 : Int).toNat - 1) = 128 := by decide
  have e3 : (2 : Int) ^ ((8 : Int).toNat) = 256 := by decide
  rw [e2, e3]
  split <;> split <;> first | rfl | omega
theorem sx16 (b : Int) (h : 0 ≤ b) (h' : b < 65536) : signX b 16 = (if 32768 ≤ b then b - 65536 else b) % 4294967296 := by
  unfold signX
  rw [if_neg (by decide)]
  have e : b % 2 ^ (16 : Int).toNat = b := Int.emod_eq_of_lt h h'
  rw [e]
  have e2 : (2 : Int) ^ ((16 : Int).toNat - 1) = 32768 := by decide
  have e3 : (2 : Int) ^ ((16 : Int).toNat) = 65536 := by decide
  rw [e2, e3]
  split <;> split <;> first | rfl | omega
theorem rload_11 (at' : Int) (h : Wm k w vr vl m) (hm : Dok m) (h1 : 0 ≤ at') (h2 : at' < 4294967296) (hne : ¬(11 = (13 : Int) ∧ at' = 536870924)) (hl : liesP m at' (sizeP 11) = true) :
    Calls Tryz.prog 47 #[.pointer (some ⟨k.br, 0, none⟩), .int .i64 11, .int .i64 at'] w fun e w' => e = .returned (.tuple #[.int .u32 (signX (bytesP m.data (at' - 268435456).toNat 1) 8), .bool true]) ∧ w = w' := by
  clear hne
  have CS := rsize_d 11 w (by decide) (by decide)
  have CS : Hid (Calls Tryz.prog 76 #[.int .i64 11] w fun e w' => e = .returned (.int .i64 1) ∧ w = w') := CS
  have CP := rin_c at' 1 h hm h1 h2 (by decide)
  have hl : liesP m at' 1 = true := hl
  rw [hl] at CP
  have CP := Lib.hid CP
  obtain ⟨-, q1, q2⟩ := liesP_ends _ _ _ hl
  obtain ⟨N, hN⟩ : ∃ N : Nat, at' - 268435456 = (N : Int) := ⟨(at' - 268435456).toNat, by omega⟩
  rw [show (at' - 268435456).toNat = N by omega]
  obtain ⟨g, c, eD, hcap⟩ := h.cD (by have := hm.dl; omega)
  have cD : w.cell? ⟨k.br, 1, none⟩ = some k.vd := h.c 1 (by decide)
  rw [eD] at cD
  have hdl := hm.dl
  have lb := h.brLt.2
  have q3 : N + 1 ≤ m.data.length := by omega
  have q4 : N < m.data.length := by omega
  have hc0 := (h.cDat eD N q4).1
  have lg := (h.cDat eD N q4).2.2
  have hb0 := hm.db N
  rw [show bytesP m.data N 1 = m.data.getD N 0 by simp [bytesP]]
  clear q4
  generalize m.data.getD N 0 = b0 at *
  clear h hm hl eD
  generalize k.br = bm at *
  generalize m.data.length = L at *
  obtain ⟨hb0l, hb0u⟩ := hb0
  generalize hSX : signX (b0) 8 = SX
  have hv : b0 = b0 := by omega
  rw [sx8 _ (by omega) (by omega), hv] at hSX
  have HSX := Lib.hid hSX.symm
  clear hSX hv
  go_enter Tryz.func47, Tryz.ntmps47
  go_wp2_with (first | (go_at_call 76; (with_reducible refine CS.out.mono ?_); rintro e w1 ⟨rfl, rfl⟩) | (go_at_call 77; (with_reducible refine CP.out.mono ?_); rintro e w1 ⟨rfl, rfl⟩))
  go_loop [9, 10] (fun v i => (i = .int .i64 (0) ∧ v = .int .i64 (0)) ∨ (i = .int .i64 (-1) ∧ v = .int .i64 (b0))) (fun _ i => (intOf i + 1).toNat)
  case atStart => exact .inl ⟨rfl, rfl⟩
  case round =>
    rcases hrel with ⟨rfl, rfl⟩ | ⟨rfl, rfl⟩
    · go_wp2_with fail
      exact ⟨.inr (⟨rfl, congrArg (Value.int .i64) (by omega)⟩), by decide⟩
    · by_cases hs : 128 ≤ b0
      · have gs : decide (128 ≤ b0) = true := decide_eq_true hs
        have HP : SX = (b0 - 256) % 4294967296 := by rw [HSX.out, if_pos hs]
        have HP := Lib.hid HP
        have CC := Lib.hid (rcut_c (b0 - 256) w (by omega) (by omega))
        go_wp2_with (go_at_call 45; (with_reducible refine CC.out.mono ?_); rintro e w1 ⟨rfl, rfl⟩)
        go_ret2
        refine ⟨?_, rfl⟩
        have e : SX = (b0 - 256) % 4294967296 := by exact HP.out
        show Ending.returned (.tuple #[.int .u32 ((b0 - 256) % 4294967296), .bool true]) = _
        rw [← e]
      · have gs : decide (128 ≤ b0) = false := decide_eq_false hs
        have HP : SX = (b0) % 4294967296 := by rw [HSX.out, if_neg hs]
        have HP := Lib.hid HP
        have CC := Lib.hid (rcut_c (b0) w (by omega) (by omega))
        go_wp2_with (go_at_call 45; (with_reducible refine CC.out.mono ?_); rintro e w1 ⟨rfl, rfl⟩)
        go_ret2
        refine ⟨?_, rfl⟩
        have e : SX = (b0) % 4294967296 := by exact HP.out
        show Ending.returned (.tuple #[.int .u32 ((b0) % 4294967296), .bool true]) = _
        rw [← e]
theorem rload_12 (at' : Int) (h : Wm k w vr vl m) (hm : Dok m) (h1 : 0 ≤ at') (h2 : at' < 4294967296) (hne : ¬(12 = (13 : Int) ∧ at' = 536870924)) (hl : liesP m at' (sizeP 12) = true) :
    Calls Tryz.prog 47 #[.pointer (some ⟨k.br, 0, none⟩), .int .i64 12, .int .i64 at'] w fun e w' => e = .returned (.tuple #[.int .u32 (signX (bytesP m.data (at' - 268435456).toNat 2) 16), .bool true]) ∧ w = w' := by
  clear hne
  have CS := rsize_d 12 w (by decide) (by decide)
  have CS : Hid (Calls Tryz.prog 76 #[.int .i64 12] w fun e w' => e = .returned (.int .i64 2) ∧ w = w') := CS
  have CP := rin_c at' 2 h hm h1 h2 (by decide)
  have hl : liesP m at' 2 = true := hl
  rw [hl] at CP
  have CP := Lib.hid CP
  obtain ⟨-, q1, q2⟩ := liesP_ends _ _ _ hl
  obtain ⟨N, hN⟩ : ∃ N : Nat, at' - 268435456 = (N : Int) := ⟨(at' - 268435456).toNat, by omega⟩
  rw [show (at' - 268435456).toNat = N by omega]
  obtain ⟨g, c, eD, hcap⟩ := h.cD (by have := hm.dl; omega)
  have cD : w.cell? ⟨k.br, 1, none⟩ = some k.vd := h.c 1 (by decide)
  rw [eD] at cD
  have hdl := hm.dl
  have lb := h.brLt.2
  have q3 : N + 2 ≤ m.data.length := by omega
  have q4 : N < m.data.length := by omega
  have hc0 := (h.cDat eD N q4).1
  have lg := (h.cDat eD N q4).2.2
  have hb0 := hm.db N
  have q41 : N + 1 < m.data.length := by omega
  have hc1 := (h.cDat eD (N + 1) q41).1
  have hb1 := hm.db (N + 1)
  rw [show bytesP m.data N 2 = m.data.getD N 0 + m.data.getD (N + 1) 0 * 256 by simp [bytesP]]
  generalize m.data.getD (N + 1) 0 = b1 at *
  clear q4
  generalize m.data.getD N 0 = b0 at *
  clear h hm hl eD
  generalize k.br = bm at *
  generalize m.data.length = L at *
  obtain ⟨hb0l, hb0u⟩ := hb0
  obtain ⟨hb1l, hb1u⟩ := hb1
  generalize hSX : signX (b0 + b1 * 256) 16 = SX
  have hv : b0 + b1 * 256 = 256 * (b1) + b0 := by omega
  rw [sx16 _ (by omega) (by omega), hv] at hSX
  have HSX := Lib.hid hSX.symm
  clear hSX hv
  go_enter Tryz.func47, Tryz.ntmps47
  go_wp2_with (first | (go_at_call 76; (with_reducible refine CS.out.mono ?_); rintro e w1 ⟨rfl, rfl⟩) | (go_at_call 77; (with_reducible refine CP.out.mono ?_); rintro e w1 ⟨rfl, rfl⟩))
  go_loop [9, 10] (fun v i => (i = .int .i64 (1) ∧ v = .int .i64 (0)) ∨ (i = .int .i64 (0) ∧ v = .int .i64 (b1)) ∨ (i = .int .i64 (-1) ∧ v = .int .i64 (256 * (b1) + b0))) (fun _ i => (intOf i + 1).toNat)
  case atStart => exact .inl ⟨rfl, rfl⟩
  case round =>
    rcases hrel with ⟨rfl, rfl⟩ | ⟨rfl, rfl⟩ | ⟨rfl, rfl⟩
    · go_wp2_with fail
      exact ⟨.inr (.inl ⟨rfl, congrArg (Value.int .i64) (by omega)⟩), by decide⟩
    · go_wp2_with fail
      exact ⟨.inr (.inr (⟨rfl, congrArg (Value.int .i64) (by omega)⟩)), by decide⟩
    · by_cases hs : 32768 ≤ 256 * (b1) + b0
      · have gs : decide (32768 ≤ 256 * (b1) + b0) = true := decide_eq_true hs
        have HP : SX = (256 * (b1) + b0 - 65536) % 4294967296 := by rw [HSX.out, if_pos hs]
        have HP := Lib.hid HP
        have CC := Lib.hid (rcut_c (256 * (b1) + b0 - 65536) w (by omega) (by omega))
        go_wp2_with (go_at_call 45; (with_reducible refine CC.out.mono ?_); rintro e w1 ⟨rfl, rfl⟩)
        go_ret2
        refine ⟨?_, rfl⟩
        have e : SX = (256 * (b1) + b0 - 65536) % 4294967296 := by exact HP.out
        show Ending.returned (.tuple #[.int .u32 ((256 * (b1) + b0 - 65536) % 4294967296), .bool true]) = _
        rw [← e]
      · have gs : decide (32768 ≤ 256 * (b1) + b0) = false := decide_eq_false hs
        have HP : SX = (256 * (b1) + b0) % 4294967296 := by rw [HSX.out, if_neg hs]
        have HP := Lib.hid HP
        have CC := Lib.hid (rcut_c (256 * (b1) + b0) w (by omega) (by omega))
        go_wp2_with (go_at_call 45; (with_reducible refine CC.out.mono ?_); rintro e w1 ⟨rfl, rfl⟩)
        go_ret2
        refine ⟨?_, rfl⟩
        have e : SX = (256 * (b1) + b0) % 4294967296 := by exact HP.out
        show Ending.returned (.tuple #[.int .u32 ((256 * (b1) + b0) % 4294967296), .bool true]) = _
        rw [← e]
theorem rload_13 (at' : Int) (h : Wm k w vr vl m) (hm : Dok m) (h1 : 0 ≤ at') (h2 : at' < 4294967296) (hne : ¬(13 = (13 : Int) ∧ at' = 536870924)) (hl : liesP m at' (sizeP 13) = true) :
    Calls Tryz.prog 47 #[.pointer (some ⟨k.br, 0, none⟩), .int .i64 13, .int .i64 at'] w fun e w' => e = .returned (.tuple #[.int .u32 (bytesP m.data (at' - 268435456).toNat 4), .bool true]) ∧ w = w' := by
  have gq : (at' == 536870924) = false := beq_eq_false_iff_ne.2 fun e => hne ⟨rfl, e⟩
  clear hne
  have CS := rsize_d 13 w (by decide) (by decide)
  have CS : Hid (Calls Tryz.prog 76 #[.int .i64 13] w fun e w' => e = .returned (.int .i64 4) ∧ w = w') := CS
  have CP := rin_c at' 4 h hm h1 h2 (by decide)
  have hl : liesP m at' 4 = true := hl
  rw [hl] at CP
  have CP := Lib.hid CP
  obtain ⟨-, q1, q2⟩ := liesP_ends _ _ _ hl
  obtain ⟨N, hN⟩ : ∃ N : Nat, at' - 268435456 = (N : Int) := ⟨(at' - 268435456).toNat, by omega⟩
  rw [show (at' - 268435456).toNat = N by omega]
  obtain ⟨g, c, eD, hcap⟩ := h.cD (by have := hm.dl; omega)
  have cD : w.cell? ⟨k.br, 1, none⟩ = some k.vd := h.c 1 (by decide)
  rw [eD] at cD
  have hdl := hm.dl
  have lb := h.brLt.2
  have q3 : N + 4 ≤ m.data.length := by omega
  have q4 : N < m.data.length := by omega
  have hc0 := (h.cDat eD N q4).1
  have lg := (h.cDat eD N q4).2.2
  have hb0 := hm.db N
  have q41 : N + 1 < m.data.length := by omega
  have hc1 := (h.cDat eD (N + 1) q41).1
  have hb1 := hm.db (N + 1)
  have q42 : N + 2 < m.data.length := by omega
  have hc2 := (h.cDat eD (N + 2) q42).1
  have hb2 := hm.db (N + 2)
  have q43 : N + 3 < m.data.length := by omega
  have hc3 := (h.cDat eD (N + 3) q43).1
  have hb3 := hm.db (N + 3)
  rw [show bytesP m.data N 4 = m.data.getD N 0 + m.data.getD (N + 1) 0 * 256 + m.data.getD (N + 2) 0 * 65536 + m.data.getD (N + 3) 0 * 16777216 by simp [bytesP]]
  generalize m.data.getD (N + 3) 0 = b3 at *
  generalize m.data.getD (N + 2) 0 = b2 at *
  generalize m.data.getD (N + 1) 0 = b1 at *
  clear q4
  generalize m.data.getD N 0 = b0 at *
  clear h hm hl eD
  generalize k.br = bm at *
  generalize m.data.length = L at *
  obtain ⟨hb0l, hb0u⟩ := hb0
  obtain ⟨hb1l, hb1u⟩ := hb1
  obtain ⟨hb2l, hb2u⟩ := hb2
  obtain ⟨hb3l, hb3u⟩ := hb3
  go_enter Tryz.func47, Tryz.ntmps47
  go_wp2_with (first | (go_at_call 76; (with_reducible refine CS.out.mono ?_); rintro e w1 ⟨rfl, rfl⟩) | (go_at_call 77; (with_reducible refine CP.out.mono ?_); rintro e w1 ⟨rfl, rfl⟩))
  go_loop [9, 10] (fun v i => (i = .int .i64 (3) ∧ v = .int .i64 (0)) ∨ (i = .int .i64 (2) ∧ v = .int .i64 (b3)) ∨ (i = .int .i64 (1) ∧ v = .int .i64 (256 * (b3) + b2)) ∨ (i = .int .i64 (0) ∧ v = .int .i64 (256 * (256 * (b3) + b2) + b1)) ∨ (i = .int .i64 (-1) ∧ v = .int .i64 (256 * (256 * (256 * (b3) + b2) + b1) + b0))) (fun _ i => (intOf i + 1).toNat)
  case atStart => exact .inl ⟨rfl, rfl⟩
  case round =>
    rcases hrel with ⟨rfl, rfl⟩ | ⟨rfl, rfl⟩ | ⟨rfl, rfl⟩ | ⟨rfl, rfl⟩ | ⟨rfl, rfl⟩
    · go_wp2_with fail
      exact ⟨.inr (.inl ⟨rfl, congrArg (Value.int .i64) (by omega)⟩), by decide⟩
    · go_wp2_with fail
      exact ⟨.inr (.inr (.inl ⟨rfl, congrArg (Value.int .i64) (by omega)⟩)), by decide⟩
    · go_wp2_with fail
      exact ⟨.inr (.inr (.inr (.inl ⟨rfl, congrArg (Value.int .i64) (by omega)⟩))), by decide⟩
    · go_wp2_with fail
      exact ⟨.inr (.inr (.inr (.inr (⟨rfl, congrArg (Value.int .i64) (by omega)⟩)))), by decide⟩
    · have CC := Lib.hid (rcut_c (256 * (256 * (256 * (b3) + b2) + b1) + b0) w (by omega) (by omega))
      go_wp2_with (go_at_call 45; (with_reducible refine CC.out.mono ?_); rintro e w1 ⟨rfl, rfl⟩)
      go_ret2
      refine ⟨?_, rfl⟩
      have e : (b0 + b1 * 256 + b2 * 65536 + b3 * 16777216) = (256 * (256 * (256 * (b3) + b2) + b1) + b0) % 4294967296 := by omega
      show Ending.returned (.tuple #[.int .u32 ((256 * (256 * (256 * (b3) + b2) + b1) + b0) % 4294967296), .bool true]) = _
      rw [← e]
theorem rload_14 (at' : Int) (h : Wm k w vr vl m) (hm : Dok m) (h1 : 0 ≤ at') (h2 : at' < 4294967296) (hne : ¬(14 = (13 : Int) ∧ at' = 536870924)) (hl : liesP m at' (sizeP 14) = true) :
    Calls Tryz.prog 47 #[.pointer (some ⟨k.br, 0, none⟩), .int .i64 14, .int .i64 at'] w fun e w' => e = .returned (.tuple #[.int .u32 (bytesP m.data (at' - 268435456).toNat 1), .bool true]) ∧ w = w' := by
  clear hne
  have CS := rsize_d 14 w (by decide) (by decide)
  have CS : Hid (Calls Tryz.prog 76 #[.int .i64 14] w fun e w' => e = .returned (.int .i64 1) ∧ w = w') := CS
  have CP := rin_c at' 1 h hm h1 h2 (by decide)
  have hl : liesP m at' 1 = true := hl
  rw [hl] at CP
  have CP := Lib.hid CP
  obtain ⟨-, q1, q2⟩ := liesP_ends _ _ _ hl
  obtain ⟨N, hN⟩ : ∃ N : Nat, at' - 268435456 = (N : Int) := ⟨(at' - 268435456).toNat, by omega⟩
  rw [show (at' - 268435456).toNat = N by omega]
  obtain ⟨g, c, eD, hcap⟩ := h.cD (by have := hm.dl; omega)
  have cD : w.cell? ⟨k.br, 1, none⟩ = some k.vd := h.c 1 (by decide)
  rw [eD] at cD
  have hdl := hm.dl
  have lb := h.brLt.2
  have q3 : N + 1 ≤ m.data.length := by omega
  have q4 : N < m.data.length := by omega
  have hc0 := (h.cDat eD N q4).1
  have lg := (h.cDat eD N q4).2.2
  have hb0 := hm.db N
  rw [show bytesP m.data N 1 = m.data.getD N 0 by simp [bytesP]]
  clear q4
  generalize m.data.getD N 0 = b0 at *
  clear h hm hl eD
  generalize k.br = bm at *
  generalize m.data.length = L at *
  obtain ⟨hb0l, hb0u⟩ := hb0
  go_enter Tryz.func47, Tryz.ntmps47
  go_wp2_with (first | (go_at_call 76; (with_reducible refine CS.out.mono ?_); rintro e w1 ⟨rfl, rfl⟩) | (go_at_call 77; (with_reducible refine CP.out.mono ?_); rintro e w1 ⟨rfl, rfl⟩))
  go_loop [9, 10] (fun v i => (i = .int .i64 (0) ∧ v = .int .i64 (0)) ∨ (i = .int .i64 (-1) ∧ v = .int .i64 (b0))) (fun _ i => (intOf i + 1).toNat)
  case atStart => exact .inl ⟨rfl, rfl⟩
  case round =>
    rcases hrel with ⟨rfl, rfl⟩ | ⟨rfl, rfl⟩
    · go_wp2_with fail
      exact ⟨.inr (⟨rfl, congrArg (Value.int .i64) (by omega)⟩), by decide⟩
    · have CC := Lib.hid (rcut_c (b0) w (by omega) (by omega))
      go_wp2_with (go_at_call 45; (with_reducible refine CC.out.mono ?_); rintro e w1 ⟨rfl, rfl⟩)
      go_ret2
      refine ⟨?_, rfl⟩
      have e : (b0) = (b0) % 4294967296 := by omega
      show Ending.returned (.tuple #[.int .u32 ((b0) % 4294967296), .bool true]) = _
      rw [← e]
theorem rload_15 (at' : Int) (h : Wm k w vr vl m) (hm : Dok m) (h1 : 0 ≤ at') (h2 : at' < 4294967296) (hne : ¬(15 = (13 : Int) ∧ at' = 536870924)) (hl : liesP m at' (sizeP 15) = true) :
    Calls Tryz.prog 47 #[.pointer (some ⟨k.br, 0, none⟩), .int .i64 15, .int .i64 at'] w fun e w' => e = .returned (.tuple #[.int .u32 (bytesP m.data (at' - 268435456).toNat 2), .bool true]) ∧ w = w' := by
  clear hne
  have CS := rsize_d 15 w (by decide) (by decide)
  have CS : Hid (Calls Tryz.prog 76 #[.int .i64 15] w fun e w' => e = .returned (.int .i64 2) ∧ w = w') := CS
  have CP := rin_c at' 2 h hm h1 h2 (by decide)
  have hl : liesP m at' 2 = true := hl
  rw [hl] at CP
  have CP := Lib.hid CP
  obtain ⟨-, q1, q2⟩ := liesP_ends _ _ _ hl
  obtain ⟨N, hN⟩ : ∃ N : Nat, at' - 268435456 = (N : Int) := ⟨(at' - 268435456).toNat, by omega⟩
  rw [show (at' - 268435456).toNat = N by omega]
  obtain ⟨g, c, eD, hcap⟩ := h.cD (by have := hm.dl; omega)
  have cD : w.cell? ⟨k.br, 1, none⟩ = some k.vd := h.c 1 (by decide)
  rw [eD] at cD
  have hdl := hm.dl
  have lb := h.brLt.2
  have q3 : N + 2 ≤ m.data.length := by omega
  have q4 : N < m.data.length := by omega
  have hc0 := (h.cDat eD N q4).1
  have lg := (h.cDat eD N q4).2.2
  have hb0 := hm.db N
  have q41 : N + 1 < m.data.length := by omega
  have hc1 := (h.cDat eD (N + 1) q41).1
  have hb1 := hm.db (N + 1)
  rw [show bytesP m.data N 2 = m.data.getD N 0 + m.data.getD (N + 1) 0 * 256 by simp [bytesP]]
  generalize m.data.getD (N + 1) 0 = b1 at *
  clear q4
  generalize m.data.getD N 0 = b0 at *
  clear h hm hl eD
  generalize k.br = bm at *
  generalize m.data.length = L at *
  obtain ⟨hb0l, hb0u⟩ := hb0
  obtain ⟨hb1l, hb1u⟩ := hb1
  go_enter Tryz.func47, Tryz.ntmps47
  go_wp2_with (first | (go_at_call 76; (with_reducible refine CS.out.mono ?_); rintro e w1 ⟨rfl, rfl⟩) | (go_at_call 77; (with_reducible refine CP.out.mono ?_); rintro e w1 ⟨rfl, rfl⟩))
  go_loop [9, 10] (fun v i => (i = .int .i64 (1) ∧ v = .int .i64 (0)) ∨ (i = .int .i64 (0) ∧ v = .int .i64 (b1)) ∨ (i = .int .i64 (-1) ∧ v = .int .i64 (256 * (b1) + b0))) (fun _ i => (intOf i + 1).toNat)
  case atStart => exact .inl ⟨rfl, rfl⟩
  case round =>
    rcases hrel with ⟨rfl, rfl⟩ | ⟨rfl, rfl⟩ | ⟨rfl, rfl⟩
    · go_wp2_with fail
      exact ⟨.inr (.inl ⟨rfl, congrArg (Value.int .i64) (by omega)⟩), by decide⟩
    · go_wp2_with fail
      exact ⟨.inr (.inr (⟨rfl, congrArg (Value.int .i64) (by omega)⟩)), by decide⟩
    · have CC := Lib.hid (rcut_c (256 * (b1) + b0) w (by omega) (by omega))
      go_wp2_with (go_at_call 45; (with_reducible refine CC.out.mono ?_); rintro e w1 ⟨rfl, rfl⟩)
      go_ret2
      refine ⟨?_, rfl⟩
      have e : (b0 + b1 * 256) = (256 * (b1) + b0) % 4294967296 := by omega
      show Ending.returned (.tuple #[.int .u32 ((256 * (b1) + b0) % 4294967296), .bool true]) = _
      rw [← e]
theorem rload_c (op at' : Int) (h : Wm k w vr vl m) (hi : k.inp.length ≤ 1000000) (hm : Dok m) (h1 : 0 ≤ at') (h2 : at' < 4294967296) (ho : 11 ≤ op) (ho' : op ≤ 15) :
    Calls Tryz.prog 47 #[.pointer (some ⟨k.br, 0, none⟩), .int .i64 op, .int .i64 at'] w fun e w' => e = .returned (ldv (loadD k.inp m op at')) ∧ Below w.heap.size w w' := by
  unfold loadD
  by_cases hp : op = 13 ∧ at' = 536870924
  · rw [if_pos hp]
    obtain ⟨rfl, rfl⟩ := hp
    exact rload_port h hi hm
  · rw [if_neg hp]
    cases hl : liesP m at' (sizeP op)
    · refine (rload_no op at' h hm h1 h2 ho ho' hp hl).mono ?_
      rintro e w' ⟨rfl, rfl⟩
      exact ⟨rfl, Below.refl _ _⟩
    · have hc : op = 11 ∨ op = 12 ∨ op = 13 ∨ op = 14 ∨ op = 15 := by omega
      rcases hc with rfl | rfl | rfl | rfl | rfl
      · exact (rload_11 at' h hm h1 h2 hp hl).mono (by rintro e w' ⟨rfl, rfl⟩; exact ⟨rfl, Below.refl _ _⟩)
      · exact (rload_12 at' h hm h1 h2 hp hl).mono (by rintro e w' ⟨rfl, rfl⟩; exact ⟨rfl, Below.refl _ _⟩)
      · exact (rload_13 at' h hm h1 h2 hp hl).mono (by rintro e w' ⟨rfl, rfl⟩; exact ⟨rfl, Below.refl _ _⟩)
      · exact (rload_14 at' h hm h1 h2 hp hl).mono (by rintro e w' ⟨rfl, rfl⟩; exact ⟨rfl, Below.refl _ _⟩)
      · exact (rload_15 at' h hm h1 h2 hp hl).mono (by rintro e w' ⟨rfl, rfl⟩; exact ⟨rfl, Below.refl _ _⟩)
end
end Go.Proofs.YtabmbhhodecmfaaGreat
