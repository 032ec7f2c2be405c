/-
  A load of the device.
-/
import Derived.Test.YtppmjdljnacpgaaV4
set_option linter.all false
namespace Go.Proofs.Ytppmjdljnacpgaa
open Go.ChangeShapes Go.WideShapes Go.ChangeAt Go.RowKit
set_option maxHeartbeats 2000000
set_option linter.unusedVariables false
set_option maxRecDepth 20000

def ldv : Option Int → Value
  | none => .tuple #[.int .u32 0, .bool false]
  | some v => .tuple #[.int .u32 v, .bool true]
theorem sizeP_or (op : Int) : sizeP op = 1 ∨ sizeP op = 2 ∨ sizeP op = 4 := by
  unfold sizeP
  by_cases h : op = 11 ∨ op = 14 ∨ op = 16
  · rw [if_pos h]; exact .inl rfl
  · rw [if_neg h]
    by_cases h : op = 12 ∨ op = 15 ∨ op = 17
    · rw [if_pos h]; exact .inr (.inl rfl)
    · rw [if_neg h]; exact .inr (.inr rfl)
theorem below_drewN3 (w : World) (n : Nat) : Below w.heap.size w (w.drewN n) := ⟨rfl, rfl, rfl, Nat.le_refl _, fun _ _ => rfl⟩
section
variable {k : VK} {w : World} {vl : Value} {m : Dv} {ts : List Mt}
theorem vload_port (h : Vm k w vl m ts) (hk : k.ok) (hm : Dok m) :
    Calls Try.prog 57 #[.pointer (some ⟨k.bm, 0, none⟩), .int .i64 13, .int .u32 536870924] w fun e w' => e = .returned (.tuple #[.int .u32 (if m.index < (k.inp.length : Int) then k.inp.getD m.index.toNat 0 else 0), .bool true]) ∧ Below w.heap.size w w' := by
  generalize hR : (if m.index < (k.inp.length : Int) then k.inp.getD m.index.toNat 0 else 0) = R
  have cI := h.c 2 (by decide)
  have cV := h.c 6 (by decide)
  simp only [List.getElem?_cons_succ, List.getElem?_cons_zero] at cI cV
  have hi := h.ii
  have hl := hk.il
  have hb := hm.ib
  have lb := h.bmLt.2
  obtain ⟨n, hn⟩ : ∃ n : Nat, m.index = (n : Int) := ⟨m.index.toNat, by omega⟩
  rw [hn] at cI hR hb
  clear h hk hm hn
  generalize k.bm = bm at *
  by_cases hlt : (n : Int) < (k.inp.length : Int)
  · rw [if_pos hlt, Int.toNat_natCast] at hR
    subst hR
    obtain ⟨-, ⟨-, h0⟩ | ⟨g, cap, cur, e, -, hgg, hn, hc, -⟩⟩ := id hi
    · omega
    have H := hi
    rw [e] at cV H
    have hc := H.cellAt n (by simpa using (by omega : n < k.inp.length))
    have hc : w.cell? ⟨g, n, none⟩ = some (.int .u32 (k.inp.getD n 0)) := by
      rw [hc]; simp [List.getD, show n < k.inp.length by omega]
    have lg := (own_lt H rfl).2
    have gl : decide ((n : Int) < (k.inp.length : Int)) = true := decide_eq_true hlt
    have gl' : decide (n < k.inp.length) = true := decide_eq_true (by omega)
    have gn : n < k.inp.length := by omega
    clear hi H hgg e hlt
    generalize k.inp.getD n 0 = x at *
    generalize k.inp.length = len at *
    go_enter Try.func57, Try.ntmps57
    go_wp2_with fail
    go_quiet (fail)
    have cI : (w.drewN nq).cell? ⟨bm, 34, none⟩ = _ := cI
    have cV : (w.drewN nq).cell? ⟨bm, 38, none⟩ = _ := cV
    have hc : (w.drewN nq).cell? ⟨g, n, none⟩ = _ := hc
    have hB := Lib.hid (below_drewN3 w nq)
    generalize w.drewN nq = W1 at *
    go_wp2_with fail
    go_quiet (fail)
    go_wp2_with fail
    go_ret2
    exact ⟨rfl, hB.out.trans ((below_drewN3 W1 nq).mono hB.out.size)⟩
  · rw [if_neg hlt] at hR
    subst hR
    obtain ⟨vs, cap, e⟩ : ∃ vs cap, k.vi = .slice vs k.inp.length cap := by
      obtain ⟨-, ⟨e, h0⟩ | ⟨g, cap, cur, e, -⟩⟩ := hi
      · exact ⟨none, 0, by rw [h0]; exact e⟩
      · exact ⟨_, _, e⟩
    rw [e] at cV
    have gl : decide ((n : Int) < (k.inp.length : Int)) = false := decide_eq_false hlt
    have gl' : decide (n < k.inp.length) = false := decide_eq_false (by omega)
    clear hi e hlt
    generalize k.inp.length = len at *
    go_enter Try.func57, Try.ntmps57
    go_wp2_with fail
    go_quiet (fail)
    go_wp2_with fail
    go_ret2
    exact ⟨rfl, below_drewN3 w nq⟩
theorem vload_no (op at' : Int) (h : Vm k w vl m ts) (hm : Dok m) (h1 : 0 ≤ at') (h2 : at' < 4294967296) (ho : 11 ≤ op) (ho' : op ≤ 15) (hne : ¬(op = 13 ∧ at' = 536870924)) (hl : liesP m at' (sizeP op) = false) :
    Calls Try.prog 57 #[.pointer (some ⟨k.bm, 0, none⟩), .int .i64 op, .int .u32 at'] w fun e w' => e = .returned (.tuple #[.int .u32 0, .bool false]) ∧ w = w' := by
  have CS := Lib.hid (fun w => dsize_c op w ho (by omega))
  have CP := vplace_c at' (sizeP op) h hm h1 h2 (sizeP_or op)
  rw [hl] at CP
  simp only [Bool.false_eq_true, if_false] at CP
  have CP := Lib.hid CP
  clear h hl
  generalize k.bm = bm at *
  have hc : op = 11 ∨ op = 12 ∨ op = 13 ∨ op = 14 ∨ op = 15 := by omega
  clear ho ho'
  rcases hc with rfl | rfl | rfl | rfl | rfl
  case inr.inr.inl =>
    have gq : (at' == 536870924) = false := beq_eq_false_iff_ne.2 fun e => hne ⟨rfl, e⟩
    clear hne
    go_enter Try.func57, Try.ntmps57
    go_wp2_with (first | (go_at_call 62; (with_reducible refine (CS.out _).mono ?_); rintro e w1 ⟨rfl, rfl⟩) | (go_at_call 63; (with_reducible refine CP.out.mono ?_); rintro e w1 ⟨rfl, rfl⟩))
    go_ret2
    exact ⟨rfl, rfl⟩
  all_goals
    clear hne
    go_enter Try.func57, Try.ntmps57
    go_wp2_with (first | (go_at_call 62; (with_reducible refine (CS.out _).mono ?_); rintro e w1 ⟨rfl, rfl⟩) | (go_at_call 63; (with_reducible refine CP.out.mono ?_); rintro e w1 ⟨rfl, rfl⟩))
    go_ret2
    exact ⟨rfl, rfl⟩
theorem vload_yes (op at' : Int) (h : Vm k w vl m ts) (hm : Dok m) (h1 : 0 ≤ at') (h2 : at' < 4294967296) (ho : 11 ≤ op) (ho' : op ≤ 15) (hne : ¬(op = 13 ∧ at' = 536870924)) (hl : liesP m at' (sizeP op) = true) :
    Calls Try.prog 57 #[.pointer (some ⟨k.bm, 0, none⟩), .int .i64 op, .int .u32 at'] w fun e w' => e = .returned (.tuple #[.int .u32 (if op = 11 then signX (bytesP m.data (at' - 268435456).toNat (sizeP op).toNat) 8 else if op = 12 then signX (bytesP m.data (at' - 268435456).toNat (sizeP op).toNat) 16 else bytesP m.data (at' - 268435456).toNat (sizeP op).toNat), .bool true]) ∧ w = w' := by
  have CS := Lib.hid (fun w => dsize_c op w ho (by omega))
  have CP := vplace_c at' (sizeP op) h hm h1 h2 (sizeP_or op)
  rw [hl] at CP
  simp only [if_true] at CP
  obtain ⟨-, q1, q2⟩ := liesP_ends _ _ _ hl
  obtain ⟨N, hN⟩ : ∃ N : Nat, at' - 268435456 = (N : Int) := ⟨(at' - 268435456).toNat, by omega⟩
  rw [hN] at CP ⊢
  rw [Int.toNat_natCast]
  generalize hR : (if op = 11 then signX (bytesP m.data N (sizeP op).toNat) 8 else if op = 12 then signX (bytesP m.data N (sizeP op).toNat) 16 else bytesP m.data N (sizeP op).toNat) = R
  have CP := Lib.hid CP
  obtain ⟨g, c, eD, lg, hcap, hcl, -⟩ := h.cD (by have := hm.dl; omega)
  have cD := h.c 5 (by decide)
  simp only [List.getElem?_cons_succ, List.getElem?_cons_zero] at cD
  rw [eD] at cD
  have HC : Hid (∀ j, j < m.data.length → w.cell? ⟨g, j, none⟩ = some (.int .u8 (m.data.getD j 0))) := hcl
  have HB := Lib.hid hm.db
  have HL := Lib.hid (bytesP_bd m.data hm.db N)
  have HE : Hid (∀ i, bytesP m.data N (i + 1) = bytesP m.data N i + m.data.getD (N + i) 0 * 256 ^ i) := fun _ => rfl
  have hdl := hm.dl
  have lb := h.bmLt.2
  have q3 : (N : Int) + sizeP op ≤ m.data.length := by omega
  clear h hl hm eD hcl q1 q2 hN
  generalize k.bm = bm at *
  have hc : op = 11 ∨ op = 12 ∨ op = 13 ∨ op = 14 ∨ op = 15 := by omega
  clear ho ho'
  rcases hc with rfl | rfl | rfl | rfl | rfl
  · clear hne
    have q3 : N + 1 ≤ m.data.length := by have : sizeP 11 = 1 := rfl; omega
    have hR : Hid (signX (bytesP m.data N 1) 8 = R) := hR
    have CG := Lib.hid (sign_c (bytesP m.data N 1) 8 w (HL.out 1).1 (by have := (HL.out 1).2; omega) (by decide) (by decide))
    have CS : Hid (∀ w, Calls Try.prog 62 #[.int .i64 11] w fun e w' => e = .returned (.int .i64 1) ∧ w = w') := CS
    have CP : Hid (Calls Try.prog 63 #[.pointer (some ⟨bm, 0, none⟩), .int .u32 at', .int .i64 1] w fun e w' => e = .returned (.tuple #[.int .i64 (N : Int), .bool true]) ∧ w = w') := CP
    go_enter Try.func57, Try.ntmps57
    go_wp2_with (first | (go_at_call 62; (with_reducible refine (CS.out _).mono ?_); rintro e w1 ⟨rfl, rfl⟩) | (go_at_call 63; (with_reducible refine CP.out.mono ?_); rintro e w1 ⟨rfl, rfl⟩))
    go_loop [11, 54] (fun v i => ∃ j : Nat, j ≤ 1 ∧ i = .int .i64 (j : Int) ∧ v = .int .u32 (bytesP m.data N j)) (fun _ i => 1 - (intOf i).toNat)
    case atStart => exact ⟨0, Nat.zero_le _, rfl, rfl⟩
    case round =>
      obtain ⟨j, hj, rfl, rfl⟩ := hrel
      by_cases hlj : j < 1
      · have hc := HC.out (N + j) (by omega)
        have hb := HB.out (N + j)
        have hl := HL.out j
        have HEj := Lib.hid (HE.out j)
        generalize m.data.getD (N + j) 0 = b at *
        obtain ⟨hb1, hb2⟩ := hb
        obtain ⟨hl1, hl2⟩ := hl
        match j, hlj with
        | 0, _ =>
          simp only [Nat.add_zero] at hc
          have HO := Lib.hid (or_byte (bytesP m.data N 0) b 0 (by decide) hl1 hl2 hb1 hb2)
          rw [← HEj.out] at HO
          generalize bytesP m.data N 0 = l at *
          go_wp2_with fail
          exact ⟨⟨0 + 1, by decide, rfl, congrArg (Value.int .u32) (by have := HO.out; simpa using this)⟩, by decide⟩
      · obtain rfl : j = 1 := by omega
        generalize bytesP m.data N 1 = v at *
        go_wp2_with (go_at_call 52; (with_reducible refine CG.out.mono ?_); rintro e w1 ⟨rfl, rfl⟩)
        go_ret2
        exact ⟨by rw [← hR.out]; rfl, rfl⟩
  · clear hne
    have q3 : N + 2 ≤ m.data.length := by have : sizeP 12 = 2 := rfl; omega
    have hR : Hid (signX (bytesP m.data N 2) 16 = R) := hR
    have CG := Lib.hid (sign_c (bytesP m.data N 2) 16 w (HL.out 2).1 (by have := (HL.out 2).2; omega) (by decide) (by decide))
    have CS : Hid (∀ w, Calls Try.prog 62 #[.int .i64 12] w fun e w' => e = .returned (.int .i64 2) ∧ w = w') := CS
    have CP : Hid (Calls Try.prog 63 #[.pointer (some ⟨bm, 0, none⟩), .int .u32 at', .int .i64 2] w fun e w' => e = .returned (.tuple #[.int .i64 (N : Int), .bool true]) ∧ w = w') := CP
    go_enter Try.func57, Try.ntmps57
    go_wp2_with (first | (go_at_call 62; (with_reducible refine (CS.out _).mono ?_); rintro e w1 ⟨rfl, rfl⟩) | (go_at_call 63; (with_reducible refine CP.out.mono ?_); rintro e w1 ⟨rfl, rfl⟩))
    go_loop [11, 54] (fun v i => ∃ j : Nat, j ≤ 2 ∧ i = .int .i64 (j : Int) ∧ v = .int .u32 (bytesP m.data N j)) (fun _ i => 2 - (intOf i).toNat)
    case atStart => exact ⟨0, Nat.zero_le _, rfl, rfl⟩
    case round =>
      obtain ⟨j, hj, rfl, rfl⟩ := hrel
      by_cases hlj : j < 2
      · have hc := HC.out (N + j) (by omega)
        have hb := HB.out (N + j)
        have hl := HL.out j
        have HEj := Lib.hid (HE.out j)
        generalize m.data.getD (N + j) 0 = b at *
        obtain ⟨hb1, hb2⟩ := hb
        obtain ⟨hl1, hl2⟩ := hl
        match j, hlj with
        | 0, _ =>
          simp only [Nat.add_zero] at hc
          have HO := Lib.hid (or_byte (bytesP m.data N 0) b 0 (by decide) hl1 hl2 hb1 hb2)
          rw [← HEj.out] at HO
          generalize bytesP m.data N 0 = l at *
          go_wp2_with fail
          exact ⟨⟨0 + 1, by decide, rfl, congrArg (Value.int .u32) (by have := HO.out; simpa using this)⟩, by decide⟩
        | 1, _ =>
          have HO := Lib.hid (or_byte (bytesP m.data N 1) b 1 (by decide) hl1 hl2 hb1 hb2)
          rw [← HEj.out] at HO
          generalize bytesP m.data N 1 = l at *
          go_wp2_with fail
          exact ⟨⟨1 + 1, by decide, rfl, congrArg (Value.int .u32) (by have := HO.out; simpa using this)⟩, by decide⟩
      · obtain rfl : j = 2 := by omega
        generalize bytesP m.data N 2 = v at *
        go_wp2_with (go_at_call 52; (with_reducible refine CG.out.mono ?_); rintro e w1 ⟨rfl, rfl⟩)
        go_ret2
        exact ⟨by rw [← hR.out]; rfl, rfl⟩
  · have gq : (at' == 536870924) = false := beq_eq_false_iff_ne.2 fun e => hne ⟨rfl, e⟩
    clear hne
    have q3 : N + 4 ≤ m.data.length := by have : sizeP 13 = 4 := rfl; omega
    have hR : Hid (bytesP m.data N 4 = R) := hR
    have CS : Hid (∀ w, Calls Try.prog 62 #[.int .i64 13] w fun e w' => e = .returned (.int .i64 4) ∧ w = w') := CS
    have CP : Hid (Calls Try.prog 63 #[.pointer (some ⟨bm, 0, none⟩), .int .u32 at', .int .i64 4] w fun e w' => e = .returned (.tuple #[.int .i64 (N : Int), .bool true]) ∧ w = w') := CP
    go_enter Try.func57, Try.ntmps57
    go_wp2_with (first | (go_at_call 62; (with_reducible refine (CS.out _).mono ?_); rintro e w1 ⟨rfl, rfl⟩) | (go_at_call 63; (with_reducible refine CP.out.mono ?_); rintro e w1 ⟨rfl, rfl⟩))
    go_loop [11, 54] (fun v i => ∃ j : Nat, j ≤ 4 ∧ i = .int .i64 (j : Int) ∧ v = .int .u32 (bytesP m.data N j)) (fun _ i => 4 - (intOf i).toNat)
    case atStart => exact ⟨0, Nat.zero_le _, rfl, rfl⟩
    case round =>
      obtain ⟨j, hj, rfl, rfl⟩ := hrel
      by_cases hlj : j < 4
      · have hc := HC.out (N + j) (by omega)
        have hb := HB.out (N + j)
        have hl := HL.out j
        have HEj := Lib.hid (HE.out j)
        generalize m.data.getD (N + j) 0 = b at *
        obtain ⟨hb1, hb2⟩ := hb
        obtain ⟨hl1, hl2⟩ := hl
        match j, hlj with
        | 0, _ =>
          simp only [Nat.add_zero] at hc
          have HO := Lib.hid (or_byte (bytesP m.data N 0) b 0 (by decide) hl1 hl2 hb1 hb2)
          rw [← HEj.out] at HO
          generalize bytesP m.data N 0 = l at *
          go_wp2_with fail
          exact ⟨⟨0 + 1, by decide, rfl, congrArg (Value.int .u32) (by have := HO.out; simpa using this)⟩, by decide⟩
        | 1, _ =>
          have HO := Lib.hid (or_byte (bytesP m.data N 1) b 1 (by decide) hl1 hl2 hb1 hb2)
          rw [← HEj.out] at HO
          generalize bytesP m.data N 1 = l at *
          go_wp2_with fail
          exact ⟨⟨1 + 1, by decide, rfl, congrArg (Value.int .u32) (by have := HO.out; simpa using this)⟩, by decide⟩
        | 2, _ =>
          have HO := Lib.hid (or_byte (bytesP m.data N 2) b 2 (by decide) hl1 hl2 hb1 hb2)
          rw [← HEj.out] at HO
          generalize bytesP m.data N 2 = l at *
          go_wp2_with fail
          exact ⟨⟨2 + 1, by decide, rfl, congrArg (Value.int .u32) (by have := HO.out; simpa using this)⟩, by decide⟩
        | 3, _ =>
          have HO := Lib.hid (or_byte (bytesP m.data N 3) b 3 (by decide) hl1 hl2 hb1 hb2)
          rw [← HEj.out] at HO
          generalize bytesP m.data N 3 = l at *
          go_wp2_with fail
          exact ⟨⟨3 + 1, by decide, rfl, congrArg (Value.int .u32) (by have := HO.out; simpa using this)⟩, by decide⟩
      · obtain rfl : j = 4 := by omega
        generalize bytesP m.data N 4 = v at *
        go_wp2_with fail
        go_ret2
        exact ⟨by rw [← hR.out]; rfl, rfl⟩
  · clear hne
    have q3 : N + 1 ≤ m.data.length := by have : sizeP 14 = 1 := rfl; omega
    have hR : Hid (bytesP m.data N 1 = R) := hR
    have CS : Hid (∀ w, Calls Try.prog 62 #[.int .i64 14] w fun e w' => e = .returned (.int .i64 1) ∧ w = w') := CS
    have CP : Hid (Calls Try.prog 63 #[.pointer (some ⟨bm, 0, none⟩), .int .u32 at', .int .i64 1] w fun e w' => e = .returned (.tuple #[.int .i64 (N : Int), .bool true]) ∧ w = w') := CP
    go_enter Try.func57, Try.ntmps57
    go_wp2_with (first | (go_at_call 62; (with_reducible refine (CS.out _).mono ?_); rintro e w1 ⟨rfl, rfl⟩) | (go_at_call 63; (with_reducible refine CP.out.mono ?_); rintro e w1 ⟨rfl, rfl⟩))
    go_loop [11, 54] (fun v i => ∃ j : Nat, j ≤ 1 ∧ i = .int .i64 (j : Int) ∧ v = .int .u32 (bytesP m.data N j)) (fun _ i => 1 - (intOf i).toNat)
    case atStart => exact ⟨0, Nat.zero_le _, rfl, rfl⟩
    case round =>
      obtain ⟨j, hj, rfl, rfl⟩ := hrel
      by_cases hlj : j < 1
      · have hc := HC.out (N + j) (by omega)
        have hb := HB.out (N + j)
        have hl := HL.out j
        have HEj := Lib.hid (HE.out j)
        generalize m.data.getD (N + j) 0 = b at *
        obtain ⟨hb1, hb2⟩ := hb
        obtain ⟨hl1, hl2⟩ := hl
        match j, hlj with
        | 0, _ =>
          simp only [Nat.add_zero] at hc
          have HO := Lib.hid (or_byte (bytesP m.data N 0) b 0 (by decide) hl1 hl2 hb1 hb2)
          rw [← HEj.out] at HO
          generalize bytesP m.data N 0 = l at *
          go_wp2_with fail
          exact ⟨⟨0 + 1, by decide, rfl, congrArg (Value.int .u32) (by have := HO.out; simpa using this)⟩, by decide⟩
      · obtain rfl : j = 1 := by omega
        generalize bytesP m.data N 1 = v at *
        go_wp2_with fail
        go_ret2
        exact ⟨by rw [← hR.out]; rfl, rfl⟩
  · clear hne
    have q3 : N + 2 ≤ m.data.length := by have : sizeP 15 = 2 := rfl; omega
    have hR : Hid (bytesP m.data N 2 = R) := hR
    have CS : Hid (∀ w, Calls Try.prog 62 #[.int .i64 15] w fun e w' => e = .returned (.int .i64 2) ∧ w = w') := CS
    have CP : Hid (Calls Try.prog 63 #[.pointer (some ⟨bm, 0, none⟩), .int .u32 at', .int .i64 2] w fun e w' => e = .returned (.tuple #[.int .i64 (N : Int), .bool true]) ∧ w = w') := CP
    go_enter Try.func57, Try.ntmps57
    go_wp2_with (first | (go_at_call 62; (with_reducible refine (CS.out _).mono ?_); rintro e w1 ⟨rfl, rfl⟩) | (go_at_call 63; (with_reducible refine CP.out.mono ?_); rintro e w1 ⟨rfl, rfl⟩))
    go_loop [11, 54] (fun v i => ∃ j : Nat, j ≤ 2 ∧ i = .int .i64 (j : Int) ∧ v = .int .u32 (bytesP m.data N j)) (fun _ i => 2 - (intOf i).toNat)
    case atStart => exact ⟨0, Nat.zero_le _, rfl, rfl⟩
    case round =>
      obtain ⟨j, hj, rfl, rfl⟩ := hrel
      by_cases hlj : j < 2
      · have hc := HC.out (N + j) (by omega)
        have hb := HB.out (N + j)
        have hl := HL.out j
        have HEj := Lib.hid (HE.out j)
        generalize m.data.getD (N + j) 0 = b at *
        obtain ⟨hb1, hb2⟩ := hb
        obtain ⟨hl1, hl2⟩ := hl
        match j, hlj with
        | 0, _ =>
          simp only [Nat.add_zero] at hc
          have HO := Lib.hid (or_byte (bytesP m.data N 0) b 0 (by decide) hl1 hl2 hb1 hb2)
          rw [← HEj.out] at HO
          generalize bytesP m.data N 0 = l at *
          go_wp2_with fail
          exact ⟨⟨0 + 1, by decide, rfl, congrArg (Value.int .u32) (by have := HO.out; simpa using this)⟩, by decide⟩
        | 1, _ =>
          have HO := Lib.hid (or_byte (bytesP m.data N 1) b 1 (by decide) hl1 hl2 hb1 hb2)
          rw [← HEj.out] at HO
          generalize bytesP m.data N 1 = l at *
          go_wp2_with fail
          exact ⟨⟨1 + 1, by decide, rfl, congrArg (Value.int .u32) (by have := HO.out; simpa using this)⟩, by decide⟩
      · obtain rfl : j = 2 := by omega
        generalize bytesP m.data N 2 = v at *
        go_wp2_with fail
        go_ret2
        exact ⟨by rw [← hR.out]; rfl, rfl⟩
theorem vload_c (op at' : Int) (h : Vm k w vl m ts) (hk : k.ok) (hm : Dok m) (h1 : 0 ≤ at') (h2 : at' < 4294967296) (ho : 11 ≤ op) (ho' : op ≤ 15) :
    Calls Try.prog 57 #[.pointer (some ⟨k.bm, 0, none⟩), .int .i64 op, .int .u32 at'] w fun e w' => e = .returned (ldv (loadD k.inp m op at')) ∧ Below w.heap.size w w' := by
  unfold loadD
  by_cases hp : op = 13 ∧ at' = 536870924
  · rw [if_pos hp]
    obtain ⟨rfl, rfl⟩ := hp
    exact vload_port h hk hm
  · rw [if_neg hp]
    cases hl : liesP m at' (sizeP op)
    · refine (vload_no op at' h hm h1 h2 ho ho' hp hl).mono ?_
      rintro e w' ⟨rfl, rfl⟩
      exact ⟨rfl, Below.refl _ _⟩
    · refine (vload_yes op at' h hm h1 h2 ho ho' hp hl).mono ?_
      rintro e w' ⟨rfl, rfl⟩
      exact ⟨rfl, Below.refl _ _⟩
end
end Go.Proofs.Ytppmjdljnacpgaa
