/-
  The device's memory: where bytes lie, loads, ports, stores.
-/
import Derived.Test.YtppmjdljnacpgaaV2
import Derived.Test.YtppmjdljnacpgaaV3
import Derived.Test.YtppmjdljnacpgaaE2
import Derived.BigQuiet
import Derived.IntWalk
set_option linter.all false
namespace Go.Proofs.Ytppmjdljnacpgaa
open Go.ChangeShapes Go.WideShapes Go.ChangeAt Go.RowKit
set_option maxHeartbeats 2000000
set_option linter.unusedVariables false
set_option maxRecDepth 20000

/-- what holds of a machine at any time -/
structure Dok (m : Dv) : Prop where
  rb : ∀ j, 0 ≤ m.regs.getD j 0 ∧ m.regs.getD j 0 < 4294967296
  pb : 0 ≤ m.pc ∧ m.pc < 4294967296
  sb : 0 ≤ m.seq ∧ m.seq < 4294967296
  ib : 0 ≤ m.index ∧ m.index < 4294967296
  db : ∀ j, 0 ≤ m.data.getD j 0 ∧ m.data.getD j 0 < 256
  dl : 4 ≤ m.data.length ∧ m.data.length ≤ 65536
  r0 : m.regs.getD 0 0 = 0
  tb : 0 ≤ m.steps
  lb : (m.log.length : Int) ≤ m.steps
/-- what holds of what stays -/
structure VK.ok (k : VK) : Prop where
  cb : ∀ j, 0 ≤ k.code.getD j 0 ∧ k.code.getD j 0 < 4294967296
  cl : 1 ≤ k.code.length ∧ k.code.length ≤ 32768
  ib : ∀ j, 0 ≤ k.inp.getD j 0 ∧ k.inp.getD j 0 < 4294967296
  il : k.inp.length ≤ 1000000
theorem or_byte (l b : Int) (i : Nat) (hi : i ≤ 3) (hl : 0 ≤ l) (hl' : l < 256 ^ i) (hb : 0 ≤ b) (hb' : b < 256) : bits .or .u32 l (b * 256 ^ i) = l + b * 256 ^ i := by
  obtain ⟨x, rfl⟩ := Int.eq_ofNat_of_zero_le hl
  obtain ⟨y, rfl⟩ := Int.eq_ofNat_of_zero_le hb
  have hx : x < 256 ^ i := by exact_mod_cast hl'
  have hy : y < 256 := by omega
  have h1 : 256 ^ i ≤ 16777216 := by
    have : i = 0 ∨ i = 1 ∨ i = 2 ∨ i = 3 := by omega
    rcases this with rfl | rfl | rfl | rfl <;> decide
  have h2 : y * 256 ^ i < 4294967296 := by
    have : y * 256 ^ i ≤ 255 * 256 ^ i := Nat.mul_le_mul_right _ (by omega)
    omega
  have e : ((y : Int) * 256 ^ i) = ((y * 256 ^ i : Nat) : Int) := by push_cast; rfl
  rw [e, (bits_nat .u32 32 (by decide) wraps_u32 x (y * 256 ^ i) (by omega) (by omega)).2]
  have h8 : (256 : Nat) ^ i = 2 ^ (8 * i) := by rw [Nat.pow_mul]
  have : x ||| (y * 256 ^ i) = x + y * 256 ^ i := by
    rw [h8] at hx ⊢
    rw [Nat.or_comm, Nat.mul_comm, ← Nat.two_pow_add_eq_or_of_lt hx]; omega
  rw [this]; push_cast; rfl
theorem bytesP_bd (mem : List Int) (h : ∀ j, 0 ≤ mem.getD j 0 ∧ mem.getD j 0 < 256) (n : Nat) : ∀ i, 0 ≤ bytesP mem n i ∧ bytesP mem n i < 256 ^ i
  | 0 => by simp [bytesP]
  | i + 1 => by
    have ih := bytesP_bd mem h n i
    have hb := h (n + i)
    have hp : (0 : Int) < 256 ^ i := Int.pow_pos (by decide)
    unfold bytesP
    generalize mem.getD (n + i) 0 = b at *
    generalize bytesP mem n i = l at *
    rw [Int.pow_succ]
    generalize (256 : Int) ^ i = q at *
    refine ⟨Int.add_nonneg ih.1 (Int.mul_nonneg hb.1 (by omega)), ?_⟩
    have : b * q ≤ 255 * q := Int.mul_le_mul_of_nonneg_right (by omega) (by omega)
    omega
section
variable {k : VK} {w : World} {vl : Value} {m : Dv} {ts : List Mt}
theorem Vm.cD (h : Vm k w vl m ts) (hl : 1 ≤ m.data.length) : ∃ g c, k.vd = .slice (some ⟨g, 0, none⟩) m.data.length c ∧ g < w.heap.size ∧ m.data.length ≤ c ∧ (∀ j, j < m.data.length → w.cell? ⟨g, j, none⟩ = some (.int .u8 (m.data.getD j 0))) ∧ ∀ j, w.frozen? ⟨g, j, none⟩ = false := by
  have H := h.dd
  obtain ⟨-, ⟨-, h0⟩ | ⟨g, cap, cur, e, hb, hgg, hn, hc, -⟩⟩ := h.dd
  · omega
  · rw [e] at H
    refine ⟨g, cap, e, (own_lt H rfl).2, hn, fun j hj => ?_, fun j => H.frozenAt j⟩
    rw [H.cellAt j (by simpa using hj)]
    simp [List.getD, hj]
theorem liesP_ends (at' n L : Int) (hl : (decide (at' % n = 0) && (decide (268435456 ≤ at') && decide (at' + n ≤ 268435456 + L))) = true) : at' % n = 0 ∧ 268435456 ≤ at' ∧ at' + n ≤ 268435456 + L := by
  simpa using hl
theorem vplace_c (at' n : Int) (h : Vm k w vl m ts) (hm : Dok m) (h1 : 0 ≤ at') (h2 : at' < 4294967296) (hn : n = 1 ∨ n = 2 ∨ n = 4) :
    Calls Try.prog 63 #[.pointer (some ⟨k.bm, 0, none⟩), .int .u32 at', .int .i64 n] w fun e w' => e = .returned (.tuple (if liesP m at' n = true then #[.int .i64 (at' - 268435456), .bool true] else #[.int .i64 0, .bool false])) ∧ w = w' := by
  obtain ⟨g, c, eD, -, hc, -, -⟩ := h.cD (by have := hm.dl; omega)
  have cD := h.c 5 (by decide)
  have hl := hm.dl
  have lb := h.bmLt.2
  simp only [List.getElem?_cons_succ, List.getElem?_cons_zero] at cD
  rw [eD] at cD
  have HL : liesP m at' n = (decide (at' % n = 0) && (decide (268435456 ≤ at') && decide (at' + n ≤ 268435456 + (m.data.length : Int)))) := rfl
  clear h hm eD
  generalize liesP m at' n = B at *
  generalize m.data.length = L at *
  generalize k.bm = bm at *
  by_cases q1 : 268435456 ≤ at'
  · have g1 : decide (at' < 268435456) = false := decide_eq_false (by omega)
    by_cases q2 : at' % n = 0
    · by_cases q3 : at' + n ≤ 268435456 + (L : Int)
      · have HB : B = true := by rw [HL]; simp [q1, q2, q3]
        subst HB
        clear HL
        rcases hn with rfl | rfl | rfl
        · have g3 : decide ((L : Int) - 1 < at' - 268435456) = false := decide_eq_false (by omega)
          clear q2 q3
          go_enter Try.func63, Try.ntmps63
          go_wp2_with fail
          go_ret2
          exact ⟨rfl, rfl⟩
        · have q2 := Lib.hid q2
          have g2 : (at' % 2 != 0) = false := by rw [q2.out]; rfl
          have g3 : decide ((L : Int) - 2 < at' - 268435456) = false := decide_eq_false (by omega)
          clear q2 q3
          go_enter Try.func63, Try.ntmps63
          go_wp2_with fail
          go_ret2
          exact ⟨rfl, rfl⟩
        · have q2 := Lib.hid q2
          have g2 : (at' % 4 != 0) = false := by rw [q2.out]; rfl
          have g3 : decide ((L : Int) - 4 < at' - 268435456) = false := decide_eq_false (by omega)
          clear q2 q3
          go_enter Try.func63, Try.ntmps63
          go_wp2_with fail
          go_ret2
          exact ⟨rfl, rfl⟩
      · have HB : B = false := by rw [HL]; simp [q1, q2, q3]
        subst HB
        clear HL
        rcases hn with rfl | rfl | rfl
        · have g3 : decide ((L : Int) - 1 < at' - 268435456) = true := decide_eq_true (by omega)
          clear q2 q3
          go_enter Try.func63, Try.ntmps63
          go_wp2_with fail
          go_ret2
          exact ⟨rfl, rfl⟩
        · have q2 := Lib.hid q2
          have g2 : (at' % 2 != 0) = false := by rw [q2.out]; rfl
          have g3 : decide ((L : Int) - 2 < at' - 268435456) = true := decide_eq_true (by omega)
          clear q2 q3
          go_enter Try.func63, Try.ntmps63
          go_wp2_with fail
          go_ret2
          exact ⟨rfl, rfl⟩
        · have q2 := Lib.hid q2
          have g2 : (at' % 4 != 0) = false := by rw [q2.out]; rfl
          have g3 : decide ((L : Int) - 4 < at' - 268435456) = true := decide_eq_true (by omega)
          clear q2 q3
          go_enter Try.func63, Try.ntmps63
          go_wp2_with fail
          go_ret2
          exact ⟨rfl, rfl⟩
    · have HB : B = false := by rw [HL]; simp [q2]
      subst HB
      clear HL
      rcases hn with rfl | rfl | rfl
      · exact absurd (Int.emod_one _) q2
      · have g2 : (at' % 2 != 0) = true := bne_iff_ne.2 q2
        clear q2
        go_enter Try.func63, Try.ntmps63
        go_wp2_with fail
        go_ret2
        exact ⟨rfl, rfl⟩
      · have g2 : (at' % 4 != 0) = true := bne_iff_ne.2 q2
        clear q2
        go_enter Try.func63, Try.ntmps63
        go_wp2_with fail
        go_ret2
        exact ⟨rfl, rfl⟩
  · have g1 : decide (at' < 268435456) = true := decide_eq_true (by omega)
    have HB : B = false := by rw [HL]; simp [q1]
    subst HB
    clear HL
    rcases hn with rfl | rfl | rfl
    · go_enter Try.func63, Try.ntmps63
      go_wp2_with fail
      go_ret2
      exact ⟨rfl, rfl⟩
    · go_enter Try.func63, Try.ntmps63
      go_wp2_with fail
      go_ret2
      exact ⟨rfl, rfl⟩
    · go_enter Try.func63, Try.ntmps63
      go_wp2_with fail
      go_ret2
      exact ⟨rfl, rfl⟩
end
end Go.Proofs.Ytppmjdljnacpgaa
