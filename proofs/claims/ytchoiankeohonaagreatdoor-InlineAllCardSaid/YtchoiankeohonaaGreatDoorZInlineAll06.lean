/-
 The contracts of the runner's small methods.
-/
import Derived.Test.YtchoiankeohonaaGreatDoorZInlineAll05
import Derived.Test.YtchoiankeohonaaGreatDoorZInlineAll04
import Derived.BigQuiet
import Derived.IntWalk
set_option linter.all false
namespace Go.Proofs.YtchoiankeohonaaGreatDoor
open Go.ChangeShapes Go.WideShapes Go.ChangeAt Go.RowKit
set_option maxHeartbeats 2000000
set_option linter.unusedVariables false
set_option maxRecDepth 20000

section
variable {k : RK} {w : World} {vo : Value} {s : RS}
theorem stop_c (h : Rn k w vo s) (n : Int) : Calls Tryz.prog 46 #[.pointer (some ⟨k.br, 0, none⟩), .int .i64 n] w fun e w' => e = .returned (.bool false) ∧ Rn k w' vo { s with e := n } ∧ Kp k vo vo w w' := by
 have HS := Lib.hid (h.setF 11 (.int .i64 n) { s with e := n } rfl rfl rfl)
 have cE := h.cE
 have fz := h.frz 11
 have lb := h.brLt.2
 clear h
 generalize k.br = br at *
 go_enter Tryz.func46, Tryz.ntmps46
 go_wp2
 go_ret
 exact ⟨rfl, HS.out⟩
theorem step_no (h : Rn k w vo s) (hf : s.fuel = 0) : Calls Tryz.prog 47 #[.pointer (some ⟨k.br, 0, none⟩)] w fun e w' => e = .returned (.bool false) ∧ Rn k w' vo { s with e := 16 } ∧ Kp k vo vo w w' := by
 have HS := Lib.hid (stop_c h 16)
 have cF := h.cFuel
 rw [hf] at cF
 have lb := h.brLt.2
 clear h hf
 generalize k.br = br at *
 go_enter Tryz.func47, Tryz.ntmps47
 go_wp2_with (go_at_call 46; refine HS.out.mono ?_; rintro e w1 ⟨rfl, hr⟩)
 go_ret
 exact ⟨rfl, hr⟩
theorem step_yes (h : Rn k w vo s) (hf : 1 ≤ s.fuel) (hf2 : s.fuel ≤ 10000000) : Calls Tryz.prog 47 #[.pointer (some ⟨k.br, 0, none⟩)] w fun e w' => e = .returned (.bool true) ∧ Rn k w' vo { s with fuel := s.fuel - 1 } ∧ Kp k vo vo w w' := by
 have HS := Lib.hid (h.setF 12 (.int .i64 (s.fuel - 1)) { s with fuel := s.fuel - 1 } rfl rfl rfl)
 have cF := h.cFuel
 have fz := h.frz 12
 have lb := h.brLt.2
 clear h
 generalize k.br = br at *
 generalize s.fuel = f at *
 have g : (f == 0) = false := beq_eq_false_iff_ne.2 (by omega)
 go_enter Tryz.func47, Tryz.ntmps47
 go_wp2_with fail
 go_ret
 exact ⟨rfl, HS.out⟩
/-- where so many bytes lie: a place that may be -/
def placeF (a size : Int) : Bool := decide (0 ≤ a - 268435456) && (decide (a - 268435456 ≤ 65536 - size) && decide ((a - 268435456) % size = 0))
theorem place_yes (a size : Int) (h : Rn k w vo s) (ha1 : 0 ≤ a) (ha2 : a < 4294967296) (hs : size = 1 ∨ size = 4) (hp : placeF a size = true) :
  Calls Tryz.prog 88 #[.pointer (some ⟨k.br, 0, none⟩), .int .u32 a, .int .i64 size] w fun e w' => e = .returned (.tuple #[.int .i64 (a - 268435456), .bool true]) ∧ w = w' := by
 unfold placeF at hp
 simp only [Bool.and_eq_true, decide_eq_true_eq] at hp
 obtain ⟨h1, h2, h3⟩ := hp
 clear h
 generalize k.br = br
 have g1 : decide (a - 268435456 < 0) = false := decide_eq_false (by omega)
 have HM := Lib.hid (by first | exact h3 | omega : (a - 268435456) % size = 0)
 rcases hs with rfl | rfl
 ·go_enter Tryz.func88, Tryz.ntmps88
  go_wp2_with fail
  go_ret2
  exact ⟨rfl, rfl⟩
 ·go_enter Tryz.func88, Tryz.ntmps88
  go_wp2_with fail
  go_ret2
  exact ⟨rfl, rfl⟩
theorem place_no (a size : Int) (h : Rn k w vo s) (ha1 : 0 ≤ a) (ha2 : a < 4294967296) (hs : size = 1 ∨ size = 4) (hp : placeF a size = false) :
  Calls Tryz.prog 88 #[.pointer (some ⟨k.br, 0, none⟩), .int .u32 a, .int .i64 size] w fun e w' => e = .returned (.tuple #[.int .i64 0, .bool false]) ∧ Rn k w' vo { s with e := 12 } ∧ Kp k vo vo w w' := by
 have HS := Lib.hid (stop_c h 12)
 clear h
 have hc : Hid (a - 268435456 < 0 ∨ 0 ≤ a - 268435456 ∧ 65536 - size < a - 268435456 ∨ 0 ≤ a - 268435456 ∧ a - 268435456 ≤ 65536 - size ∧ (a - 268435456) % size ≠ 0) := by
  unfold placeF at hp
  by_cases h1 : 0 ≤ a - 268435456
  ·by_cases h2 : a - 268435456 ≤ 65536 - size
   ·simp [h1, h2] at hp
    exact .inr (.inr ⟨h1, h2, hp (by omega)⟩)
   ·exact .inr (.inl ⟨h1, by omega⟩)
  ·exact .inl (by omega)
 clear hp
 generalize k.br = br at *
 rcases hc.out with h1 | ⟨h1, h2⟩ | ⟨h1, h2, h3⟩
 ·have g : decide (a - 268435456 < 0) = true := decide_eq_true h1
  clear hc h1
  rcases hs with rfl | rfl
  ·go_enter Tryz.func88, Tryz.ntmps88
   go_wp2_with (go_at_call 46; refine HS.out.mono ?_; rintro e w1 ⟨rfl, hr⟩)
   go_ret2
   exact ⟨rfl, hr⟩
  ·go_enter Tryz.func88, Tryz.ntmps88
   go_wp2_with (go_at_call 46; refine HS.out.mono ?_; rintro e w1 ⟨rfl, hr⟩)
   go_ret2
   exact ⟨rfl, hr⟩
 ·have g : decide (a - 268435456 < 0) = false := decide_eq_false (by omega)
  clear hc h1
  rcases hs with rfl | rfl
  ·have g2 : decide (65535 < a - 268435456) = true := decide_eq_true (by omega)
   clear h2
   go_enter Tryz.func88, Tryz.ntmps88
   go_wp2_with (go_at_call 46; refine HS.out.mono ?_; rintro e w1 ⟨rfl, hr⟩)
   go_ret2
   exact ⟨rfl, hr⟩
  ·have g2 : decide (65532 < a - 268435456) = true := decide_eq_true (by omega)
   clear h2
   go_enter Tryz.func88, Tryz.ntmps88
   go_wp2_with (go_at_call 46; refine HS.out.mono ?_; rintro e w1 ⟨rfl, hr⟩)
   go_ret2
   exact ⟨rfl, hr⟩
 ·have g : decide (a - 268435456 < 0) = false := decide_eq_false (by omega)
  rcases hs with rfl | rfl
  ·exact absurd (Int.emod_one _) h3
  ·have g2 : decide (65532 < a - 268435456) = false := decide_eq_false (by omega)
   have g3 : ((a - 268435456) % 4 != 0) = true := bne_iff_ne.2 h3
   clear hc h2 h3
   go_enter Tryz.func88, Tryz.ntmps88
   go_wp2_with (go_at_call 46; refine HS.out.mono ?_; rintro e w1 ⟨rfl, hr⟩)
   go_ret2
   exact ⟨rfl, hr⟩
theorem or_byte (l b : Int) (i : Nat) (hi : i ≤ 3) (hl : 0 ≤ l) (hl' : l < 256 ^ i) (hb : 0 ≤ b) (hb' : b < 256) : bits .or .u32 l (b * 256 ^ i) = l + b * 256 ^ i := by
 obtain ⟨x, rfl⟩ := Int.eq_ofNat_of_zero_le hl
 obtain ⟨y, rfl⟩ := Int.eq_ofNat_of_zero_le hb
 have hx : x < 256 ^ i := by exact_mod_cast hl'
 have hy : y < 256 := by omega
 have h1 : 256 ^ i ≤ 16777216 := by
  have : i = 0 ∨ i = 1 ∨ i = 2 ∨ i = 3 := by omega
  rcases this with rfl | rfl | rfl | rfl <;> decide
 have h2 : y * 256 ^ i < 4294967296 := by
  have : y * 256 ^ i ≤ 255 * 256 ^ i := Nat.mul_le_mul_right _ (by omega)
  omega
 have e : ((y : Int) * 256 ^ i) = ((y * 256 ^ i : Nat) : Int) := by push_cast; rfl
 rw [e, (bits_nat .u32 32 (by decide) wraps_u32 x (y * 256 ^ i) (by omega) (by omega)).2]
 have h8 : (256 : Nat) ^ i = 2 ^ (8 * i) := by rw [Nat.pow_mul]
 have : x ||| (y * 256 ^ i) = x + y * 256 ^ i := by
  rw [h8] at hx ⊢
  rw [Nat.or_comm, Nat.mul_comm, ← Nat.two_pow_add_eq_or_of_lt hx]; omega
 rw [this]; push_cast; rfl
/-- bytes, the least one first -/
def loadP (mem : List Int) (n : Nat) : Nat → Int
 | 0 => 0
 | i + 1 => loadP mem n i + mem.getD (n + i) 0 * 256 ^ i
def MemOk (mem : List Int) : Prop := ∀ j, 0 ≤ mem.getD j 0 ∧ mem.getD j 0 < 256
theorem loadP_bd (mem : List Int) (h : MemOk mem) (n : Nat) : ∀ i, 0 ≤ loadP mem n i ∧ loadP mem n i < 256 ^ i
 | 0 => by simp [loadP]
 | i + 1 => by
  have ih := loadP_bd mem h n i
  have hb := h (n + i)
  have hp : (0 : Int) < 256 ^ i := Int.pow_pos (by decide)
  unfold loadP
  generalize mem.getD (n + i) 0 = b at *
  generalize loadP mem n i = l at *
  rw [Int.pow_succ]
  generalize (256 : Int) ^ i = q at *
  refine ⟨Int.add_nonneg ih.1 (Int.mul_nonneg hb.1 (by omega)), ?_⟩
  have : b * q ≤ 255 * q := Int.mul_le_mul_of_nonneg_right (by omega) (by omega)
  omega
theorem load_yes (a size : Int) (h : Rn k w vo s) (hM : MemOk s.mem) (ha1 : 0 ≤ a) (ha2 : a < 4294967296) (hs : size = 1 ∨ size = 4) (hp : placeF a size = true) :
  Calls Tryz.prog 60 #[.pointer (some ⟨k.br, 0, none⟩), .int .u32 a, .int .i64 size] w fun e w' => e = .returned (.tuple #[.int .u32 (loadP s.mem (a - 268435456).toNat size.toNat), .bool true]) ∧ w = w' := by
 have HP := Lib.hid (place_yes a size h ha1 ha2 hs hp)
 have hp' := hp
 unfold placeF at hp'
 simp only [Bool.and_eq_true, decide_eq_true_eq] at hp'
 obtain ⟨h1, h2, h3⟩ := hp'
 obtain ⟨N, hN⟩ : ∃ N : Nat, a - 268435456 = (N : Int) := ⟨(a - 268435456).toNat, by omega⟩
 rw [hN] at HP h2 ⊢
 have HC : Hid (∀ j, j < 65536 → w.cell? ⟨k.bm, j, none⟩ = some (.int .u8 (s.mem.getD j 0))) := fun j hj => h.cM j hj
 have HB := Lib.hid hM
 have HL := Lib.hid (loadP_bd s.mem hM N)
 have HE : Hid (∀ i, loadP s.mem N (i + 1) = loadP s.mem N i + s.mem.getD (N + i) 0 * 256 ^ i) := fun _ => rfl
 have cM := h.cMem
 have lb := h.brLt.2
 have lm := h.bmLt.2
 clear h hM hp h1 h3 hN ha1 ha2
 generalize k.br = br at *
 generalize k.bm = bm at *
 rcases hs with rfl | rfl
 ·have hc := HC.out N (by omega)
  have hb := HB.out N
  have HE0 : Hid (loadP s.mem N 1 = s.mem.getD N 0) := by show _ = _; rw [HE.out]; simp [loadP]
  generalize s.mem.getD N 0 = b at *
  obtain ⟨hb1, hb2⟩ := hb
  have HO : Hid (bits .or .u32 0 b = b) := by have := or_byte 0 b 0 (by decide) (by decide) (by decide) hb1 hb2; rw [Int.pow_zero, Int.mul_one, Int.zero_add] at this; exact this
  have hN2 : N ≤ 65535 := by omega
  go_enter Tryz.func60, Tryz.ntmps60
  go_wp2_with (go_at_call 88; refine HP.out.mono ?_; rintro e w1 ⟨rfl, rfl⟩)
  go_loop [10, 22] (fun v i => i = .int .i64 0 ∧ v = .int .u32 0 ∨ i = .int .i64 1 ∧ v = .int .u32 b) (fun _ i => 1 - (intOf i).toNat)
  case atStart => exact .inl ⟨rfl, rfl⟩
  case round =>
   rcases hrel with ⟨rfl, rfl⟩ | ⟨rfl, rfl⟩
   ·go_wp2_with fail
    exact ⟨.inr ⟨rfl, congrArg (Value.int .u32) HO.out⟩, by decide⟩
   ·go_wp2_with fail
    go_ret2
    refine ⟨?_, rfl⟩
    rw [← HE0.out]
    rfl
 ·go_enter Tryz.func60, Tryz.ntmps60
  go_wp2_with (go_at_call 88; refine HP.out.mono ?_; rintro e w1 ⟨rfl, rfl⟩)
  go_loop [10, 22] (fun v i => ∃ j : Nat, j ≤ 4 ∧ i = .int .i64 (j : Int) ∧ v = .int .u32 (loadP s.mem N j)) (fun _ i => 4 - (intOf i).toNat)
  case atStart => exact ⟨0, Nat.zero_le _, rfl, rfl⟩
  case round =>
   obtain ⟨j, hj, rfl, rfl⟩ := hrel
   by_cases hlj : j < 4
   ·have hc := HC.out (N + j) (by omega)
    have hb := HB.out (N + j)
    have hl := HL.out j
    have HEj := Lib.hid (HE.out j)
    generalize s.mem.getD (N + j) 0 = b at *
    obtain ⟨hb1, hb2⟩ := hb
    obtain ⟨hl1, hl2⟩ := hl
    have hN2 : N ≤ 65532 := by omega
    match j, hlj with
    | 0, _ =>
     simp only [Nat.add_zero] at hc
     have HO := Lib.hid (or_byte (loadP s.mem N 0) b 0 (by decide) hl1 hl2 hb1 hb2)
     rw [← HEj.out] at HO
     generalize loadP s.mem N 0 = l at *
     go_wp2_with fail
     exact ⟨⟨0 + 1, by decide, rfl, congrArg (Value.int .u32) (by have := HO.out; simpa using this)⟩, by decide⟩
    | 1, _ =>
     have HO := Lib.hid (or_byte (loadP s.mem N 1) b 1 (by decide) hl1 hl2 hb1 hb2)
     rw [← HEj.out] at HO
     generalize loadP s.mem N 1 = l at *
     go_wp2_with fail
     exact ⟨⟨1 + 1, by decide, rfl, congrArg (Value.int .u32) (by have := HO.out; simpa using this)⟩, by decide⟩
    | 2, _ =>
     have HO := Lib.hid (or_byte (loadP s.mem N 2) b 2 (by decide) hl1 hl2 hb1 hb2)
     rw [← HEj.out] at HO
     generalize loadP s.mem N 2 = l at *
     go_wp2_with fail
     exact ⟨⟨2 + 1, by decide, rfl, congrArg (Value.int .u32) (by have := HO.out; simpa using this)⟩, by decide⟩
    | 3, _ =>
     have HO := Lib.hid (or_byte (loadP s.mem N 3) b 3 (by decide) hl1 hl2 hb1 hb2)
     rw [← HEj.out] at HO
     generalize loadP s.mem N 3 = l at *
     go_wp2_with fail
     exact ⟨⟨3 + 1, by decide, rfl, congrArg (Value.int .u32) (by have := HO.out; simpa using this)⟩, by decide⟩
   ·obtain rfl : j = 4 := by omega
    go_wp2_with fail
    go_ret2
    exact ⟨rfl, rfl⟩
theorem load_no (a size : Int) (h : Rn k w vo s) (ha1 : 0 ≤ a) (ha2 : a < 4294967296) (hs : size = 1 ∨ size = 4) (hp : placeF a size = false) :
  Calls Tryz.prog 60 #[.pointer (some ⟨k.br, 0, none⟩), .int .u32 a, .int .i64 size] w fun e w' => e = .returned (.tuple #[.int .u32 0, .bool false]) ∧ Rn k w' vo { s with e := 12 } ∧ Kp k vo vo w w' := by
 have HP := Lib.hid (place_no a size h ha1 ha2 hs hp)
 clear h hp hs
 generalize k.br = br at *
 go_enter Tryz.func60, Tryz.ntmps60
 go_wp2_with (go_at_call 88; refine HP.out.mono ?_; rintro e w1 ⟨rfl, hr⟩)
 go_ret2
 exact ⟨rfl, hr⟩
theorem store_no (a size v : Int) (h : Rn k w vo s) (ha1 : 0 ≤ a) (ha2 : a < 4294967296) (hs : size = 1 ∨ size = 4) (hp : placeF a size = false) :
  Calls Tryz.prog 61 #[.pointer (some ⟨k.br, 0, none⟩), .int .u32 a, .int .i64 size, .int .u32 v] w fun e w' => e = .returned (.bool false) ∧ Rn k w' vo { s with e := 12 } ∧ Kp k vo vo w w' := by
 have HP := Lib.hid (place_no a size h ha1 ha2 hs hp)
 clear h hp hs
 generalize k.br = br at *
 go_enter Tryz.func61, Tryz.ntmps61
 go_wp2_with (go_at_call 88; refine HP.out.mono ?_; rintro e w1 ⟨rfl, hr⟩)
 go_ret
 exact ⟨rfl, hr⟩
/-- bytes put, the least one first -/
def storeP (mem : List Int) (n : Nat) (v : Int) : Nat → List Int
 | 0 => mem
 | i + 1 => (storeP mem n v i).set (n + i) (v / 256 ^ i % 256)
theorem below_drewN2 (w : World) (n : Nat) : Below w.heap.size w (w.drewN n) := ⟨rfl, rfl, rfl, Nat.le_refl _, fun _ _ => rfl⟩
theorem input_c (h : Rn k w vo s) (hi1 : 0 ≤ s.ins) (hi2 : s.ins ≤ 10000000) (hl : k.inp.length ≤ 1000000) :
  Calls Tryz.prog 63 #[.pointer (some ⟨k.br, 0, none⟩)] w fun e w' => e = .returned (.int .u32 (if s.ins + 1 ≤ k.inp.length then k.inp.getD s.ins.toNat 0 else 0)) ∧ Rn k w' vo { s with ins := s.ins + 1 } ∧ Kp k vo vo w w' := by
 generalize hR : (if s.ins + 1 ≤ (k.inp.length : Int) then k.inp.getD s.ins.toNat 0 else 0) = R
 obtain ⟨HR_, HK_⟩ := h.setF 9 (.int .i64 (s.ins + 1)) { s with ins := s.ins + 1 } rfl rfl rfl
 have HR := Lib.hid HR_
 have HK := Lib.hid HK_
 have cI := h.cIns
 have fz := h.frz 9
 have lb := h.brLt.2
 obtain ⟨n, hn⟩ : ∃ n : Nat, s.ins = (n : Int) := ⟨s.ins.toNat, by omega⟩
 rw [hn] at hi1 hi2 cI HR HK hR
 have HRR := Lib.hid hR
 have HN := Lib.hid hn
 clear hR
 go_enter Tryz.func63, Tryz.ntmps63
 go_wp2_with fail
 obtain ⟨W1, hW1⟩ : ∃ W1, W1 = w.setCell ⟨k.br, 9, none⟩ (.int .i64 ((n : Int) + 1)) := ⟨_, rfl⟩
 rw [← hW1] at HR HK ⊢
 clear hW1 HR_ HK_ cI fz lb hi1 hn
 have cI := HR.out.cIns
 have cV := HR.out.cIn
 obtain ⟨ai, ci, ei, hi3, hi4, hi5⟩ := h.ii
 rw [ei] at cV
 unfold maxLen at hi4
 have HB := Lib.hid HR.out.below
 have HI := Lib.hid hi5
 have lb := HR.out.brLt.2
 clear h ei hi5
 dsimp only at cI
 generalize k.br = br at *
 by_cases hle : (n : Int) + 1 ≤ k.inp.length
 ·have HRQ : Hid (k.inp.getD n 0 = R) := by have := HRR.out; rw [if_pos hle, Int.toNat_natCast] at this; exact this
  clear HRR
  obtain ⟨b, o, rfl, hc⟩ := HI.out n (by omega)
  have lw : b < k.wp.heap.size := World.block_lt_of_cell? k.wp _ hc
  have hc := (HB.out.cell (p := ⟨b, o + n * 1 + 0, none⟩) lw).trans hc
  simp only [Nat.mul_one, Nat.add_zero] at hc
  have g : decide ((k.inp.length : Int) < (n : Int) + 1) = false := decide_eq_false (by omega)
  have gn : n < k.inp.length := by omega
  clear hle
  generalize k.inp.getD n 0 = x at *
  generalize k.inp.length = len at *
  go_quiet (fail)
  have HR := Lib.hid (HR.out.grow (below_drewN2 W1 nq))
  have HK := Lib.hid (HK.out.trans (Kp.of_below (below_drewN2 W1 nq)))
  have cI : (W1.drewN nq).cell? ⟨br, 9, none⟩ = _ := cI
  have cV : (W1.drewN nq).cell? ⟨br, 7, none⟩ = _ := cV
  have hc : (W1.drewN nq).cell? ⟨b, o + n, none⟩ = _ := hc
  generalize W1.drewN nq = W2 at HR HK cI cV hc ⊢
  go_wp2_with fail
  have HW : IntKind.i64.wrap ((n : Int) + 1 - 1) = (n : Int) := by rw [show (n : Int) + 1 - 1 = (n : Int) by omega]; exact IntWalk.i64_in _ (by omega)
  go_quiet (fail)
  clear HW
  go_wp2_with fail
  go_ret
  exact ⟨by rw [← HRQ.out]; rfl, by rw [HN.out]; exact HR.out.grow (below_drewN2 W2 nq), HK.out.trans (Kp.of_below (below_drewN2 W2 nq))⟩
 ·have HRQ : Hid ((0 : Int) = R) := by have := HRR.out; rw [if_neg hle] at this; exact this
  clear HRR
  have g : decide ((k.inp.length : Int) < (n : Int) + 1) = true := decide_eq_true (by omega)
  clear hle
  generalize k.inp.length = len at *
  go_quiet (fail)
  go_wp2_with fail
  go_ret
  exact ⟨by rw [← HRQ.out]; rfl, by rw [HN.out]; exact HR.out.grow (below_drewN2 W1 nq), HK.out.trans (Kp.of_below (below_drewN2 W1 nq))⟩
end
end Go.Proofs.YtchoiankeohonaaGreatDoor
