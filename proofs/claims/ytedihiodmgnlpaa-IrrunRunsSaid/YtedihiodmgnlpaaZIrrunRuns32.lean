/-
 The document's functions of words and places.
-/
import Derived.Test.YtedihiodmgnlpaaZIrrunRuns31
set_option linter.all false
namespace Go.Proofs.Ytedihiodmgnlpaa
open Go.ChangeShapes Go.WideShapes Go.ChangeAt Go.RowKit
set_option maxHeartbeats 8000000
set_option linter.unusedVariables false
set_option maxRecDepth 100000

theorem rtruth_c (b : Bool) (w : World) : Calls Try.prog 119 #[.bool b] w fun e w' => e = .returned (.int .u32 (bitF b)) ∧ w = w' := by
 cases b
 all_goals
  go_enter Try.func119, Try.ntmps119
  go_wp2
  go_ret
  exact ⟨rfl, rfl⟩
theorem not_xor (a : Int) (h : 0 ≤ a) (h' : a < 4294967296) : bits .xor .u32 IntKind.u32.max a = (4294967295 - a) % 4294967296 := by
 obtain ⟨x, rfl⟩ := Int.eq_ofNat_of_zero_le h
 have hx : x < 2 ^ 32 := by omega
 have e0 : bits .xor .u32 IntKind.u32.max (x : Int) = IntKind.u32.wrap (((BitVec.ofInt 32 4294967295 ^^^ BitVec.ofInt 32 (x : Int)).toNat : Nat) : Int) := rfl
 have e1 : (BitVec.ofInt 32 4294967295) = BitVec.allOnes 32 := by decide
 have e3 : (BitVec.allOnes 32 ^^^ BitVec.ofNat 32 x).toNat = 4294967295 - x := by
  rw [BitVec.allOnes_xor, BitVec.toNat_not, BitVec.toNat_ofNat, Nat.mod_eq_of_lt hx]
 rw [e0, e1, BitVec.ofInt_natCast, e3, IntKind.wrap_u32]
 omega
/-- the values among which the document chooses -/
def appL (a b : Int) : List Int := [0, (a + b) % 4294967296, (a - b) % 4294967296, (a * b) % 4294967296, divS a b, remS a b, bits .and .u32 a b, bits .or .u32 a b, bits .xor .u32 a b, shl32 a b, sar32 a b, bitF (sg a == sg b), bitF (sg a != sg b), bitF (decide (sg a < sg b)), bitF (decide (sg b < sg a)), bitF (decide (sg a ≤ sg b)), bitF (decide (sg b ≤ sg a)), (-a) % 4294967296, (4294967295 - a) % 4294967296, bitF (a == 0)]
theorem appL_fn (n : Nat) (a b : Int) (h : 0 ≤ a) (h' : a < 4294967296) (h1 : 0 ≤ b) (h1' : b < 4294967296) (hn : 1 ≤ n) (hn2 : n ≤ 19) : (appL a b).getD n 0 = fnF n a b := by
 have hc : n = 1 ∨ n = 2 ∨ n = 3 ∨ n = 4 ∨ n = 5 ∨ n = 6 ∨ n = 7 ∨ n = 8 ∨ n = 9 ∨ n = 10 ∨ n = 11 ∨ n = 12 ∨ n = 13 ∨ n = 14 ∨ n = 15 ∨ n = 16 ∨ n = 17 ∨ n = 18 ∨ n = 19 := by omega
 have hsg : (sg a == sg b) = (a == b) := by
  by_cases e : a = b
  ·subst e; simp
  ·rw [beq_eq_false_iff_ne.2 e, beq_eq_false_iff_ne.2 (fun h2 => e ((sg_inj a b h h' h1 h1').1 h2))]
 rcases hc with rfl | rfl | rfl | rfl | rfl | rfl | rfl | rfl | rfl | rfl | rfl | rfl | rfl | rfl | rfl | rfl | rfl | rfl | rfl
 ·show (a + b) % 4294967296 = fnF 1 a b
  simp [fnF]
 ·show (a - b) % 4294967296 = fnF 2 a b
  simp [fnF]
 ·show (a * b) % 4294967296 = fnF 3 a b
  simp [fnF]
 ·show divS a b = fnF 4 a b
  simp [fnF]
 ·show remS a b = fnF 5 a b
  simp [fnF]
 ·show bits .and .u32 a b = fnF 6 a b
  simp [fnF]
 ·show bits .or .u32 a b = fnF 7 a b
  simp [fnF]
 ·show bits .xor .u32 a b = fnF 8 a b
  simp [fnF]
 ·show shl32 a b = fnF 9 a b
  simp [fnF]
 ·show sar32 a b = fnF 10 a b
  simp [fnF]
 ·show bitF (sg a == sg b) = fnF 11 a b
  rw [hsg]; simp [fnF]
 ·show bitF (sg a != sg b) = fnF 12 a b
  rw [bne, hsg]; simp [fnF, bne]
 ·show bitF (decide (sg a < sg b)) = fnF 13 a b
  simp [fnF, bitF, lessS]
 ·show bitF (decide (sg b < sg a)) = fnF 14 a b
  simp [fnF, bitF, lessS]
 ·show bitF (decide (sg a ≤ sg b)) = fnF 15 a b
  simp [fnF, bitF, lessS]; split <;> split <;> omega
 ·show bitF (decide (sg b ≤ sg a)) = fnF 16 a b
  simp [fnF, bitF, lessS]; split <;> split <;> omega
 ·show (-a) % 4294967296 = fnF 17 a b
  simp [fnF]
 ·show (4294967295 - a) % 4294967296 = fnF 18 a b
  rw [← not_xor a h h']; simp [fnF]
 ·show bitF (a == 0) = fnF 19 a b
  simp [fnF]
theorem fnF_out (fn a b : Int) (h : ¬ (1 ≤ fn ∧ fn ≤ 19)) : fnF fn a b = 0 := by
 have hn : ∀ k : Int, 1 ≤ k → k ≤ 19 → fn ≠ k := fun k h1 h2 e => h ⟨e ▸ h1, e ▸ h2⟩
 unfold fnF
 simp only [hn 1 (by omega) (by omega), hn 2 (by omega) (by omega), hn 3 (by omega) (by omega), hn 4 (by omega) (by omega), hn 5 (by omega) (by omega), hn 6 (by omega) (by omega), hn 7 (by omega) (by omega), hn 8 (by omega) (by omega), hn 9 (by omega) (by omega), hn 10 (by omega) (by omega), hn 11 (by omega) (by omega), hn 12 (by omega) (by omega), hn 13 (by omega) (by omega), hn 14 (by omega) (by omega), hn 15 (by omega) (by omega), hn 16 (by omega) (by omega), hn 17 (by omega) (by omega), hn 18 (by omega) (by omega), hn 19 (by omega) (by omega), if_false]
theorem rapply_c (fn a b : Int) (w : World) (h4 : fn ≠ 4) (h5 : fn ≠ 5) (h : 0 ≤ a) (h' : a < 4294967296) (h1 : 0 ≤ b) (h1' : b < 4294967296) :
  Calls Try.prog 76 #[.int .i64 fn, .int .u32 a, .int .u32 b] w fun e w' => e = .returned (.tuple #[.int .u32 (fnF fn a b), .int .i64 (if 1 ≤ fn ∧ fn ≤ 19 then 0 else 1)]) ∧ Below w.heap.size w w' := by
 have HS1 := Lib.hid (fun w => rsigned_c a w h h')
 have HS2 := Lib.hid (fun w => rsigned_c b w h1 h1')
 have C1 := Lib.hid (fun w => radd_c a b w h h' h1 h1')
 have C2 := Lib.hid (fun w => rsub_c a b w h h' h1 h1')
 have C17 := Lib.hid (fun w => rsub_c 0 a w (by decide) (by decide) h h')
 have C18 := Lib.hid (fun w => rsub_c 4294967295 a w (by decide) (by decide) h h')
 have C3 := Lib.hid (fun w => rmul_c a b w h h' h1 h1')
 have C4 := Lib.hid (fun w => rdiv_c a b w h h' h1 h1')
 have C5 := Lib.hid (fun w => rrem_c a b w h h' h1 h1')
 have C9 := Lib.hid (fun w => rleft_c a b w h h' h1 h1')
 have C10 := Lib.hid (fun w => rrights_c a b w h h' h1 h1')
 have HL := Lib.hid (fun n hn hn2 => appL_fn n a b h h' h1 h1' hn hn2)
 have g4 : (fn == 4) = false := beq_eq_false_iff_ne.2 h4
 have g5 : (fn == 5) = false := beq_eq_false_iff_ne.2 h5
 clear h4 h5
 obtain ⟨E, hE⟩ : ∃ E : Int, (if 1 ≤ fn ∧ fn ≤ 19 then (0 : Int) else 1) = E := ⟨_, rfl⟩
 rw [hE]
 have HE := Lib.hid hE
 clear hE
 go_enter Try.func76, Try.ntmps76
 go_upto_region 5 with (first | (go_at_call 57; (with_reducible refine (HS1.out _).mono ?_); rintro e w1 ⟨rfl, rfl⟩) | (go_at_call 57; (with_reducible refine (HS2.out _).mono ?_); rintro e w1 ⟨rfl, rfl⟩) | (go_at_call 114; (with_reducible refine (C1.out _).mono ?_); rintro e w1 ⟨rfl, rfl⟩) | (go_at_call 115; (with_reducible refine (C2.out _).mono ?_); rintro e w1 ⟨rfl, rfl⟩) | (go_at_call 115; (with_reducible refine (C17.out _).mono ?_); rintro e w1 ⟨rfl, rfl⟩) | (go_at_call 115; (with_reducible refine (C18.out _).mono ?_); rintro e w1 ⟨rfl, rfl⟩) | (go_at_call 116; (with_reducible refine (C3.out _).mono ?_); rintro e w1 ⟨rfl, rfl⟩) | (go_at_call 74; (with_reducible refine (C4.out _).mono ?_); rintro e w1 ⟨rfl, rfl⟩) | (go_at_call 75; (with_reducible refine (C5.out _).mono ?_); rintro e w1 ⟨rfl, rfl⟩) | (go_at_call 117; (with_reducible refine (C9.out _).mono ?_); rintro e w1 ⟨rfl, nq, rfl⟩) | (go_at_call 118; (with_reducible refine (C10.out _).mono ?_); rintro e w1 ⟨rfl, rfl⟩) | (go_at_call 119; (with_reducible refine (rtruth_c _ _).mono ?_); rintro e w1 ⟨rfl, rfl⟩))
 obtain ⟨W1, hW1⟩ : ∃ W1, W1 = (w.drewN nq).alloc (.cells #[.int .u32 (0), .int .u32 ((a + b) % 4294967296), .int .u32 ((a - b) % 4294967296), .int .u32 (a * b % 4294967296), .int .u32 (divS a b), .int .u32 (remS a b), .int .u32 (bits .and .u32 a b), .int .u32 (bits .or .u32 a b), .int .u32 (bits .xor .u32 a b), .int .u32 (shl32 a b), .int .u32 (sar32 a b), .int .u32 (bitF (sg a == sg b)), .int .u32 (bitF (sg a != sg b)), .int .u32 (bitF (decide (sg a < sg b))), .int .u32 (bitF (decide (sg b < sg a))), .int .u32 (bitF (decide (sg a ≤ sg b))), .int .u32 (bitF (decide (sg b ≤ sg a))), .int .u32 (-a % 4294967296), .int .u32 ((4294967295 - a) % 4294967296), .int .u32 (bitF (a == 0))] 35) := ⟨_, rfl⟩
 rw [← hW1]
 have HH : Hid (W1.heap[w.heap.size]? = some (.cells ((appL a b).map (Value.int .u32)).toArray 35 (0, 0))) := by
  show _ = _
  rw [hW1]; exact heap_alloc_new (w.drewN nq) _
 have HB : Hid (Below w.heap.size w W1) := by rw [hW1]; exact (show Below w.heap.size w (w.drewN nq) from ⟨rfl, rfl, rfl, Nat.le_refl _, fun _ _ => rfl⟩).trans (below_alloc (w.drewN nq) _)
 have hlb : w.heap.size < W1.heap.size := (Array.getElem?_eq_some_iff.1 HH.out).1
 clear hW1 HS1 HS2 C1 C2 C17 C18 C3 C4 C5 C9 C10
 by_cases hi : 1 ≤ fn ∧ fn ≤ 19
 ·have HE0 : Hid (E = 0) := by show _ = _; rw [← HE.out, if_pos hi]
  obtain ⟨hi1, hi2⟩ := hi
  obtain ⟨n, rfl⟩ := Int.eq_ofNat_of_zero_le (show 0 ≤ fn by omega)
  have hv := HL.out n (by omega) (by omega)
  have hc0 := cell_of_heap HH.out n
  have hc : W1.cell? ⟨w.heap.size, n, none⟩ = some (.int .u32 (fnF (n : Int) a b)) := by
   rw [hc0, ← hv]
   have hl : n < (appL a b).length := by show n < 20; omega
   simp [List.getD, hl]
  have k1 : decide ((n : Int) < 1) = false := decide_eq_false (by omega)
  have k2 : decide ((20 : Int) ≤ (n : Int)) = false := decide_eq_false (by omega)
  have hn20 : n < 20 := by omega
  have k3 : decide (20 ≤ n) = false := decide_eq_false (by omega)
  have k4 : decide (n < 1) = false := decide_eq_false (by omega)
  have k5 : decide (n = 0) = false := decide_eq_false (by omega)
  have k6 : 1 ≤ n := by omega
  clear hv hc0
  go_wp2_with fail
  go_ret2
  exact ⟨by rw [HE0.out]; rfl, HB.out⟩
 ·have HE1 : Hid (E = 1) := by show _ = _; rw [← HE.out, if_neg hi]
  have HF0 := Lib.hid (fnF_out fn a b hi)
  by_cases hi1 : fn < 1
  ·have k1 : decide (fn < 1) = true := decide_eq_true hi1
   clear hi
   go_wp2_with fail
   go_ret2
   exact ⟨by rw [HE1.out, HF0.out]; rfl, HB.out⟩
  ·have k1 : decide (fn < 1) = false := decide_eq_false hi1
   have k2 : decide ((20 : Int) ≤ fn) = true := decide_eq_true (by omega)
   clear hi
   go_wp2_with fail
   go_ret2
   exact ⟨by rw [HE1.out, HF0.out]; rfl, HB.out⟩
theorem rfn_c (fn a b : Int) (w : World) (h : 0 ≤ a) (h' : a < 4294967296) (h1 : 0 ≤ b) (h1' : b < 4294967296) :
  Calls Try.prog 36 #[.int .i64 fn, .int .u32 a, .int .u32 b] w fun e w' => e = .returned (.int .u32 (fnF fn a b)) ∧ Below w.heap.size w w' := by
 by_cases h4 : fn = 4
 ·have C4 := Lib.hid (fun w => rdiv_c a b w h h' h1 h1')
  have HF : Hid (fnF fn a b = divS a b) := show _ = _ by subst h4; simp [fnF]
  rw [HF.out]
  have g : (fn == 4) = true := beq_iff_eq.2 h4
  clear h4
  go_enter Try.func36, Try.ntmps36
  go_wp2_with (go_at_call 74; refine (C4.out _).mono ?_; rintro e w1 ⟨rfl, rfl⟩)
  go_ret
  exact ⟨rfl, Below.refl _ _⟩
 ·have g : (fn == 4) = false := beq_eq_false_iff_ne.2 h4
  by_cases h5 : fn = 5
  ·have C4 := Lib.hid (fun w => rrem_c a b w h h' h1 h1')
   have HF : Hid (fnF fn a b = remS a b) := show _ = _ by subst h5; simp [fnF]
   rw [HF.out]
   have g5 : (fn == 5) = true := beq_iff_eq.2 h5
   clear h5 h4
   go_enter Try.func36, Try.ntmps36
   go_wp2_with (go_at_call 75; refine (C4.out _).mono ?_; rintro e w1 ⟨rfl, rfl⟩)
   go_ret
   exact ⟨rfl, Below.refl _ _⟩
  ·have g5 : (fn == 5) = false := beq_eq_false_iff_ne.2 h5
   have CA := Lib.hid (fun w => rapply_c fn a b w h4 h5 h h' h1 h1')
   clear h4 h5
   by_cases hi : 1 ≤ fn ∧ fn ≤ 19
   ·rw [if_pos hi] at CA
    clear hi
    go_enter Try.func36, Try.ntmps36
    go_wp2_with (go_at_call 76; refine (CA.out _).mono ?_; rintro e w1 ⟨rfl, hb⟩)
    go_ret
    exact ⟨rfl, hb⟩
   ·rw [if_neg hi] at CA
    have HF := Lib.hid (fnF_out fn a b hi)
    clear hi
    go_enter Try.func36, Try.ntmps36
    go_wp2_with (go_at_call 76; refine (CA.out _).mono ?_; rintro e w1 ⟨rfl, hb⟩)
    go_ret
    exact ⟨by rw [HF.out]; rfl, hb⟩
theorem IrrunFns_w (fn a b : Int) (w : World) (h : 0 ≤ a) (h' : a < 4294967296) (h1 : 0 ≤ b) (h1' : b < 4294967296) :
  Calls Try.prog 9 #[.int .i64 fn, .int .u32 a, .int .u32 b] w fun e w' => e = .returned (.bool true) ∧ Below w.heap.size w w' := by
 have HA := Lib.hid awake14_c
 have HF := Lib.hid (fun w => fn_c fn a b w h h' h1 h1')
 have HR := Lib.hid (fun w => rfn_c fn a b w h h' h1 h1')
 generalize fnF fn a b = V at *
 go_enter Try.func9, Try.ntmps9
 go_wp2_with fail
 refine (HA.out _).mono ?_
 rintro e w1 ⟨rfl, hb1⟩
 go_wp2_with fail
 refine (HF.out _).mono ?_
 rintro e w2 ⟨rfl, rfl⟩
 go_wp2_with fail
 refine (HR.out _).mono ?_
 rintro e w3 ⟨rfl, hb3⟩
 have HB := Lib.hid (hb1.trans (hb3.mono hb1.size))
 clear hb1 hb3
 go_wp2_with fail
 go_ret
 exact ⟨rfl, HB.out⟩
/-- the least multiple of 4, found by counting -/
theorem rnext_c (n : Int) (w : World) (h0 : 0 ≤ n) (h1 : n ≤ 1000000000000) : Calls Try.prog 78 #[.int .i64 n] w fun e w' => e = .returned (.int .i64 (up4 n)) ∧ w = w' := by
 have HU : Hid (∀ x, n ≤ x → x ≤ up4 n → x % 4 = 0 → x = up4 n) := fun x h2 h3 h4 => by unfold up4 at *; omega
 have hu1 : n ≤ up4 n := by unfold up4; omega
 have hu2 : up4 n ≤ n + 3 := by unfold up4; omega
 have hu3 : up4 n % 4 = 0 := by unfold up4; omega
 have HU3 := Lib.hid hu3
 clear hu3
 generalize up4 n = u at *
 go_enter Try.func78, Try.ntmps78
 go_wp2_with fail
 go_loop [0] (fun x => ∃ y : Int, n ≤ y ∧ y ≤ u ∧ x = .int .i64 y) (fun x => (u - intOf x).toNat)
 case atStart => exact ⟨n, Int.le_refl _, hu1, rfl⟩
 case round =>
  obtain ⟨y, hy1, hy2, rfl⟩ := hrel
  by_cases hm : y % 4 = 0
  ·have hy := HU.out y hy1 hy2 hm
   have gm : (y % 4 != 0) = false := by rw [bne_eq_false_iff_eq]; exact hm
   clear hm
   go_wp2_with fail
   go_ret
   exact ⟨rfl, rfl⟩
  ·have gm : (y % 4 != 0) = true := bne_iff_ne.2 hm
   have hlt : y + 1 ≤ u := by
    have := HU3.out
    have : y ≠ u := fun e => hm (by rw [e]; exact HU3.out)
    omega
   clear hm
   go_wp2_with fail
   go_round
   case rel => exact ⟨y + 1, by omega, hlt, rfl⟩
   case measure => simp [intOf]; omega
theorem rplace_c (l : List Sl) (v : Value) (w : World) (hv : RdSls w v l) (hs : ∀ i, i < l.length → 0 ≤ (l.getD i default).size ∧ (l.getD i default).size ≤ 40000) (hn : l.length ≤ 1000) :
  Calls Try.prog 38 #[v] w fun e w' => ∃ u, e = .returned (.tuple #[u, .int .i64 (slE l l.length)]) ∧ w'.ownsRow w.heap.size 3 1 u l.length ((slL l l.length).map (Value.int .i64)) ∧ Below w.heap.size w w' := by
 have H := Lib.hid hv
 obtain ⟨a, c, rfl, h1, h2, -⟩ := hv
 unfold maxLen at h2
 have HS := Lib.hid hs
 have HB := Lib.hid (slE_bd l hs)
 clear hs
 go_enter Try.func38, Try.ntmps38
 go_wp2_with fail
 go_loopw [4, 5, 6] (fun o p i wr => ∃ k : Nat, k ≤ l.length ∧ i = .int .i64 (k : Int) ∧ p = .int .i64 (slE l k) ∧ Hid (wr.ownsRow w.heap.size 3 1 o k ((slL l k).map (Value.int .i64))) ∧ Hid (Below w.heap.size w wr)) (fun _ _ i _ => l.length - (intOf i).toNat)
 case atStart => exact ⟨0, Nat.zero_le _, rfl, rfl, own_nil _ _ _ _, Below.refl _ _⟩
 case round =>
  obtain ⟨k, hk, rfl, rfl, O, B⟩ := hrel
  have hb := HB.out k hk
  obtain ⟨hb1, hb2⟩ := hb
  by_cases hlk : k < l.length
  ·obtain ⟨-, hat⟩ := H.out.at
   obtain ⟨b, o, nm, rfl, y0, y1, y2, y3⟩ := hat k hlk
   have lb0 : b < w.heap.size := World.block_lt_of_cell? w _ y1
   replace y1 := Ext.below B.out _ _ y1
   have hsk := HS.out k hlk
   obtain ⟨hs1, hs2⟩ := hsk
   have HE : Hid (slE l (k + 1) = up4 (slE l k + (l.getD k default).size)) := rfl
   have HL := Lib.hid (slL_snoc l k)
   have hsz := B.out.size
   have lb : b < wr.heap.size := World.block_lt_of_cell? wr _ y1
   clear hat y0 y2 y3
   generalize (l.getD k default).size = sz at *
   generalize slE l k = p at *
   have HU := Lib.hid (fun w => rnext_c (p + sz) w (by omega) (by omega))
   go_wp2_with (first | (go_at_call 78; refine (HU.out _).mono ?_; rintro e w9 ⟨rfl, rfl⟩) | (at_builtin; refine appG 26 3 infoI64 Try.underlying26 rfl (by decide) (by decide) [.int .i64 p] rfl (by simp [Value.oneCell']) (own_below O.out (below_a1' _ _)) rfl rfl rfl rfl (cell_new1 _ _ _ _ rfl) (by omega) (by simp; omega) ?_; intro o1 w1 O1 G1 D1; have q1 : w1.cell? ⟨b, o + k * 4 + 1, none⟩ = some (.int .i64 sz) := cell_grown G1 (by intro e; have := (own_lt O.out e.symm).1; omega) (((below_a1' wr _).cell (p := ⟨b, o + k * 4 + 1, none⟩) lb).trans y1)))
   have B1 : Hid (Below w.heap.size w w1) := below_grown (B.out.trans ((below_a1' wr _).mono hsz)) G1 (by simp; omega) fun g hg => (own_lt O.out hg).1
   have O1 : Hid (w1.ownsRow w.heap.size 3 1 o1 (k + 1) ((slL l (k + 1)).map (Value.int .i64))) := by
    show World.ownsRow _ _ _ _ _ _ _
    rw [HL.out, List.map_append]; exact O1
   clear G1 D1 O B
   go_round
   case rel => exact ⟨k + 1, by omega, by go_num, by rw [HE.out], O1, B1⟩
   case measure => first | (simp [intOf]; done) | (simp [intOf]; omega)
  ·obtain rfl : k = l.length := by omega
   go_wp2_with fail
   go_ret2
   exact ⟨_, rfl, O.out, B.out⟩
theorem below_drewNr' {B : Nat} {w w1 : World} (h : Below B w w1) (n : Nat) : Below B w (w1.drewN n) := ⟨h.os, h.tape, h.output, h.size, h.block⟩
theorem IrrunPlaces_w (l : List Sl) (v : Value) (w : World) (hv : RdSls w v l) :
  Calls Try.prog 10 #[v] w fun e w' => e = .returned (.bool true) ∧ Below w.heap.size w w' := by
 have HA := Lib.hid awake14_c
 have H := Lib.hid hv
 obtain ⟨a, c, rfl, h1, h2, -⟩ := id hv
 unfold maxLen at h2
 by_cases hn : 40 < l.length
 ·have g0 : decide ((40 : Int) < (l.length : Int)) = true := decide_eq_true (by omega)
  have g1 : decide (40 < l.length) = true := decide_eq_true hn
  clear hv hn
  go_enter Try.func10, Try.ntmps10
  go_wp2_with (go_at_call 31; refine (HA.out _).mono ?_; rintro e w1 ⟨rfl, hb1⟩)
  go_ret
  exact ⟨rfl, hb1⟩
 ·have g0 : decide ((40 : Int) < (l.length : Int)) = false := decide_eq_false (by omega)
  have g1 : decide (40 < l.length) = false := decide_eq_false hn
  have hl40 : l.length ≤ 40 := by omega
  clear hn hv
  go_enter Try.func10, Try.ntmps10
  go_wp2_with fail
  go_loop [3] (fun i => ∃ k : Nat, k ≤ l.length ∧ i = .int .i64 (k : Int) ∧ Hid (∀ i, i < k → 0 ≤ (l.getD i default).size ∧ (l.getD i default).size ≤ 40000)) (fun i => l.length - (intOf i).toNat)
  case atStart => exact ⟨0, Nat.zero_le _, rfl, fun i hi => absurd hi (Nat.not_lt_zero i)⟩
  case round =>
   obtain ⟨k, hk, rfl, HS⟩ := hrel
   by_cases hlk : k < l.length
   ·obtain ⟨-, hat⟩ := H.out.at
    obtain ⟨b, o, nm, rfl, y0, y1, y2, y3⟩ := hat k hlk
    have HK : Hid (0 ≤ (l.getD k default).size ∧ (l.getD k default).size ≤ 40000 → ∀ i, i < k + 1 → 0 ≤ (l.getD i default).size ∧ (l.getD i default).size ≤ 40000) := fun h i hi => by
     by_cases e : i = k
     ·rw [e]; exact h
     ·exact HS.out i (by omega)
    have lb0 : b < w.heap.size := World.block_lt_of_cell? w _ y1
    clear hat y0 y2 y3
    generalize (l.getD k default).size = sz at *
    by_cases k1 : sz < 0
    ·have g2 := decide_eq_true k1
     go_wp2_with (go_at_call 31; refine (HA.out _).mono ?_; rintro e w1 ⟨rfl, hb1⟩)
     go_ret
     exact ⟨rfl, hb1⟩
    ·have g2 := decide_eq_false k1
     by_cases k2 : 40000 < sz
     ·have g3 := decide_eq_true k2
      go_wp2_with (go_at_call 31; refine (HA.out _).mono ?_; rintro e w1 ⟨rfl, hb1⟩)
      go_ret
      exact ⟨rfl, hb1⟩
     ·have g3 := decide_eq_false k2
      have HK2 := Lib.hid (HK.out (by omega))
      go_wp2_with fail
      go_round
      case rel => exact ⟨k + 1, by omega, by go_num, HK2⟩
      case measure => simp [intOf]; omega
   ·obtain rfl : k = l.length := by omega
    have HP1 := Lib.hid (place_c l _ w H.out HS.out (by omega))
    have HP2 := Lib.hid (fun w' (he : Below w.heap.size w w') => rplace_c l _ w' (H.out.ext (Ext.below he)) HS.out (by omega))
    generalize slE l l.length = E at *
    have hLL : (slL l l.length).length = l.length := slL_len l l.length
    have HLL := Lib.hid hLL
    clear hLL
    go_wp2_with fail
    refine HP1.out.mono ?_
    rintro e w1 ⟨u1, rfl, o1, hb1⟩
    have O1 := Lib.hid o1
    have B1 := Lib.hid hb1
    obtain ⟨a1, c1, rfl⟩ := row_shape o1
    clear o1 hb1
    go_wp2_with fail
    refine (HP2.out _ B1.out).mono ?_
    rintro e w2 ⟨u2, rfl, o2, hb2⟩
    have O2 := Lib.hid o2
    have O1 := Lib.hid (own_below O1.out hb2)
    have B2 := Lib.hid (B1.out.trans (hb2.mono B1.out.size))
    obtain ⟨a2, c2, rfl⟩ := row_shape o2
    clear o2 hb2
    go_wp2_with fail
    go_loopw [8] (fun i wr => ∃ k : Nat, k ≤ l.length ∧ i = .int .i64 (k : Int) ∧ Hid (Below w2.heap.size w2 wr)) (fun i _ => l.length - (intOf i).toNat)
    case atStart => exact ⟨0, Nat.zero_le _, rfl, Below.refl _ _⟩
    case round =>
     obtain ⟨j, hj, rfl, B⟩ := hrel
     by_cases hlj : j < l.length
     ·obtain ⟨b1, ca1, e1, hn1, hm1, z1, lz1⟩ := own_int_at (own_below O1.out B.out) j (by rw [HLL.out]; exact hlj) HLL.out.symm
      obtain ⟨b2, ca2, e2, hn2, hm2, z2, lz2⟩ := own_int_at (own_below O2.out B.out) j (by rw [HLL.out]; exact hlj) HLL.out.symm
      simp only [Value.slice.injEq] at e1 e2
      obtain ⟨rfl, -, rfl⟩ := e1
      obtain ⟨rfl, -, rfl⟩ := e2
      unfold maxLen at hm1 hm2
      generalize (slL l l.length).getD j 0 = V at *
      go_wp2_with fail
      go_quiet (fail)
      go_wp2_with fail
      go_roundw
      case rel => exact ⟨j + 1, by omega, by go_num, below_drewNr' B.out _⟩
      case measure => simp [intOf]; omega
     ·go_wp2_with (go_at_call 31; refine (HA.out _).mono ?_; rintro e w5 ⟨rfl, hb5⟩)
      go_ret
      exact ⟨rfl, B2.out.trans ((B.out.trans (hb5.mono B.out.size)).mono B2.out.size)⟩
theorem IrrunPlaces_x (l : List Sl) (v : Value) (w : World) (_ : ∀ s ∈ l, SlOk s) (hv : RdSls w v l) :
  Calls Try.prog 10 #[v] w fun e w' => e = .returned (.bool true) ∧ Below w.heap.size w w' := IrrunPlaces_w l v w hv
end Go.Proofs.Ytedihiodmgnlpaa
