/-
 Outcomes compared; the worked example of layer 14.; The document's functions of words and places.
-/
import Derived.Test.YtkhfddodmjnecaaZFoldConsts16
import Derived.Test.YtkhfddodmjnecaaZFoldConsts09
import Derived.Test.YtkhfddodmjnecaaZFoldConsts04

set_option linter.all false
namespace Go.Proofs.Ytkhfddodmjnecaa
open Go.ChangeShapes Go.WideShapes Go.ChangeAt Go.RowKit
set_option maxHeartbeats 8000000
set_option linter.unusedVariables false
set_option maxRecDepth 100000

end Go.Proofs.Ytkhfddodmjnecaa

set_option linter.all false
namespace Go.Proofs.Ytkhfddodmjnecaa
open Go.ChangeShapes Go.WideShapes Go.ChangeAt Go.RowKit
set_option maxHeartbeats 8000000
set_option linter.unusedVariables false
set_option maxRecDepth 100000

theorem rtruth_c (b : Bool) (w : World) : Calls Try.prog 203 #[.bool b] w fun e w' => e = .returned (.int .u32 (bitF b)) ∧ w = w' := by
 cases b
 all_goals
  go_enter Try.func203, Try.ntmps203
  go_wp2
  go_ret
  exact ⟨rfl, rfl⟩
theorem not_xor (a : Int) (h : 0 ≤ a) (h' : a < 4294967296) : bits .xor .u32 IntKind.u32.max a = (4294967295 - a) % 4294967296 := by
 obtain ⟨x, rfl⟩ := Int.eq_ofNat_of_zero_le h
 have hx : x < 2 ^ 32 := by omega
 have e0 : bits .xor .u32 IntKind.u32.max (x : Int) = IntKind.u32.wrap (((BitVec.ofInt 32 4294967295 ^^^ BitVec.ofInt 32 (x : Int)).toNat : Nat) : Int) := rfl
 have e1 : (BitVec.ofInt 32 4294967295) = BitVec.allOnes 32 := by decide
 have e3 : (BitVec.allOnes 32 ^^^ BitVec.ofNat 32 x).toNat = 4294967295 - x := by
  rw [BitVec.allOnes_xor, BitVec.toNat_not, BitVec.toNat_ofNat, Nat.mod_eq_of_lt hx]
 rw [e0, e1, BitVec.ofInt_natCast, e3, IntKind.wrap_u32]
 omega
/-- the values among which the document chooses -/
def appL (a b : Int) : List Int := [0, (a + b) % 4294967296, (a - b) % 4294967296, (a * b) % 4294967296, divS a b, remS a b, bits .and .u32 a b, bits .or .u32 a b, bits .xor .u32 a b, shl32 a b, sar32 a b, bitF (sg a == sg b), bitF (sg a != sg b), bitF (decide (sg a < sg b)), bitF (decide (sg b < sg a)), bitF (decide (sg a ≤ sg b)), bitF (decide (sg b ≤ sg a)), (-a) % 4294967296, (4294967295 - a) % 4294967296, bitF (a == 0)]
theorem appL_fn (n : Nat) (a b : Int) (h : 0 ≤ a) (h' : a < 4294967296) (h1 : 0 ≤ b) (h1' : b < 4294967296) (hn : 1 ≤ n) (hn2 : n ≤ 19) : (appL a b).getD n 0 = fnF n a b := by
 have hc : n = 1 ∨ n = 2 ∨ n = 3 ∨ n = 4 ∨ n = 5 ∨ n = 6 ∨ n = 7 ∨ n = 8 ∨ n = 9 ∨ n = 10 ∨ n = 11 ∨ n = 12 ∨ n = 13 ∨ n = 14 ∨ n = 15 ∨ n = 16 ∨ n = 17 ∨ n = 18 ∨ n = 19 := by omega
 have hsg : (sg a == sg b) = (a == b) := by
  by_cases e : a = b
  ·subst e; simp
  ·rw [beq_eq_false_iff_ne.2 e, beq_eq_false_iff_ne.2 (fun h2 => e ((sg_inj a b h h' h1 h1').1 h2))]
 rcases hc with rfl | rfl | rfl | rfl | rfl | rfl | rfl | rfl | rfl | rfl | rfl | rfl | rfl | rfl | rfl | rfl | rfl | rfl | rfl
 ·show (a + b) % 4294967296 = fnF 1 a b
  simp [fnF]
 ·show (a - b) % 4294967296 = fnF 2 a b
  simp [fnF]
 ·show (a * b) % 4294967296 = fnF 3 a b
  simp [fnF]
 ·show divS a b = fnF 4 a b
  simp [fnF]
 ·show remS a b = fnF 5 a b
  simp [fnF]
 ·show bits .and .u32 a b = fnF 6 a b
  simp [fnF]
 ·show bits .or .u32 a b = fnF 7 a b
  simp [fnF]
 ·show bits .xor .u32 a b = fnF 8 a b
  simp [fnF]
 ·show shl32 a b = fnF 9 a b
  simp [fnF]
 ·show sar32 a b = fnF 10 a b
  simp [fnF]
 ·show bitF (sg a == sg b) = fnF 11 a b
  rw [hsg]; simp [fnF]
 ·show bitF (sg a != sg b) = fnF 12 a b
  rw [bne, hsg]; simp [fnF, bne]
 ·show bitF (decide (sg a < sg b)) = fnF 13 a b
  simp [fnF, bitF, lessS]
 ·show bitF (decide (sg b < sg a)) = fnF 14 a b
  simp [fnF, bitF, lessS]
 ·show bitF (decide (sg a ≤ sg b)) = fnF 15 a b
  simp [fnF, bitF, lessS]; split <;> split <;> omega
 ·show bitF (decide (sg b ≤ sg a)) = fnF 16 a b
  simp [fnF, bitF, lessS]; split <;> split <;> omega
 ·show (-a) % 4294967296 = fnF 17 a b
  simp [fnF]
 ·show (4294967295 - a) % 4294967296 = fnF 18 a b
  rw [← not_xor a h h']; simp [fnF]
 ·show bitF (a == 0) = fnF 19 a b
  simp [fnF]
theorem fnF_out (fn a b : Int) (h : ¬ (1 ≤ fn ∧ fn ≤ 19)) : fnF fn a b = 0 := by
 have hn : ∀ k : Int, 1 ≤ k → k ≤ 19 → fn ≠ k := fun k h1 h2 e => h ⟨e ▸ h1, e ▸ h2⟩
 unfold fnF
 simp only [hn 1 (by omega) (by omega), hn 2 (by omega) (by omega), hn 3 (by omega) (by omega), hn 4 (by omega) (by omega), hn 5 (by omega) (by omega), hn 6 (by omega) (by omega), hn 7 (by omega) (by omega), hn 8 (by omega) (by omega), hn 9 (by omega) (by omega), hn 10 (by omega) (by omega), hn 11 (by omega) (by omega), hn 12 (by omega) (by omega), hn 13 (by omega) (by omega), hn 14 (by omega) (by omega), hn 15 (by omega) (by omega), hn 16 (by omega) (by omega), hn 17 (by omega) (by omega), hn 18 (by omega) (by omega), hn 19 (by omega) (by omega), if_false]
theorem rapply_c (fn a b : Int) (w : World) (h4 : fn ≠ 4) (h5 : fn ≠ 5) (h : 0 ≤ a) (h' : a < 4294967296) (h1 : 0 ≤ b) (h1' : b < 4294967296) :
  Calls Try.prog 171 #[.int .i64 fn, .int .u32 a, .int .u32 b] w fun e w' => e = .returned (.tuple #[.int .u32 (fnF fn a b), .int .i64 (if 1 ≤ fn ∧ fn ≤ 19 then 0 else 1)]) ∧ Below w.heap.size w w' := by
 have HS1 := Lib.hid (fun w => rsigned_c a w h h')
 have HS2 := Lib.hid (fun w => rsigned_c b w h1 h1')
 have C1 := Lib.hid (fun w => radd_c a b w h h' h1 h1')
 have C2 := Lib.hid (fun w => rsub_c a b w h h' h1 h1')
 have C17 := Lib.hid (fun w => rsub_c 0 a w (by decide) (by decide) h h')
 have C18 := Lib.hid (fun w => rsub_c 4294967295 a w (by decide) (by decide) h h')
 have C3 := Lib.hid (fun w => rmul_c a b w h h' h1 h1')
 have C4 := Lib.hid (fun w => rdiv_c a b w h h' h1 h1')
 have C5 := Lib.hid (fun w => rrem_c a b w h h' h1 h1')
 have C9 := Lib.hid (fun w => rleft_c a b w h h' h1 h1')
 have C10 := Lib.hid (fun w => rrights_c a b w h h' h1 h1')
 have HL := Lib.hid (fun n hn hn2 => appL_fn n a b h h' h1 h1' hn hn2)
 have g4 : (fn == 4) = false := beq_eq_false_iff_ne.2 h4
 have g5 : (fn == 5) = false := beq_eq_false_iff_ne.2 h5
 clear h4 h5
 obtain ⟨E, hE⟩ : ∃ E : Int, (if 1 ≤ fn ∧ fn ≤ 19 then (0 : Int) else 1) = E := ⟨_, rfl⟩
 rw [hE]
 have HE := Lib.hid hE
 clear hE
 go_enter Try.func171, Try.ntmps171
 go_upto_region 5 with (first | (go_at_call 195; (with_reducible refine (HS1.out _).mono ?_); rintro e w1 ⟨rfl, rfl⟩) | (go_at_call 195; (with_reducible refine (HS2.out _).mono ?_); rintro e w1 ⟨rfl, rfl⟩) | (go_at_call 198; (with_reducible refine (C1.out _).mono ?_); rintro e w1 ⟨rfl, rfl⟩) | (go_at_call 199; (with_reducible refine (C2.out _).mono ?_); rintro e w1 ⟨rfl, rfl⟩) | (go_at_call 199; (with_reducible refine (C17.out _).mono ?_); rintro e w1 ⟨rfl, rfl⟩) | (go_at_call 199; (with_reducible refine (C18.out _).mono ?_); rintro e w1 ⟨rfl, rfl⟩) | (go_at_call 200; (with_reducible refine (C3.out _).mono ?_); rintro e w1 ⟨rfl, rfl⟩) | (go_at_call 169; (with_reducible refine (C4.out _).mono ?_); rintro e w1 ⟨rfl, rfl⟩) | (go_at_call 170; (with_reducible refine (C5.out _).mono ?_); rintro e w1 ⟨rfl, rfl⟩) | (go_at_call 201; (with_reducible refine (C9.out _).mono ?_); rintro e w1 ⟨rfl, nq, rfl⟩) | (go_at_call 202; (with_reducible refine (C10.out _).mono ?_); rintro e w1 ⟨rfl, rfl⟩) | (go_at_call 203; (with_reducible refine (rtruth_c _ _).mono ?_); rintro e w1 ⟨rfl, rfl⟩))
 obtain ⟨W1, hW1⟩ : ∃ W1, W1 = (w.drewN nq).alloc (.cells #[.int .u32 (0), .int .u32 ((a + b) % 4294967296), .int .u32 ((a - b) % 4294967296), .int .u32 (a * b % 4294967296), .int .u32 (divS a b), .int .u32 (remS a b), .int .u32 (bits .and .u32 a b), .int .u32 (bits .or .u32 a b), .int .u32 (bits .xor .u32 a b), .int .u32 (shl32 a b), .int .u32 (sar32 a b), .int .u32 (bitF (sg a == sg b)), .int .u32 (bitF (sg a != sg b)), .int .u32 (bitF (decide (sg a < sg b))), .int .u32 (bitF (decide (sg b < sg a))), .int .u32 (bitF (decide (sg a ≤ sg b))), .int .u32 (bitF (decide (sg b ≤ sg a))), .int .u32 (-a % 4294967296), .int .u32 ((4294967295 - a) % 4294967296), .int .u32 (bitF (a == 0))] 36) := ⟨_, rfl⟩
 rw [← hW1]
 have HH : Hid (W1.heap[w.heap.size]? = some (.cells ((appL a b).map (Value.int .u32)).toArray 36 (0, 0))) := by
  show _ = _
  rw [hW1]; exact heap_alloc_new (w.drewN nq) _
 have HB : Hid (Below w.heap.size w W1) := by rw [hW1]; exact (show Below w.heap.size w (w.drewN nq) from ⟨rfl, rfl, rfl, Nat.le_refl _, fun _ _ => rfl⟩).trans (below_alloc (w.drewN nq) _)
 have hlb : w.heap.size < W1.heap.size := (Array.getElem?_eq_some_iff.1 HH.out).1
 clear hW1 HS1 HS2 C1 C2 C17 C18 C3 C4 C5 C9 C10
 by_cases hi : 1 ≤ fn ∧ fn ≤ 19
 ·have HE0 : Hid (E = 0) := by show _ = _; rw [← HE.out, if_pos hi]
  obtain ⟨hi1, hi2⟩ := hi
  obtain ⟨n, rfl⟩ := Int.eq_ofNat_of_zero_le (show 0 ≤ fn by omega)
  have hv := HL.out n (by omega) (by omega)
  have hc0 := cell_of_heap HH.out n
  have hc : W1.cell? ⟨w.heap.size, n, none⟩ = some (.int .u32 (fnF (n : Int) a b)) := by
   rw [hc0, ← hv]
   have hl : n < (appL a b).length := by show n < 20; omega
   simp [List.getD, hl]
  have k1 : decide ((n : Int) < 1) = false := decide_eq_false (by omega)
  have k2 : decide ((20 : Int) ≤ (n : Int)) = false := decide_eq_false (by omega)
  have hn20 : n < 20 := by omega
  have k3 : decide (20 ≤ n) = false := decide_eq_false (by omega)
  have k4 : decide (n < 1) = false := decide_eq_false (by omega)
  have k5 : decide (n = 0) = false := decide_eq_false (by omega)
  have k6 : 1 ≤ n := by omega
  clear hv hc0
  go_wp2_with fail
  go_ret2
  exact ⟨by rw [HE0.out]; rfl, HB.out⟩
 ·have HE1 : Hid (E = 1) := by show _ = _; rw [← HE.out, if_neg hi]
  have HF0 := Lib.hid (fnF_out fn a b hi)
  by_cases hi1 : fn < 1
  ·have k1 : decide (fn < 1) = true := decide_eq_true hi1
   clear hi
   go_wp2_with fail
   go_ret2
   exact ⟨by rw [HE1.out, HF0.out]; rfl, HB.out⟩
  ·have k1 : decide (fn < 1) = false := decide_eq_false hi1
   have k2 : decide ((20 : Int) ≤ fn) = true := decide_eq_true (by omega)
   clear hi
   go_wp2_with fail
   go_ret2
   exact ⟨by rw [HE1.out, HF0.out]; rfl, HB.out⟩
theorem rfn_c (fn a b : Int) (w : World) (h : 0 ≤ a) (h' : a < 4294967296) (h1 : 0 ≤ b) (h1' : b < 4294967296) :
  Calls Try.prog 147 #[.int .i64 fn, .int .u32 a, .int .u32 b] w fun e w' => e = .returned (.int .u32 (fnF fn a b)) ∧ Below w.heap.size w w' := by
 by_cases h4 : fn = 4
 ·have C4 := Lib.hid (fun w => rdiv_c a b w h h' h1 h1')
  have HF : Hid (fnF fn a b = divS a b) := show _ = _ by subst h4; simp [fnF]
  rw [HF.out]
  have g : (fn == 4) = true := beq_iff_eq.2 h4
  clear h4
  go_enter Try.func147, Try.ntmps147
  go_wp2_with (go_at_call 169; refine (C4.out _).mono ?_; rintro e w1 ⟨rfl, rfl⟩)
  go_ret
  exact ⟨rfl, Below.refl _ _⟩
 ·have g : (fn == 4) = false := beq_eq_false_iff_ne.2 h4
  by_cases h5 : fn = 5
  ·have C4 := Lib.hid (fun w => rrem_c a b w h h' h1 h1')
   have HF : Hid (fnF fn a b = remS a b) := show _ = _ by subst h5; simp [fnF]
   rw [HF.out]
   have g5 : (fn == 5) = true := beq_iff_eq.2 h5
   clear h5 h4
   go_enter Try.func147, Try.ntmps147
   go_wp2_with (go_at_call 170; refine (C4.out _).mono ?_; rintro e w1 ⟨rfl, rfl⟩)
   go_ret
   exact ⟨rfl, Below.refl _ _⟩
  ·have g5 : (fn == 5) = false := beq_eq_false_iff_ne.2 h5
   have CA := Lib.hid (fun w => rapply_c fn a b w h4 h5 h h' h1 h1')
   clear h4 h5
   by_cases hi : 1 ≤ fn ∧ fn ≤ 19
   ·rw [if_pos hi] at CA
    clear hi
    go_enter Try.func147, Try.ntmps147
    go_wp2_with (go_at_call 171; refine (CA.out _).mono ?_; rintro e w1 ⟨rfl, hb⟩)
    go_ret
    exact ⟨rfl, hb⟩
   ·rw [if_neg hi] at CA
    have HF := Lib.hid (fnF_out fn a b hi)
    clear hi
    go_enter Try.func147, Try.ntmps147
    go_wp2_with (go_at_call 171; refine (CA.out _).mono ?_; rintro e w1 ⟨rfl, hb⟩)
    go_ret
    exact ⟨by rw [HF.out]; rfl, hb⟩
end Go.Proofs.Ytkhfddodmjnecaa
