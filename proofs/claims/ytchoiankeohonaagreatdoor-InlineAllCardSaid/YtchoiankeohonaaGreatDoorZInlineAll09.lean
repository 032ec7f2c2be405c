/-
 The contract of Fn.
-/
import Derived.Test.YtchoiankeohonaaGreatDoorZInlineAll08
import Derived.Test.YtchoiankeohonaaGreatDoorZInlineAll04
set_option linter.all false
namespace Go.Proofs.YtchoiankeohonaaGreatDoor
open Go.ChangeShapes Go.WideShapes Go.ChangeAt Go.RowKit
set_option maxHeartbeats 4000000
set_option linter.unusedVariables false
set_option maxRecDepth 20000

def bitF (b : Bool) : Int := if b = true then 1 else 0
/-- a function of words -/
def fnF (fn a b : Int) : Int :=
 if fn = 1 then (a + b) % 4294967296 else if fn = 2 then (a - b) % 4294967296 else if fn = 3 then (a * b) % 4294967296 else if fn = 4 then divS a b else if fn = 5 then remS a b
 else if fn = 6 then bits .and .u32 a b else if fn = 7 then bits .or .u32 a b else if fn = 8 then bits .xor .u32 a b else if fn = 9 then shl32 a b else if fn = 10 then sar32 a b
 else if fn = 11 then bitF (a == b) else if fn = 12 then bitF (a != b) else if fn = 13 then lessS a b else if fn = 14 then lessS b a else if fn = 15 then 1 - lessS b a else if fn = 16 then 1 - lessS a b
 else if fn = 17 then (-a) % 4294967296 else if fn = 18 then bits .xor .u32 IntKind.u32.max a else if fn = 19 then bitF (a == 0) else 0
theorem bitf_c (b : Bool) (w : World) : Calls Tryz.prog 86 #[.bool b] w fun e w' => e = .returned (.int .u32 (bitF b)) ∧ w = w' := bit_c b w
theorem fn_c (fn a b : Int) (w : World) (h : 0 ≤ a) (h' : a < 4294967296) (h1 : 0 ≤ b) (h1' : b < 4294967296) :
  Calls Tryz.prog 59 #[.int .i64 fn, .int .u32 a, .int .u32 b] w fun e w' => e = .returned (.int .u32 (fnF fn a b)) ∧ w = w' := by
 have C1 := Lib.hid (fun w => add_c a b w)
 have C2 := Lib.hid (fun x y w => sub_c x y w)
 have C3 := Lib.hid (fun w => mul_c a b w)
 have C4 := Lib.hid (fun w => div_c a b w h h' h1 h1')
 have C5 := Lib.hid (fun w => rem_c a b w h h' h1 h1')
 have C9 := Lib.hid (fun w => left_c a b w h h' h1 h1')
 have C10 := Lib.hid (fun w => rights_c a b w h h' h1 h1')
 have CL1 := Lib.hid (fun w => less_c a b w h h' h1 h1')
 have CL2 := Lib.hid (fun w => less_c b a w h1 h1' h h')
 have CB := Lib.hid (fun x w => bitf_c x w)
 have L1 : 0 ≤ lessS a b ∧ lessS a b ≤ 1 := by unfold lessS; split <;> simp
 have L2 : 0 ≤ lessS b a ∧ lessS b a ≤ 1 := by unfold lessS; split <;> simp
 obtain ⟨l1, l2⟩ := L1
 obtain ⟨l3, l4⟩ := L2
 by_cases hi : 1 ≤ fn ∧ fn ≤ 19
 ·have hc : Hid (fn = 1 ∨ fn = 2 ∨ fn = 3 ∨ fn = 4 ∨ fn = 5 ∨ fn = 6 ∨ fn = 7 ∨ fn = 8 ∨ fn = 9 ∨ fn = 10 ∨ fn = 11 ∨ fn = 12 ∨ fn = 13 ∨ fn = 14 ∨ fn = 15 ∨ fn = 16 ∨ fn = 17 ∨ fn = 18 ∨ fn = 19) := show _ ∨ _ by omega
  clear hi
  have hc' := hc.out
  clear hc
  rcases hc' with rfl | rfl | rfl | rfl | rfl | rfl | rfl | rfl | rfl | rfl | rfl | rfl | rfl | rfl | rfl | rfl | rfl | rfl | rfl
  ·have HF : Hid (fnF 1 a b = (a + b) % 4294967296) := show _ = _ by simp [fnF]
   go_enter Tryz.func59, Tryz.ntmps59
   go_wp2_with (first | (go_at_call 79; refine (C1.out _).mono ?_; rintro e w1 ⟨rfl, rfl⟩) | (go_at_call 80; refine (C2.out _ _ _).mono ?_; rintro e w1 ⟨rfl, rfl⟩) | (go_at_call 81; refine (C3.out _).mono ?_; rintro e w1 ⟨rfl, rfl⟩) | (go_at_call 82; refine (C4.out _).mono ?_; rintro e w1 ⟨rfl, rfl⟩) | (go_at_call 83; refine (C5.out _).mono ?_; rintro e w1 ⟨rfl, rfl⟩) | (go_at_call 84; refine (C9.out _).mono ?_; rintro e w1 ⟨rfl, rfl⟩) | (go_at_call 85; refine (C10.out _).mono ?_; rintro e w1 ⟨rfl, rfl⟩) | (go_at_call 86; refine (CB.out _ _).mono ?_; rintro e w1 ⟨rfl, rfl⟩) | (go_at_call 87; refine (CL1.out _).mono ?_; rintro e w1 ⟨rfl, rfl⟩))
   go_ret
   exact ⟨by rw [HF.out]; rfl, rfl⟩
  ·have HF : Hid (fnF 2 a b = (a - b) % 4294967296) := show _ = _ by simp [fnF]
   go_enter Tryz.func59, Tryz.ntmps59
   go_wp2_with (first | (go_at_call 79; refine (C1.out _).mono ?_; rintro e w1 ⟨rfl, rfl⟩) | (go_at_call 80; refine (C2.out _ _ _).mono ?_; rintro e w1 ⟨rfl, rfl⟩) | (go_at_call 81; refine (C3.out _).mono ?_; rintro e w1 ⟨rfl, rfl⟩) | (go_at_call 82; refine (C4.out _).mono ?_; rintro e w1 ⟨rfl, rfl⟩) | (go_at_call 83; refine (C5.out _).mono ?_; rintro e w1 ⟨rfl, rfl⟩) | (go_at_call 84; refine (C9.out _).mono ?_; rintro e w1 ⟨rfl, rfl⟩) | (go_at_call 85; refine (C10.out _).mono ?_; rintro e w1 ⟨rfl, rfl⟩) | (go_at_call 86; refine (CB.out _ _).mono ?_; rintro e w1 ⟨rfl, rfl⟩) | (go_at_call 87; refine (CL1.out _).mono ?_; rintro e w1 ⟨rfl, rfl⟩))
   go_ret
   exact ⟨by rw [HF.out]; rfl, rfl⟩
  ·have HF : Hid (fnF 3 a b = (a * b) % 4294967296) := show _ = _ by simp [fnF]
   go_enter Tryz.func59, Tryz.ntmps59
   go_wp2_with (first | (go_at_call 79; refine (C1.out _).mono ?_; rintro e w1 ⟨rfl, rfl⟩) | (go_at_call 80; refine (C2.out _ _ _).mono ?_; rintro e w1 ⟨rfl, rfl⟩) | (go_at_call 81; refine (C3.out _).mono ?_; rintro e w1 ⟨rfl, rfl⟩) | (go_at_call 82; refine (C4.out _).mono ?_; rintro e w1 ⟨rfl, rfl⟩) | (go_at_call 83; refine (C5.out _).mono ?_; rintro e w1 ⟨rfl, rfl⟩) | (go_at_call 84; refine (C9.out _).mono ?_; rintro e w1 ⟨rfl, rfl⟩) | (go_at_call 85; refine (C10.out _).mono ?_; rintro e w1 ⟨rfl, rfl⟩) | (go_at_call 86; refine (CB.out _ _).mono ?_; rintro e w1 ⟨rfl, rfl⟩) | (go_at_call 87; refine (CL1.out _).mono ?_; rintro e w1 ⟨rfl, rfl⟩))
   go_ret
   exact ⟨by rw [HF.out]; rfl, rfl⟩
  ·have HF : Hid (fnF 4 a b = divS a b) := show _ = _ by simp [fnF]
   go_enter Tryz.func59, Tryz.ntmps59
   go_wp2_with (first | (go_at_call 79; refine (C1.out _).mono ?_; rintro e w1 ⟨rfl, rfl⟩) | (go_at_call 80; refine (C2.out _ _ _).mono ?_; rintro e w1 ⟨rfl, rfl⟩) | (go_at_call 81; refine (C3.out _).mono ?_; rintro e w1 ⟨rfl, rfl⟩) | (go_at_call 82; refine (C4.out _).mono ?_; rintro e w1 ⟨rfl, rfl⟩) | (go_at_call 83; refine (C5.out _).mono ?_; rintro e w1 ⟨rfl, rfl⟩) | (go_at_call 84; refine (C9.out _).mono ?_; rintro e w1 ⟨rfl, rfl⟩) | (go_at_call 85; refine (C10.out _).mono ?_; rintro e w1 ⟨rfl, rfl⟩) | (go_at_call 86; refine (CB.out _ _).mono ?_; rintro e w1 ⟨rfl, rfl⟩) | (go_at_call 87; refine (CL1.out _).mono ?_; rintro e w1 ⟨rfl, rfl⟩))
   go_ret
   exact ⟨by rw [HF.out]; rfl, rfl⟩
  ·have HF : Hid (fnF 5 a b = remS a b) := show _ = _ by simp [fnF]
   go_enter Tryz.func59, Tryz.ntmps59
   go_wp2_with (first | (go_at_call 79; refine (C1.out _).mono ?_; rintro e w1 ⟨rfl, rfl⟩) | (go_at_call 80; refine (C2.out _ _ _).mono ?_; rintro e w1 ⟨rfl, rfl⟩) | (go_at_call 81; refine (C3.out _).mono ?_; rintro e w1 ⟨rfl, rfl⟩) | (go_at_call 82; refine (C4.out _).mono ?_; rintro e w1 ⟨rfl, rfl⟩) | (go_at_call 83; refine (C5.out _).mono ?_; rintro e w1 ⟨rfl, rfl⟩) | (go_at_call 84; refine (C9.out _).mono ?_; rintro e w1 ⟨rfl, rfl⟩) | (go_at_call 85; refine (C10.out _).mono ?_; rintro e w1 ⟨rfl, rfl⟩) | (go_at_call 86; refine (CB.out _ _).mono ?_; rintro e w1 ⟨rfl, rfl⟩) | (go_at_call 87; refine (CL1.out _).mono ?_; rintro e w1 ⟨rfl, rfl⟩))
   go_ret
   exact ⟨by rw [HF.out]; rfl, rfl⟩
  ·have HF : Hid (fnF 6 a b = bits .and .u32 a b) := show _ = _ by simp [fnF]
   go_enter Tryz.func59, Tryz.ntmps59
   go_wp2_with (first | (go_at_call 79; refine (C1.out _).mono ?_; rintro e w1 ⟨rfl, rfl⟩) | (go_at_call 80; refine (C2.out _ _ _).mono ?_; rintro e w1 ⟨rfl, rfl⟩) | (go_at_call 81; refine (C3.out _).mono ?_; rintro e w1 ⟨rfl, rfl⟩) | (go_at_call 82; refine (C4.out _).mono ?_; rintro e w1 ⟨rfl, rfl⟩) | (go_at_call 83; refine (C5.out _).mono ?_; rintro e w1 ⟨rfl, rfl⟩) | (go_at_call 84; refine (C9.out _).mono ?_; rintro e w1 ⟨rfl, rfl⟩) | (go_at_call 85; refine (C10.out _).mono ?_; rintro e w1 ⟨rfl, rfl⟩) | (go_at_call 86; refine (CB.out _ _).mono ?_; rintro e w1 ⟨rfl, rfl⟩) | (go_at_call 87; refine (CL1.out _).mono ?_; rintro e w1 ⟨rfl, rfl⟩))
   go_ret
   exact ⟨by rw [HF.out]; rfl, rfl⟩
  ·have HF : Hid (fnF 7 a b = bits .or .u32 a b) := show _ = _ by simp [fnF]
   go_enter Tryz.func59, Tryz.ntmps59
   go_wp2_with (first | (go_at_call 79; refine (C1.out _).mono ?_; rintro e w1 ⟨rfl, rfl⟩) | (go_at_call 80; refine (C2.out _ _ _).mono ?_; rintro e w1 ⟨rfl, rfl⟩) | (go_at_call 81; refine (C3.out _).mono ?_; rintro e w1 ⟨rfl, rfl⟩) | (go_at_call 82; refine (C4.out _).mono ?_; rintro e w1 ⟨rfl, rfl⟩) | (go_at_call 83; refine (C5.out _).mono ?_; rintro e w1 ⟨rfl, rfl⟩) | (go_at_call 84; refine (C9.out _).mono ?_; rintro e w1 ⟨rfl, rfl⟩) | (go_at_call 85; refine (C10.out _).mono ?_; rintro e w1 ⟨rfl, rfl⟩) | (go_at_call 86; refine (CB.out _ _).mono ?_; rintro e w1 ⟨rfl, rfl⟩) | (go_at_call 87; refine (CL1.out _).mono ?_; rintro e w1 ⟨rfl, rfl⟩))
   go_ret
   exact ⟨by rw [HF.out]; rfl, rfl⟩
  ·have HF : Hid (fnF 8 a b = bits .xor .u32 a b) := show _ = _ by simp [fnF]
   go_enter Tryz.func59, Tryz.ntmps59
   go_wp2_with (first | (go_at_call 79; refine (C1.out _).mono ?_; rintro e w1 ⟨rfl, rfl⟩) | (go_at_call 80; refine (C2.out _ _ _).mono ?_; rintro e w1 ⟨rfl, rfl⟩) | (go_at_call 81; refine (C3.out _).mono ?_; rintro e w1 ⟨rfl, rfl⟩) | (go_at_call 82; refine (C4.out _).mono ?_; rintro e w1 ⟨rfl, rfl⟩) | (go_at_call 83; refine (C5.out _).mono ?_; rintro e w1 ⟨rfl, rfl⟩) | (go_at_call 84; refine (C9.out _).mono ?_; rintro e w1 ⟨rfl, rfl⟩) | (go_at_call 85; refine (C10.out _).mono ?_; rintro e w1 ⟨rfl, rfl⟩) | (go_at_call 86; refine (CB.out _ _).mono ?_; rintro e w1 ⟨rfl, rfl⟩) | (go_at_call 87; refine (CL1.out _).mono ?_; rintro e w1 ⟨rfl, rfl⟩))
   go_ret
   exact ⟨by rw [HF.out]; rfl, rfl⟩
  ·have HF : Hid (fnF 9 a b = shl32 a b) := show _ = _ by simp [fnF]
   go_enter Tryz.func59, Tryz.ntmps59
   go_wp2_with (first | (go_at_call 79; refine (C1.out _).mono ?_; rintro e w1 ⟨rfl, rfl⟩) | (go_at_call 80; refine (C2.out _ _ _).mono ?_; rintro e w1 ⟨rfl, rfl⟩) | (go_at_call 81; refine (C3.out _).mono ?_; rintro e w1 ⟨rfl, rfl⟩) | (go_at_call 82; refine (C4.out _).mono ?_; rintro e w1 ⟨rfl, rfl⟩) | (go_at_call 83; refine (C5.out _).mono ?_; rintro e w1 ⟨rfl, rfl⟩) | (go_at_call 84; refine (C9.out _).mono ?_; rintro e w1 ⟨rfl, rfl⟩) | (go_at_call 85; refine (C10.out _).mono ?_; rintro e w1 ⟨rfl, rfl⟩) | (go_at_call 86; refine (CB.out _ _).mono ?_; rintro e w1 ⟨rfl, rfl⟩) | (go_at_call 87; refine (CL1.out _).mono ?_; rintro e w1 ⟨rfl, rfl⟩))
   go_ret
   exact ⟨by rw [HF.out]; rfl, rfl⟩
  ·have HF : Hid (fnF 10 a b = sar32 a b) := show _ = _ by simp [fnF]
   go_enter Tryz.func59, Tryz.ntmps59
   go_wp2_with (first | (go_at_call 79; refine (C1.out _).mono ?_; rintro e w1 ⟨rfl, rfl⟩) | (go_at_call 80; refine (C2.out _ _ _).mono ?_; rintro e w1 ⟨rfl, rfl⟩) | (go_at_call 81; refine (C3.out _).mono ?_; rintro e w1 ⟨rfl, rfl⟩) | (go_at_call 82; refine (C4.out _).mono ?_; rintro e w1 ⟨rfl, rfl⟩) | (go_at_call 83; refine (C5.out _).mono ?_; rintro e w1 ⟨rfl, rfl⟩) | (go_at_call 84; refine (C9.out _).mono ?_; rintro e w1 ⟨rfl, rfl⟩) | (go_at_call 85; refine (C10.out _).mono ?_; rintro e w1 ⟨rfl, rfl⟩) | (go_at_call 86; refine (CB.out _ _).mono ?_; rintro e w1 ⟨rfl, rfl⟩) | (go_at_call 87; refine (CL1.out _).mono ?_; rintro e w1 ⟨rfl, rfl⟩))
   go_ret
   exact ⟨by rw [HF.out]; rfl, rfl⟩
  ·have HF : Hid (fnF 11 a b = bitF (a == b)) := show _ = _ by simp [fnF]
   go_enter Tryz.func59, Tryz.ntmps59
   go_wp2_with (first | (go_at_call 79; refine (C1.out _).mono ?_; rintro e w1 ⟨rfl, rfl⟩) | (go_at_call 80; refine (C2.out _ _ _).mono ?_; rintro e w1 ⟨rfl, rfl⟩) | (go_at_call 81; refine (C3.out _).mono ?_; rintro e w1 ⟨rfl, rfl⟩) | (go_at_call 82; refine (C4.out _).mono ?_; rintro e w1 ⟨rfl, rfl⟩) | (go_at_call 83; refine (C5.out _).mono ?_; rintro e w1 ⟨rfl, rfl⟩) | (go_at_call 84; refine (C9.out _).mono ?_; rintro e w1 ⟨rfl, rfl⟩) | (go_at_call 85; refine (C10.out _).mono ?_; rintro e w1 ⟨rfl, rfl⟩) | (go_at_call 86; refine (CB.out _ _).mono ?_; rintro e w1 ⟨rfl, rfl⟩) | (go_at_call 87; refine (CL1.out _).mono ?_; rintro e w1 ⟨rfl, rfl⟩))
   go_ret
   exact ⟨by rw [HF.out]; rfl, rfl⟩
  ·have HF : Hid (fnF 12 a b = bitF (a != b)) := show _ = _ by simp [fnF]
   go_enter Tryz.func59, Tryz.ntmps59
   go_wp2_with (first | (go_at_call 79; refine (C1.out _).mono ?_; rintro e w1 ⟨rfl, rfl⟩) | (go_at_call 80; refine (C2.out _ _ _).mono ?_; rintro e w1 ⟨rfl, rfl⟩) | (go_at_call 81; refine (C3.out _).mono ?_; rintro e w1 ⟨rfl, rfl⟩) | (go_at_call 82; refine (C4.out _).mono ?_; rintro e w1 ⟨rfl, rfl⟩) | (go_at_call 83; refine (C5.out _).mono ?_; rintro e w1 ⟨rfl, rfl⟩) | (go_at_call 84; refine (C9.out _).mono ?_; rintro e w1 ⟨rfl, rfl⟩) | (go_at_call 85; refine (C10.out _).mono ?_; rintro e w1 ⟨rfl, rfl⟩) | (go_at_call 86; refine (CB.out _ _).mono ?_; rintro e w1 ⟨rfl, rfl⟩) | (go_at_call 87; refine (CL1.out _).mono ?_; rintro e w1 ⟨rfl, rfl⟩))
   go_ret
   exact ⟨by rw [HF.out]; rfl, rfl⟩
  ·have HF : Hid (fnF 13 a b = lessS a b) := show _ = _ by simp [fnF]
   generalize lessS a b = l at *
   go_enter Tryz.func59, Tryz.ntmps59
   go_wp2_with (first | (go_at_call 79; refine (C1.out _).mono ?_; rintro e w1 ⟨rfl, rfl⟩) | (go_at_call 80; refine (C2.out _ _ _).mono ?_; rintro e w1 ⟨rfl, rfl⟩) | (go_at_call 81; refine (C3.out _).mono ?_; rintro e w1 ⟨rfl, rfl⟩) | (go_at_call 82; refine (C4.out _).mono ?_; rintro e w1 ⟨rfl, rfl⟩) | (go_at_call 83; refine (C5.out _).mono ?_; rintro e w1 ⟨rfl, rfl⟩) | (go_at_call 84; refine (C9.out _).mono ?_; rintro e w1 ⟨rfl, rfl⟩) | (go_at_call 85; refine (C10.out _).mono ?_; rintro e w1 ⟨rfl, rfl⟩) | (go_at_call 86; refine (CB.out _ _).mono ?_; rintro e w1 ⟨rfl, rfl⟩) | (go_at_call 87; refine (CL1.out _).mono ?_; rintro e w1 ⟨rfl, rfl⟩))
   go_ret
   exact ⟨by rw [HF.out]; rfl, rfl⟩
  ·have HF : Hid (fnF 14 a b = lessS b a) := show _ = _ by simp [fnF]
   generalize lessS b a = l at *
   go_enter Tryz.func59, Tryz.ntmps59
   go_wp2_with (first | (go_at_call 79; refine (C1.out _).mono ?_; rintro e w1 ⟨rfl, rfl⟩) | (go_at_call 80; refine (C2.out _ _ _).mono ?_; rintro e w1 ⟨rfl, rfl⟩) | (go_at_call 81; refine (C3.out _).mono ?_; rintro e w1 ⟨rfl, rfl⟩) | (go_at_call 82; refine (C4.out _).mono ?_; rintro e w1 ⟨rfl, rfl⟩) | (go_at_call 83; refine (C5.out _).mono ?_; rintro e w1 ⟨rfl, rfl⟩) | (go_at_call 84; refine (C9.out _).mono ?_; rintro e w1 ⟨rfl, rfl⟩) | (go_at_call 85; refine (C10.out _).mono ?_; rintro e w1 ⟨rfl, rfl⟩) | (go_at_call 86; refine (CB.out _ _).mono ?_; rintro e w1 ⟨rfl, rfl⟩) | (go_at_call 87; refine (CL2.out _).mono ?_; rintro e w1 ⟨rfl, rfl⟩))
   go_ret
   exact ⟨by rw [HF.out]; rfl, rfl⟩
  ·have HF : Hid (fnF 15 a b = 1 - lessS b a) := show _ = _ by simp [fnF]
   generalize lessS b a = l at *
   go_enter Tryz.func59, Tryz.ntmps59
   go_wp2_with (first | (go_at_call 79; refine (C1.out _).mono ?_; rintro e w1 ⟨rfl, rfl⟩) | (go_at_call 80; refine (C2.out _ _ _).mono ?_; rintro e w1 ⟨rfl, rfl⟩) | (go_at_call 81; refine (C3.out _).mono ?_; rintro e w1 ⟨rfl, rfl⟩) | (go_at_call 82; refine (C4.out _).mono ?_; rintro e w1 ⟨rfl, rfl⟩) | (go_at_call 83; refine (C5.out _).mono ?_; rintro e w1 ⟨rfl, rfl⟩) | (go_at_call 84; refine (C9.out _).mono ?_; rintro e w1 ⟨rfl, rfl⟩) | (go_at_call 85; refine (C10.out _).mono ?_; rintro e w1 ⟨rfl, rfl⟩) | (go_at_call 86; refine (CB.out _ _).mono ?_; rintro e w1 ⟨rfl, rfl⟩) | (go_at_call 87; refine (CL2.out _).mono ?_; rintro e w1 ⟨rfl, rfl⟩))
   go_ret
   exact ⟨by rw [HF.out]; rfl, rfl⟩
  ·have HF : Hid (fnF 16 a b = 1 - lessS a b) := show _ = _ by simp [fnF]
   generalize lessS a b = l at *
   go_enter Tryz.func59, Tryz.ntmps59
   go_wp2_with (first | (go_at_call 79; refine (C1.out _).mono ?_; rintro e w1 ⟨rfl, rfl⟩) | (go_at_call 80; refine (C2.out _ _ _).mono ?_; rintro e w1 ⟨rfl, rfl⟩) | (go_at_call 81; refine (C3.out _).mono ?_; rintro e w1 ⟨rfl, rfl⟩) | (go_at_call 82; refine (C4.out _).mono ?_; rintro e w1 ⟨rfl, rfl⟩) | (go_at_call 83; refine (C5.out _).mono ?_; rintro e w1 ⟨rfl, rfl⟩) | (go_at_call 84; refine (C9.out _).mono ?_; rintro e w1 ⟨rfl, rfl⟩) | (go_at_call 85; refine (C10.out _).mono ?_; rintro e w1 ⟨rfl, rfl⟩) | (go_at_call 86; refine (CB.out _ _).mono ?_; rintro e w1 ⟨rfl, rfl⟩) | (go_at_call 87; refine (CL1.out _).mono ?_; rintro e w1 ⟨rfl, rfl⟩))
   go_ret
   exact ⟨by rw [HF.out]; rfl, rfl⟩
  ·have HF : Hid (fnF 17 a b = (-a) % 4294967296) := show _ = _ by simp [fnF]
   go_enter Tryz.func59, Tryz.ntmps59
   go_wp2_with (first | (go_at_call 79; refine (C1.out _).mono ?_; rintro e w1 ⟨rfl, rfl⟩) | (go_at_call 80; refine (C2.out _ _ _).mono ?_; rintro e w1 ⟨rfl, rfl⟩) | (go_at_call 81; refine (C3.out _).mono ?_; rintro e w1 ⟨rfl, rfl⟩) | (go_at_call 82; refine (C4.out _).mono ?_; rintro e w1 ⟨rfl, rfl⟩) | (go_at_call 83; refine (C5.out _).mono ?_; rintro e w1 ⟨rfl, rfl⟩) | (go_at_call 84; refine (C9.out _).mono ?_; rintro e w1 ⟨rfl, rfl⟩) | (go_at_call 85; refine (C10.out _).mono ?_; rintro e w1 ⟨rfl, rfl⟩) | (go_at_call 86; refine (CB.out _ _).mono ?_; rintro e w1 ⟨rfl, rfl⟩) | (go_at_call 87; refine (CL1.out _).mono ?_; rintro e w1 ⟨rfl, rfl⟩))
   go_ret
   exact ⟨by rw [HF.out]; rfl, rfl⟩
  ·have HF : Hid (fnF 18 a b = bits .xor .u32 IntKind.u32.max a) := show _ = _ by simp [fnF]
   go_enter Tryz.func59, Tryz.ntmps59
   go_wp2_with (first | (go_at_call 79; refine (C1.out _).mono ?_; rintro e w1 ⟨rfl, rfl⟩) | (go_at_call 80; refine (C2.out _ _ _).mono ?_; rintro e w1 ⟨rfl, rfl⟩) | (go_at_call 81; refine (C3.out _).mono ?_; rintro e w1 ⟨rfl, rfl⟩) | (go_at_call 82; refine (C4.out _).mono ?_; rintro e w1 ⟨rfl, rfl⟩) | (go_at_call 83; refine (C5.out _).mono ?_; rintro e w1 ⟨rfl, rfl⟩) | (go_at_call 84; refine (C9.out _).mono ?_; rintro e w1 ⟨rfl, rfl⟩) | (go_at_call 85; refine (C10.out _).mono ?_; rintro e w1 ⟨rfl, rfl⟩) | (go_at_call 86; refine (CB.out _ _).mono ?_; rintro e w1 ⟨rfl, rfl⟩) | (go_at_call 87; refine (CL1.out _).mono ?_; rintro e w1 ⟨rfl, rfl⟩))
   go_ret
   exact ⟨by rw [HF.out]; rfl, rfl⟩
  ·have HF : Hid (fnF 19 a b = bitF (a == 0)) := show _ = _ by simp [fnF]
   go_enter Tryz.func59, Tryz.ntmps59
   go_wp2_with (first | (go_at_call 79; refine (C1.out _).mono ?_; rintro e w1 ⟨rfl, rfl⟩) | (go_at_call 80; refine (C2.out _ _ _).mono ?_; rintro e w1 ⟨rfl, rfl⟩) | (go_at_call 81; refine (C3.out _).mono ?_; rintro e w1 ⟨rfl, rfl⟩) | (go_at_call 82; refine (C4.out _).mono ?_; rintro e w1 ⟨rfl, rfl⟩) | (go_at_call 83; refine (C5.out _).mono ?_; rintro e w1 ⟨rfl, rfl⟩) | (go_at_call 84; refine (C9.out _).mono ?_; rintro e w1 ⟨rfl, rfl⟩) | (go_at_call 85; refine (C10.out _).mono ?_; rintro e w1 ⟨rfl, rfl⟩) | (go_at_call 86; refine (CB.out _ _).mono ?_; rintro e w1 ⟨rfl, rfl⟩) | (go_at_call 87; refine (CL1.out _).mono ?_; rintro e w1 ⟨rfl, rfl⟩))
   go_ret
   exact ⟨by rw [HF.out]; rfl, rfl⟩
 ·have HF : Hid (fnF fn a b = 0) := show _ = _ by
   have hn : ∀ k : Int, 1 ≤ k → k ≤ 19 → fn ≠ k := fun k h1 h2 e => hi ⟨e ▸ h1, e ▸ h2⟩
   unfold fnF
   simp only [hn 1 (by omega) (by omega), hn 2 (by omega) (by omega), hn 3 (by omega) (by omega), hn 4 (by omega) (by omega), hn 5 (by omega) (by omega), hn 6 (by omega) (by omega), hn 7 (by omega) (by omega), hn 8 (by omega) (by omega), hn 9 (by omega) (by omega), hn 10 (by omega) (by omega), hn 11 (by omega) (by omega), hn 12 (by omega) (by omega), hn 13 (by omega) (by omega), hn 14 (by omega) (by omega), hn 15 (by omega) (by omega), hn 16 (by omega) (by omega), hn 17 (by omega) (by omega), hn 18 (by omega) (by omega), hn 19 (by omega) (by omega), if_false]
  have hn : ∀ k : Int, 1 ≤ k → k ≤ 19 → (fn == k) = false := fun k h1 h2 => by
   simp only [beq_eq_false_iff_ne]
   exact fun e => hi ⟨e ▸ h1, e ▸ h2⟩
  have e1 := hn 1 (by omega) (by omega)
  have e2 := hn 2 (by omega) (by omega)
  have e3 := hn 3 (by omega) (by omega)
  have e4 := hn 4 (by omega) (by omega)
  have e5 := hn 5 (by omega) (by omega)
  have e6 := hn 6 (by omega) (by omega)
  have e7 := hn 7 (by omega) (by omega)
  have e8 := hn 8 (by omega) (by omega)
  have e9 := hn 9 (by omega) (by omega)
  have e10 := hn 10 (by omega) (by omega)
  have e11 := hn 11 (by omega) (by omega)
  have e12 := hn 12 (by omega) (by omega)
  have e13 := hn 13 (by omega) (by omega)
  have e14 := hn 14 (by omega) (by omega)
  have e15 := hn 15 (by omega) (by omega)
  have e16 := hn 16 (by omega) (by omega)
  have e17 := hn 17 (by omega) (by omega)
  have e18 := hn 18 (by omega) (by omega)
  have e19 := hn 19 (by omega) (by omega)
  clear hn hi
  go_enter Tryz.func59, Tryz.ntmps59
  go_wp2_with (first | (go_at_call 79; refine (C1.out _).mono ?_; rintro e w1 ⟨rfl, rfl⟩) | (go_at_call 80; refine (C2.out _ _ _).mono ?_; rintro e w1 ⟨rfl, rfl⟩) | (go_at_call 81; refine (C3.out _).mono ?_; rintro e w1 ⟨rfl, rfl⟩) | (go_at_call 82; refine (C4.out _).mono ?_; rintro e w1 ⟨rfl, rfl⟩) | (go_at_call 83; refine (C5.out _).mono ?_; rintro e w1 ⟨rfl, rfl⟩) | (go_at_call 84; refine (C9.out _).mono ?_; rintro e w1 ⟨rfl, rfl⟩) | (go_at_call 85; refine (C10.out _).mono ?_; rintro e w1 ⟨rfl, rfl⟩) | (go_at_call 86; refine (CB.out _ _).mono ?_; rintro e w1 ⟨rfl, rfl⟩) | (go_at_call 87; refine (CL1.out _).mono ?_; rintro e w1 ⟨rfl, rfl⟩))
  go_ret
  exact ⟨by rw [HF.out]; rfl, rfl⟩
end Go.Proofs.YtchoiankeohonaaGreatDoor
