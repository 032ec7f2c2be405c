/-
  The device's functions of words: sizes, branches, what an instruction makes of two words; the document's.
-/
import Derived.Test.YtppmjdljnacpgaaV1
import Derived.Test.YtppmjdljnacpgaaW2
set_option linter.all false
namespace Go.Proofs.Ytppmjdljnacpgaa
open Go.ChangeShapes Go.WideShapes Go.ChangeAt Go.RowKit
set_option maxHeartbeats 4000000
set_option linter.unusedVariables false
set_option maxRecDepth 20000

theorem dsize_c (op : Int) (w : World) (h : 11 ≤ op) (h' : op ≤ 18) : Calls Try.prog 62 #[.int .i64 op] w fun e w' => e = .returned (.int .i64 (sizeP op)) ∧ w = w' := by
  have hc : op = 11 ∨ op = 12 ∨ op = 13 ∨ op = 14 ∨ op = 15 ∨ op = 16 ∨ op = 17 ∨ op = 18 := by omega
  rcases hc with rfl | rfl | rfl | rfl | rfl | rfl | rfl | rfl
  all_goals
    go_enter Try.func62, Try.ntmps62
    go_wp2_with fail
    go_ret
    exact ⟨rfl, rfl⟩
theorem branches_c (op a b : Int) (w : World) (h : 5 ≤ op) (h' : op ≤ 10) (ha : 0 ≤ a) (ha' : a < 4294967296) (hb : 0 ≤ b) (hb' : b < 4294967296) :
    Calls Try.prog 56 #[.int .i64 op, .int .u32 a, .int .u32 b] w fun e w' => e = .returned (.bool (takenP op a b)) ∧ w = w' := by
  have CL := Lib.hid (fun w => less_c a b w ha ha' hb hb')
  have CU := Lib.hid (fun w => lessu_c a b w ha ha' hb hb')
  have hc : op = 5 ∨ op = 6 ∨ op = 7 ∨ op = 8 ∨ op = 9 ∨ op = 10 := by omega
  rcases hc with rfl | rfl | rfl | rfl | rfl | rfl
  all_goals
    go_enter Try.func56, Try.ntmps56
    go_wp2_with (first | (go_at_call 60; (with_reducible refine (CL.out _).mono ?_); rintro e w1 ⟨rfl, rfl⟩) | (go_at_call 61; (with_reducible refine (CU.out _).mono ?_); rintro e w1 ⟨rfl, rfl⟩))
    go_ret
    exact ⟨rfl, rfl⟩
theorem product_c (op a b : Int) (w : World) (h : 38 ≤ op) (h' : op ≤ 45) (ha : 0 ≤ a) (ha' : a < 4294967296) (hb : 0 ≤ b) (hb' : b < 4294967296) :
    Calls Try.prog 70 #[.int .i64 op, .int .u32 a, .int .u32 b] w fun e w' => e = .returned (.int .u32 (reckP op a b)) ∧ w = w' := by
  have C1 := Lib.hid (fun w => mul_c a b w)
  have C2 := Lib.hid (fun w => high_c a b w ha ha' hb hb')
  have C3 := Lib.hid (fun w => highsu_c a b w ha ha' hb hb')
  have C4 := Lib.hid (fun w => highu_c a b w ha ha' hb hb')
  have C5 := Lib.hid (fun w => div_c a b w ha ha' hb hb')
  have C6 := Lib.hid (fun w => divu_c a b w ha ha' hb hb')
  have C7 := Lib.hid (fun w => rem_c a b w ha ha' hb hb')
  have C8 := Lib.hid (fun w => remu_c a b w ha ha' hb hb')
  have hc : op = 38 ∨ op = 39 ∨ op = 40 ∨ op = 41 ∨ op = 42 ∨ op = 43 ∨ op = 44 ∨ op = 45 := by omega
  rcases hc with rfl | rfl | rfl | rfl | rfl | rfl | rfl | rfl
  all_goals
    go_enter Try.func70, Try.ntmps70
    go_wp2_with (first | (go_at_call 72; (with_reducible refine (C1.out _).mono ?_); rintro e w1 ⟨rfl, rfl⟩) | (go_at_call 73; (with_reducible refine (C2.out _).mono ?_); rintro e w1 ⟨rfl, rfl⟩) | (go_at_call 74; (with_reducible refine (C3.out _).mono ?_); rintro e w1 ⟨rfl, rfl⟩) | (go_at_call 75; (with_reducible refine (C4.out _).mono ?_); rintro e w1 ⟨rfl, rfl⟩) | (go_at_call 76; (with_reducible refine (C5.out _).mono ?_); rintro e w1 ⟨rfl, rfl⟩) | (go_at_call 77; (with_reducible refine (C6.out _).mono ?_); rintro e w1 ⟨rfl, rfl⟩) | (go_at_call 78; (with_reducible refine (C7.out _).mono ?_); rintro e w1 ⟨rfl, rfl⟩) | (go_at_call 79; (with_reducible refine (C8.out _).mono ?_); rintro e w1 ⟨rfl, rfl⟩))
    go_ret
    exact ⟨rfl, rfl⟩
end Go.Proofs.Ytppmjdljnacpgaa
