/-
  What an instruction makes of two words: the device's function.
-/
import Derived.Test.YtppmjdljnacpgaaV5a
import Derived.Test.YtppmjdljnacpgaaV5b
set_option linter.all false
namespace Go.Proofs.Ytppmjdljnacpgaa
open Go.ChangeShapes Go.WideShapes Go.ChangeAt Go.RowKit
set_option maxHeartbeats 4000000
set_option linter.unusedVariables false
set_option maxRecDepth 20000

theorem reckoned_c (op a b : Int) (w : World) (h : 19 ≤ op) (h' : op ≤ 45) (ha : 0 ≤ a) (ha1 : a < 4294967296) (hb : 0 ≤ b) (hb1 : b < 4294967296) :
    Calls Try.prog 59 #[.int .i64 op, .int .u32 a, .int .u32 b] w fun e w' => e = .returned (.int .u32 (reckP (longP op) a b)) ∧ w = w' := by
  have hc : op = 19 ∨ op = 20 ∨ op = 21 ∨ op = 22 ∨ op = 23 ∨ op = 24 ∨ op = 25 ∨ op = 26 ∨ op = 27 ∨ op = 28 ∨ op = 29 ∨ op = 30 ∨ op = 31 ∨ op = 32 ∨ op = 33 ∨ op = 34 ∨ op = 35 ∨ op = 36 ∨ op = 37 ∨ op = 38 ∨ op = 39 ∨ op = 40 ∨ op = 41 ∨ op = 42 ∨ op = 43 ∨ op = 44 ∨ op = 45 := by omega
  rcases hc with rfl | rfl | rfl | rfl | rfl | rfl | rfl | rfl | rfl | rfl | rfl | rfl | rfl | rfl | rfl | rfl | rfl | rfl | rfl | rfl | rfl | rfl | rfl | rfl | rfl | rfl | rfl
  · exact reck_19 a b w ha ha1 hb hb1
  · exact reck_20 a b w ha ha1 hb hb1
  · exact reck_21 a b w ha ha1 hb hb1
  · exact reck_22 a b w ha ha1 hb hb1
  · exact reck_23 a b w ha ha1 hb hb1
  · exact reck_24 a b w ha ha1 hb hb1
  · exact reck_25 a b w ha ha1 hb hb1
  · exact reck_26 a b w ha ha1 hb hb1
  · exact reck_27 a b w ha ha1 hb hb1
  · exact reck_28 a b w ha ha1 hb hb1
  · exact reck_29 a b w ha ha1 hb hb1
  · exact reck_30 a b w ha ha1 hb hb1
  · exact reck_31 a b w ha ha1 hb hb1
  · exact reck_32 a b w ha ha1 hb hb1
  · exact reck_33 a b w ha ha1 hb hb1
  · exact reck_34 a b w ha ha1 hb hb1
  · exact reck_35 a b w ha ha1 hb hb1
  · exact reck_36 a b w ha ha1 hb hb1
  · exact reck_37 a b w ha ha1 hb hb1
  · exact reck_38 a b w ha ha1 hb hb1
  · exact reck_39 a b w ha ha1 hb hb1
  · exact reck_40 a b w ha ha1 hb hb1
  · exact reck_41 a b w ha ha1 hb hb1
  · exact reck_42 a b w ha ha1 hb hb1
  · exact reck_43 a b w ha ha1 hb hb1
  · exact reck_44 a b w ha ha1 hb hb1
  · exact reck_45 a b w ha ha1 hb hb1
end Go.Proofs.Ytppmjdljnacpgaa
