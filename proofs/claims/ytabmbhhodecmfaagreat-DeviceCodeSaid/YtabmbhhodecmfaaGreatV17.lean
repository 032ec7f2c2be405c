/-
  The document's functions of words: branches, what an instruction makes of two words.
-/
import Derived.Test.YtabmbhhodecmfaaGreatV16
set_option linter.all false
namespace Go.Proofs.YtabmbhhodecmfaaGreat
open Go.ChangeShapes Go.WideShapes Go.ChangeAt Go.RowKit
set_option maxHeartbeats 4000000
set_option linter.unusedVariables false
set_option maxRecDepth 20000

theorem rwrap_c (n : Int) (w : World) (h : -9223372036854775808 ≤ n) (h1 : n < 9223372036854775808) : Calls Tryz.prog 43 #[.int .i64 n] w fun e w' => e = .returned (.int .i64 (wd n)) ∧ w = w' := by
  have C := Lib.hid (fun w => rcut_c n w h h1)
  have C : Hid (∀ w, Calls Tryz.prog 45 #[.int .i64 n] w fun e w' => e = .returned (.int .u32 (wd n)) ∧ w = w') := C
  have hb := wd_bd n
  unfold U32 at hb
  generalize wd n = x at *
  go_enter Tryz.func43, Tryz.ntmps43
  go_wp2_with (go_at_call 45; (with_reducible refine (C.out _).mono ?_); rintro e w1 ⟨rfl, rfl⟩)
  go_ret
  exact ⟨rfl, rfl⟩
theorem taken_eq (a b : Int) : takenP 5 a b = (a == b) ∧ takenP 6 a b = (a != b) ∧ takenP 7 a b = decide (sg a < sg b) ∧ takenP 8 a b = decide (sg b ≤ sg a) ∧ takenP 9 a b = decide (a < b) ∧ takenP 10 a b = decide (b ≤ a) := by
  refine ⟨rfl, rfl, ?_, ?_, ?_, ?_⟩
  · show (lessS a b == 1) = _
    unfold lessS; split <;> simp_all
  · show (lessS a b == 0) = _
    unfold lessS; split <;> simp_all
  · show (lessU a b == 1) = _
    unfold lessU; split <;> simp_all
  · show (lessU a b == 0) = _
    unfold lessU; split <;> simp_all
theorem rtaken_c (op a b : Int) (w : World) (h : 5 ≤ op) (h' : op ≤ 10) (ha : 0 ≤ a) (ha1 : a < 4294967296) (hb : 0 ≤ b) (hb1 : b < 4294967296) :
    Calls Tryz.prog 46 #[.int .i64 op, .int .u32 a, .int .u32 b] w fun e w' => e = .returned (.bool (takenP op a b)) ∧ w = w' := by
  obtain ⟨e5, e6, e7, e8, e9, e10⟩ := taken_eq a b
  have CA := Lib.hid (fun w => rsigned_c a w ha ha1)
  have CB := Lib.hid (fun w => rsigned_c b w hb hb1)
  have hc : op = 5 ∨ op = 6 ∨ op = 7 ∨ op = 8 ∨ op = 9 ∨ op = 10 := by omega
  clear h h'
  rcases hc with rfl | rfl | rfl | rfl | rfl | rfl
  · rw [e5]
    clear e5 e6 e7 e8 e9 e10
    generalize sg a = x at *
    generalize sg b = y at *
    go_enter Tryz.func46, Tryz.ntmps46
    go_wp2_with (first | (go_at_call 75; (with_reducible refine (CA.out _).mono ?_); rintro e w1 ⟨rfl, rfl⟩) | (go_at_call 75; (with_reducible refine (CB.out _).mono ?_); rintro e w1 ⟨rfl, rfl⟩))
    go_ret
    exact ⟨rfl, rfl⟩
  · rw [e6]
    clear e5 e6 e7 e8 e9 e10
    generalize sg a = x at *
    generalize sg b = y at *
    go_enter Tryz.func46, Tryz.ntmps46
    go_wp2_with (first | (go_at_call 75; (with_reducible refine (CA.out _).mono ?_); rintro e w1 ⟨rfl, rfl⟩) | (go_at_call 75; (with_reducible refine (CB.out _).mono ?_); rintro e w1 ⟨rfl, rfl⟩))
    go_ret
    exact ⟨rfl, rfl⟩
  · rw [e7]
    clear e5 e6 e7 e8 e9 e10
    generalize sg a = x at *
    generalize sg b = y at *
    go_enter Tryz.func46, Tryz.ntmps46
    go_wp2_with (first | (go_at_call 75; (with_reducible refine (CA.out _).mono ?_); rintro e w1 ⟨rfl, rfl⟩) | (go_at_call 75; (with_reducible refine (CB.out _).mono ?_); rintro e w1 ⟨rfl, rfl⟩))
    go_ret
    exact ⟨rfl, rfl⟩
  · rw [e8]
    clear e5 e6 e7 e8 e9 e10
    generalize sg a = x at *
    generalize sg b = y at *
    go_enter Tryz.func46, Tryz.ntmps46
    go_wp2_with (first | (go_at_call 75; (with_reducible refine (CA.out _).mono ?_); rintro e w1 ⟨rfl, rfl⟩) | (go_at_call 75; (with_reducible refine (CB.out _).mono ?_); rintro e w1 ⟨rfl, rfl⟩))
    go_ret
    exact ⟨rfl, rfl⟩
  · rw [e9]
    clear e5 e6 e7 e8 e9 e10
    generalize sg a = x at *
    generalize sg b = y at *
    go_enter Tryz.func46, Tryz.ntmps46
    go_wp2_with (first | (go_at_call 75; (with_reducible refine (CA.out _).mono ?_); rintro e w1 ⟨rfl, rfl⟩) | (go_at_call 75; (with_reducible refine (CB.out _).mono ?_); rintro e w1 ⟨rfl, rfl⟩))
    go_ret
    exact ⟨rfl, rfl⟩
  · rw [e10]
    clear e5 e6 e7 e8 e9 e10
    generalize sg a = x at *
    generalize sg b = y at *
    go_enter Tryz.func46, Tryz.ntmps46
    go_wp2_with (first | (go_at_call 75; (with_reducible refine (CA.out _).mono ?_); rintro e w1 ⟨rfl, rfl⟩) | (go_at_call 75; (with_reducible refine (CB.out _).mono ?_); rintro e w1 ⟨rfl, rfl⟩))
    go_ret
    exact ⟨rfl, rfl⟩
theorem rpart_38 (a b : Int) (w : World) (ha : 0 ≤ a) (ha1 : a < 4294967296) (hb : 0 ≤ b) (hb1 : b < 4294967296) : Calls Tryz.prog 85 #[.int .i64 38, .int .u32 a, .int .u32 b] w fun e w1 => e = .returned (.int .u32 (reckP 38 a b)) ∧ w = w1 := by
  have C := Lib.hid (fun w => rmul_c a b w ha ha1 hb hb1)
  go_enter Tryz.func85, Tryz.ntmps85
  go_wp2_with (go_at_call 96; (with_reducible refine (C.out _).mono ?_); rintro e w1 ⟨rfl, rfl⟩)
  go_ret
  exact ⟨rfl, rfl⟩
theorem rpart_39 (a b : Int) (w : World) (ha : 0 ≤ a) (ha1 : a < 4294967296) (hb : 0 ≤ b) (hb1 : b < 4294967296) : Calls Tryz.prog 85 #[.int .i64 39, .int .u32 a, .int .u32 b] w fun e w1 => e = .returned (.int .u32 (reckP 39 a b)) ∧ w = w1 := by
  have C := Lib.hid (fun w => rhigh_c a b w ha ha1 hb hb1)
  go_enter Tryz.func85, Tryz.ntmps85
  go_wp2_with (go_at_call 97; (with_reducible refine (C.out _).mono ?_); rintro e w1 ⟨rfl, rfl⟩)
  go_ret
  exact ⟨rfl, rfl⟩
theorem rpart_40 (a b : Int) (w : World) (ha : 0 ≤ a) (ha1 : a < 4294967296) (hb : 0 ≤ b) (hb1 : b < 4294967296) : Calls Tryz.prog 85 #[.int .i64 40, .int .u32 a, .int .u32 b] w fun e w1 => e = .returned (.int .u32 (reckP 40 a b)) ∧ w = w1 := by
  have C := Lib.hid (fun w => rhighsu_c a b w ha ha1 hb hb1)
  go_enter Tryz.func85, Tryz.ntmps85
  go_wp2_with (go_at_call 98; (with_reducible refine (C.out _).mono ?_); rintro e w1 ⟨rfl, rfl⟩)
  go_ret
  exact ⟨rfl, rfl⟩
theorem rpart_41 (a b : Int) (w : World) (ha : 0 ≤ a) (ha1 : a < 4294967296) (hb : 0 ≤ b) (hb1 : b < 4294967296) : Calls Tryz.prog 85 #[.int .i64 41, .int .u32 a, .int .u32 b] w fun e w1 => e = .returned (.int .u32 (reckP 41 a b)) ∧ w = w1 := by
  have C := Lib.hid (fun w => rhighu_c a b w ha ha1 hb hb1)
  go_enter Tryz.func85, Tryz.ntmps85
  go_wp2_with (go_at_call 99; (with_reducible refine (C.out _).mono ?_); rintro e w1 ⟨rfl, rfl⟩)
  go_ret
  exact ⟨rfl, rfl⟩
theorem rpart_42 (a b : Int) (w : World) (ha : 0 ≤ a) (ha1 : a < 4294967296) (hb : 0 ≤ b) (hb1 : b < 4294967296) : Calls Tryz.prog 85 #[.int .i64 42, .int .u32 a, .int .u32 b] w fun e w1 => e = .returned (.int .u32 (reckP 42 a b)) ∧ w = w1 := by
  have C := Lib.hid (fun w => rdiv_c a b w ha ha1 hb hb1)
  go_enter Tryz.func85, Tryz.ntmps85
  go_wp2_with (go_at_call 100; (with_reducible refine (C.out _).mono ?_); rintro e w1 ⟨rfl, rfl⟩)
  go_ret
  exact ⟨rfl, rfl⟩
theorem rpart_43 (a b : Int) (w : World) (ha : 0 ≤ a) (ha1 : a < 4294967296) (hb : 0 ≤ b) (hb1 : b < 4294967296) : Calls Tryz.prog 85 #[.int .i64 43, .int .u32 a, .int .u32 b] w fun e w1 => e = .returned (.int .u32 (reckP 43 a b)) ∧ w = w1 := by
  have C := Lib.hid (fun w => rdivu_c a b w ha ha1 hb hb1)
  go_enter Tryz.func85, Tryz.ntmps85
  go_wp2_with (go_at_call 101; (with_reducible refine (C.out _).mono ?_); rintro e w1 ⟨rfl, rfl⟩)
  go_ret
  exact ⟨rfl, rfl⟩
theorem rpart_44 (a b : Int) (w : World) (ha : 0 ≤ a) (ha1 : a < 4294967296) (hb : 0 ≤ b) (hb1 : b < 4294967296) : Calls Tryz.prog 85 #[.int .i64 44, .int .u32 a, .int .u32 b] w fun e w1 => e = .returned (.int .u32 (reckP 44 a b)) ∧ w = w1 := by
  have C := Lib.hid (fun w => rrem_c a b w ha ha1 hb hb1)
  go_enter Tryz.func85, Tryz.ntmps85
  go_wp2_with (go_at_call 102; (with_reducible refine (C.out _).mono ?_); rintro e w1 ⟨rfl, rfl⟩)
  go_ret
  exact ⟨rfl, rfl⟩
theorem rpart_45 (a b : Int) (w : World) (ha : 0 ≤ a) (ha1 : a < 4294967296) (hb : 0 ≤ b) (hb1 : b < 4294967296) : Calls Tryz.prog 85 #[.int .i64 45, .int .u32 a, .int .u32 b] w fun e w1 => e = .returned (.int .u32 (reckP 45 a b)) ∧ w = w1 := by
  have C := Lib.hid (fun w => rremu_c a b w ha ha1 hb hb1)
  go_enter Tryz.func85, Tryz.ntmps85
  go_wp2_with (go_at_call 103; (with_reducible refine (C.out _).mono ?_); rintro e w1 ⟨rfl, rfl⟩)
  go_ret
  exact ⟨rfl, rfl⟩
theorem rreck_19 (a b : Int) (w : World) (ha : 0 ≤ a) (ha1 : a < 4294967296) (hb : 0 ≤ b) (hb1 : b < 4294967296) : Calls Tryz.prog 49 #[.int .i64 19, .int .u32 a, .int .u32 b] w fun e w1 => e = .returned (.int .u32 (reckP (longP 19) a b)) ∧ Below w.heap.size w w1 := by
  have C := Lib.hid (fun w => radd_c a b w ha ha1 hb hb1)
  go_enter Tryz.func49, Tryz.ntmps49
  go_wp2_with (go_at_call 78; (with_reducible refine (C.out _).mono ?_); rintro e w1 ⟨rfl, rfl⟩)
  go_ret
  exact ⟨rfl, vbelow1 w _⟩
theorem rreck_20 (a b : Int) (w : World) (ha : 0 ≤ a) (ha1 : a < 4294967296) (hb : 0 ≤ b) (hb1 : b < 4294967296) : Calls Tryz.prog 49 #[.int .i64 20, .int .u32 a, .int .u32 b] w fun e w1 => e = .returned (.int .u32 (reckP (longP 20) a b)) ∧ Below w.heap.size w w1 := by
  have C := Lib.hid (fun w => rless_c a b w ha ha1 hb hb1)
  go_enter Tryz.func49, Tryz.ntmps49
  go_wp2_with (go_at_call 81; (with_reducible refine (C.out _).mono ?_); rintro e w1 ⟨rfl, rfl⟩)
  go_ret
  exact ⟨rfl, vbelow1 w _⟩
theorem rreck_21 (a b : Int) (w : World) (ha : 0 ≤ a) (ha1 : a < 4294967296) (hb : 0 ≤ b) (hb1 : b < 4294967296) : Calls Tryz.prog 49 #[.int .i64 21, .int .u32 a, .int .u32 b] w fun e w1 => e = .returned (.int .u32 (reckP (longP 21) a b)) ∧ Below w.heap.size w w1 := by
  have C := Lib.hid (fun w => rlessu_c a b w ha ha1 hb hb1)
  go_enter Tryz.func49, Tryz.ntmps49
  go_wp2_with (go_at_call 82; (with_reducible refine (C.out _).mono ?_); rintro e w1 ⟨rfl, rfl⟩)
  go_ret
  exact ⟨rfl, vbelow1 w _⟩
theorem rreck_22 (a b : Int) (w : World) (ha : 0 ≤ a) (ha1 : a < 4294967296) (hb : 0 ≤ b) (hb1 : b < 4294967296) : Calls Tryz.prog 49 #[.int .i64 22, .int .u32 a, .int .u32 b] w fun e w1 => e = .returned (.int .u32 (reckP (longP 22) a b)) ∧ Below w.heap.size w w1 := by
  go_enter Tryz.func49, Tryz.ntmps49
  go_wp2_with fail
  go_ret
  exact ⟨rfl, vbelow1 w _⟩
theorem rreck_23 (a b : Int) (w : World) (ha : 0 ≤ a) (ha1 : a < 4294967296) (hb : 0 ≤ b) (hb1 : b < 4294967296) : Calls Tryz.prog 49 #[.int .i64 23, .int .u32 a, .int .u32 b] w fun e w1 => e = .returned (.int .u32 (reckP (longP 23) a b)) ∧ Below w.heap.size w w1 := by
  go_enter Tryz.func49, Tryz.ntmps49
  go_wp2_with fail
  go_ret
  exact ⟨rfl, vbelow1 w _⟩
theorem rreck_24 (a b : Int) (w : World) (ha : 0 ≤ a) (ha1 : a < 4294967296) (hb : 0 ≤ b) (hb1 : b < 4294967296) : Calls Tryz.prog 49 #[.int .i64 24, .int .u32 a, .int .u32 b] w fun e w1 => e = .returned (.int .u32 (reckP (longP 24) a b)) ∧ Below w.heap.size w w1 := by
  go_enter Tryz.func49, Tryz.ntmps49
  go_wp2_with fail
  go_ret
  exact ⟨rfl, vbelow1 w _⟩
theorem rreck_25 (a b : Int) (w : World) (ha : 0 ≤ a) (ha1 : a < 4294967296) (hb : 0 ≤ b) (hb1 : b < 4294967296) : Calls Tryz.prog 49 #[.int .i64 25, .int .u32 a, .int .u32 b] w fun e w1 => e = .returned (.int .u32 (reckP (longP 25) a b)) ∧ Below w.heap.size w w1 := by
  have C := Lib.hid (fun w => rleft_c a b w ha ha1 hb hb1)
  go_enter Tryz.func49, Tryz.ntmps49
  go_wp2_with (go_at_call 80; (with_reducible refine (C.out _).mono ?_); rintro e w1 ⟨rfl, ⟨nl, rfl⟩⟩)
  go_ret
  exact ⟨rfl, (vbelow1 w _).trans ((below_drewN3 _ nl).mono (by simp))⟩
theorem rreck_26 (a b : Int) (w : World) (ha : 0 ≤ a) (ha1 : a < 4294967296) (hb : 0 ≤ b) (hb1 : b < 4294967296) : Calls Tryz.prog 49 #[.int .i64 26, .int .u32 a, .int .u32 b] w fun e w1 => e = .returned (.int .u32 (reckP (longP 26) a b)) ∧ Below w.heap.size w w1 := by
  have C := Lib.hid (fun w => rright_c a b w ha ha1 hb hb1)
  go_enter Tryz.func49, Tryz.ntmps49
  go_wp2_with (go_at_call 83; (with_reducible refine (C.out _).mono ?_); rintro e w1 ⟨rfl, rfl⟩)
  go_ret
  exact ⟨rfl, vbelow1 w _⟩
theorem rreck_27 (a b : Int) (w : World) (ha : 0 ≤ a) (ha1 : a < 4294967296) (hb : 0 ≤ b) (hb1 : b < 4294967296) : Calls Tryz.prog 49 #[.int .i64 27, .int .u32 a, .int .u32 b] w fun e w1 => e = .returned (.int .u32 (reckP (longP 27) a b)) ∧ Below w.heap.size w w1 := by
  have C := Lib.hid (fun w => rrights_c a b w ha ha1 hb hb1)
  go_enter Tryz.func49, Tryz.ntmps49
  go_wp2_with (go_at_call 84; (with_reducible refine (C.out _).mono ?_); rintro e w1 ⟨rfl, rfl⟩)
  go_ret
  exact ⟨rfl, vbelow1 w _⟩
theorem rreck_28 (a b : Int) (w : World) (ha : 0 ≤ a) (ha1 : a < 4294967296) (hb : 0 ≤ b) (hb1 : b < 4294967296) : Calls Tryz.prog 49 #[.int .i64 28, .int .u32 a, .int .u32 b] w fun e w1 => e = .returned (.int .u32 (reckP (longP 28) a b)) ∧ Below w.heap.size w w1 := by
  have C := Lib.hid (fun w => radd_c a b w ha ha1 hb hb1)
  go_enter Tryz.func49, Tryz.ntmps49
  go_wp2_with (go_at_call 78; (with_reducible refine (C.out _).mono ?_); rintro e w1 ⟨rfl, rfl⟩)
  go_ret
  exact ⟨rfl, vbelow1 w _⟩
theorem rreck_29 (a b : Int) (w : World) (ha : 0 ≤ a) (ha1 : a < 4294967296) (hb : 0 ≤ b) (hb1 : b < 4294967296) : Calls Tryz.prog 49 #[.int .i64 29, .int .u32 a, .int .u32 b] w fun e w1 => e = .returned (.int .u32 (reckP (longP 29) a b)) ∧ Below w.heap.size w w1 := by
  have C := Lib.hid (fun w => rsub_c a b w ha ha1 hb hb1)
  go_enter Tryz.func49, Tryz.ntmps49
  go_wp2_with (go_at_call 79; (with_reducible refine (C.out _).mono ?_); rintro e w1 ⟨rfl, rfl⟩)
  go_ret
  exact ⟨rfl, vbelow1 w _⟩
theorem rreck_30 (a b : Int) (w : World) (ha : 0 ≤ a) (ha1 : a < 4294967296) (hb : 0 ≤ b) (hb1 : b < 4294967296) : Calls Tryz.prog 49 #[.int .i64 30, .int .u32 a, .int .u32 b] w fun e w1 => e = .returned (.int .u32 (reckP (longP 30) a b)) ∧ Below w.heap.size w w1 := by
  have C := Lib.hid (fun w => rleft_c a b w ha ha1 hb hb1)
  go_enter Tryz.func49, Tryz.ntmps49
  go_wp2_with (go_at_call 80; (with_reducible refine (C.out _).mono ?_); rintro e w1 ⟨rfl, ⟨nl, rfl⟩⟩)
  go_ret
  exact ⟨rfl, (vbelow1 w _).trans ((below_drewN3 _ nl).mono (by simp))⟩
theorem rreck_31 (a b : Int) (w : World) (ha : 0 ≤ a) (ha1 : a < 4294967296) (hb : 0 ≤ b) (hb1 : b < 4294967296) : Calls Tryz.prog 49 #[.int .i64 31, .int .u32 a, .int .u32 b] w fun e w1 => e = .returned (.int .u32 (reckP (longP 31) a b)) ∧ Below w.heap.size w w1 := by
  have C := Lib.hid (fun w => rless_c a b w ha ha1 hb hb1)
  go_enter Tryz.func49, Tryz.ntmps49
  go_wp2_with (go_at_call 81; (with_reducible refine (C.out _).mono ?_); rintro e w1 ⟨rfl, rfl⟩)
  go_ret
  exact ⟨rfl, vbelow1 w _⟩
theorem rreck_32 (a b : Int) (w : World) (ha : 0 ≤ a) (ha1 : a < 4294967296) (hb : 0 ≤ b) (hb1 : b < 4294967296) : Calls Tryz.prog 49 #[.int .i64 32, .int .u32 a, .int .u32 b] w fun e w1 => e = .returned (.int .u32 (reckP (longP 32) a b)) ∧ Below w.heap.size w w1 := by
  have C := Lib.hid (fun w => rlessu_c a b w ha ha1 hb hb1)
  go_enter Tryz.func49, Tryz.ntmps49
  go_wp2_with (go_at_call 82; (with_reducible refine (C.out _).mono ?_); rintro e w1 ⟨rfl, rfl⟩)
  go_ret
  exact ⟨rfl, vbelow1 w _⟩
theorem rreck_33 (a b : Int) (w : World) (ha : 0 ≤ a) (ha1 : a < 4294967296) (hb : 0 ≤ b) (hb1 : b < 4294967296) : Calls Tryz.prog 49 #[.int .i64 33, .int .u32 a, .int .u32 b] w fun e w1 => e = .returned (.int .u32 (reckP (longP 33) a b)) ∧ Below w.heap.size w w1 := by
  go_enter Tryz.func49, Tryz.ntmps49
  go_wp2_with fail
  go_ret
  exact ⟨rfl, vbelow1 w _⟩
theorem rreck_34 (a b : Int) (w : World) (ha : 0 ≤ a) (ha1 : a < 4294967296) (hb : 0 ≤ b) (hb1 : b < 4294967296) : Calls Tryz.prog 49 #[.int .i64 34, .int .u32 a, .int .u32 b] w fun e w1 => e = .returned (.int .u32 (reckP (longP 34) a b)) ∧ Below w.heap.size w w1 := by
  have C := Lib.hid (fun w => rright_c a b w ha ha1 hb hb1)
  go_enter Tryz.func49, Tryz.ntmps49
  go_wp2_with (go_at_call 83; (with_reducible refine (C.out _).mono ?_); rintro e w1 ⟨rfl, rfl⟩)
  go_ret
  exact ⟨rfl, vbelow1 w _⟩
theorem rreck_35 (a b : Int) (w : World) (ha : 0 ≤ a) (ha1 : a < 4294967296) (hb : 0 ≤ b) (hb1 : b < 4294967296) : Calls Tryz.prog 49 #[.int .i64 35, .int .u32 a, .int .u32 b] w fun e w1 => e = .returned (.int .u32 (reckP (longP 35) a b)) ∧ Below w.heap.size w w1 := by
  have C := Lib.hid (fun w => rrights_c a b w ha ha1 hb hb1)
  go_enter Tryz.func49, Tryz.ntmps49
  go_wp2_with (go_at_call 84; (with_reducible refine (C.out _).mono ?_); rintro e w1 ⟨rfl, rfl⟩)
  go_ret
  exact ⟨rfl, vbelow1 w _⟩
theorem rreck_36 (a b : Int) (w : World) (ha : 0 ≤ a) (ha1 : a < 4294967296) (hb : 0 ≤ b) (hb1 : b < 4294967296) : Calls Tryz.prog 49 #[.int .i64 36, .int .u32 a, .int .u32 b] w fun e w1 => e = .returned (.int .u32 (reckP (longP 36) a b)) ∧ Below w.heap.size w w1 := by
  go_enter Tryz.func49, Tryz.ntmps49
  go_wp2_with fail
  go_ret
  exact ⟨rfl, vbelow1 w _⟩
theorem rreck_37 (a b : Int) (w : World) (ha : 0 ≤ a) (ha1 : a < 4294967296) (hb : 0 ≤ b) (hb1 : b < 4294967296) : Calls Tryz.prog 49 #[.int .i64 37, .int .u32 a, .int .u32 b] w fun e w1 => e = .returned (.int .u32 (reckP (longP 37) a b)) ∧ Below w.heap.size w w1 := by
  go_enter Tryz.func49, Tryz.ntmps49
  go_wp2_with fail
  go_ret
  exact ⟨rfl, vbelow1 w _⟩
theorem rreck_38 (a b : Int) (w : World) (ha : 0 ≤ a) (ha1 : a < 4294967296) (hb : 0 ≤ b) (hb1 : b < 4294967296) : Calls Tryz.prog 49 #[.int .i64 38, .int .u32 a, .int .u32 b] w fun e w1 => e = .returned (.int .u32 (reckP (longP 38) a b)) ∧ Below w.heap.size w w1 := by
  have C := Lib.hid (fun w => rpart_38 a b w ha ha1 hb hb1)
  go_enter Tryz.func49, Tryz.ntmps49
  go_wp2_with (go_at_call 85; (with_reducible refine (C.out _).mono ?_); rintro e w1 ⟨rfl, rfl⟩)
  go_ret
  exact ⟨rfl, vbelow1 w _⟩
theorem rreck_39 (a b : Int) (w : World) (ha : 0 ≤ a) (ha1 : a < 4294967296) (hb : 0 ≤ b) (hb1 : b < 4294967296) : Calls Tryz.prog 49 #[.int .i64 39, .int .u32 a, .int .u32 b] w fun e w1 => e = .returned (.int .u32 (reckP (longP 39) a b)) ∧ Below w.heap.size w w1 := by
  have C := Lib.hid (fun w => rpart_39 a b w ha ha1 hb hb1)
  go_enter Tryz.func49, Tryz.ntmps49
  go_wp2_with (go_at_call 85; (with_reducible refine (C.out _).mono ?_); rintro e w1 ⟨rfl, rfl⟩)
  go_ret
  exact ⟨rfl, vbelow1 w _⟩
theorem rreck_40 (a b : Int) (w : World) (ha : 0 ≤ a) (ha1 : a < 4294967296) (hb : 0 ≤ b) (hb1 : b < 4294967296) : Calls Tryz.prog 49 #[.int .i64 40, .int .u32 a, .int .u32 b] w fun e w1 => e = .returned (.int .u32 (reckP (longP 40) a b)) ∧ Below w.heap.size w w1 := by
  have C := Lib.hid (fun w => rpart_40 a b w ha ha1 hb hb1)
  go_enter Tryz.func49, Tryz.ntmps49
  go_wp2_with (go_at_call 85; (with_reducible refine (C.out _).mono ?_); rintro e w1 ⟨rfl, rfl⟩)
  go_ret
  exact ⟨rfl, vbelow1 w _⟩
theorem rreck_41 (a b : Int) (w : World) (ha : 0 ≤ a) (ha1 : a < 4294967296) (hb : 0 ≤ b) (hb1 : b < 4294967296) : Calls Tryz.prog 49 #[.int .i64 41, .int .u32 a, .int .u32 b] w fun e w1 => e = .returned (.int .u32 (reckP (longP 41) a b)) ∧ Below w.heap.size w w1 := by
  have C := Lib.hid (fun w => rpart_41 a b w ha ha1 hb hb1)
  go_enter Tryz.func49, Tryz.ntmps49
  go_wp2_with (go_at_call 85; (with_reducible refine (C.out _).mono ?_); rintro e w1 ⟨rfl, rfl⟩)
  go_ret
  exact ⟨rfl, vbelow1 w _⟩
theorem rreck_42 (a b : Int) (w : World) (ha : 0 ≤ a) (ha1 : a < 4294967296) (hb : 0 ≤ b) (hb1 : b < 4294967296) : Calls Tryz.prog 49 #[.int .i64 42, .int .u32 a, .int .u32 b] w fun e w1 => e = .returned (.int .u32 (reckP (longP 42) a b)) ∧ Below w.heap.size w w1 := by
  have C := Lib.hid (fun w => rpart_42 a b w ha ha1 hb hb1)
  go_enter Tryz.func49, Tryz.ntmps49
  go_wp2_with (go_at_call 85; (with_reducible refine (C.out _).mono ?_); rintro e w1 ⟨rfl, rfl⟩)
  go_ret
  exact ⟨rfl, vbelow1 w _⟩
theorem rreck_43 (a b : Int) (w : World) (ha : 0 ≤ a) (ha1 : a < 4294967296) (hb : 0 ≤ b) (hb1 : b < 4294967296) : Calls Tryz.prog 49 #[.int .i64 43, .int .u32 a, .int .u32 b] w fun e w1 => e = .returned (.int .u32 (reckP (longP 43) a b)) ∧ Below w.heap.size w w1 := by
  have C := Lib.hid (fun w => rpart_43 a b w ha ha1 hb hb1)
  go_enter Tryz.func49, Tryz.ntmps49
  go_wp2_with (go_at_call 85; (with_reducible refine (C.out _).mono ?_); rintro e w1 ⟨rfl, rfl⟩)
  go_ret
  exact ⟨rfl, vbelow1 w _⟩
theorem rreck_44 (a b : Int) (w : World) (ha : 0 ≤ a) (ha1 : a < 4294967296) (hb : 0 ≤ b) (hb1 : b < 4294967296) : Calls Tryz.prog 49 #[.int .i64 44, .int .u32 a, .int .u32 b] w fun e w1 => e = .returned (.int .u32 (reckP (longP 44) a b)) ∧ Below w.heap.size w w1 := by
  have C := Lib.hid (fun w => rpart_44 a b w ha ha1 hb hb1)
  go_enter Tryz.func49, Tryz.ntmps49
  go_wp2_with (go_at_call 85; (with_reducible refine (C.out _).mono ?_); rintro e w1 ⟨rfl, rfl⟩)
  go_ret
  exact ⟨rfl, vbelow1 w _⟩
theorem rreck_45 (a b : Int) (w : World) (ha : 0 ≤ a) (ha1 : a < 4294967296) (hb : 0 ≤ b) (hb1 : b < 4294967296) : Calls Tryz.prog 49 #[.int .i64 45, .int .u32 a, .int .u32 b] w fun e w1 => e = .returned (.int .u32 (reckP (longP 45) a b)) ∧ Below w.heap.size w w1 := by
  have C := Lib.hid (fun w => rpart_45 a b w ha ha1 hb hb1)
  go_enter Tryz.func49, Tryz.ntmps49
  go_wp2_with (go_at_call 85; (with_reducible refine (C.out _).mono ?_); rintro e w1 ⟨rfl, rfl⟩)
  go_ret
  exact ⟨rfl, vbelow1 w _⟩
theorem rreckon_c (op a b : Int) (w : World) (h : 19 ≤ op) (h' : op ≤ 45) (ha : 0 ≤ a) (ha1 : a < 4294967296) (hb : 0 ≤ b) (hb1 : b < 4294967296) :
    Calls Tryz.prog 49 #[.int .i64 op, .int .u32 a, .int .u32 b] w fun e w' => e = .returned (.int .u32 (reckP (longP op) a b)) ∧ Below w.heap.size w w' := by
  have hc : op = 19 ∨ op = 20 ∨ op = 21 ∨ op = 22 ∨ op = 23 ∨ op = 24 ∨ op = 25 ∨ op = 26 ∨ op = 27 ∨ op = 28 ∨ op = 29 ∨ op = 30 ∨ op = 31 ∨ op = 32 ∨ op = 33 ∨ op = 34 ∨ op = 35 ∨ op = 36 ∨ op = 37 ∨ op = 38 ∨ op = 39 ∨ op = 40 ∨ op = 41 ∨ op = 42 ∨ op = 43 ∨ op = 44 ∨ op = 45 := by omega
  rcases hc with rfl | rfl | rfl | rfl | rfl | rfl | rfl | rfl | rfl | rfl | rfl | rfl | rfl | rfl | rfl | rfl | rfl | rfl | rfl | rfl | rfl | rfl | rfl | rfl | rfl | rfl | rfl
  · exact rreck_19 a b w ha ha1 hb hb1
  · exact rreck_20 a b w ha ha1 hb hb1
  · exact rreck_21 a b w ha ha1 hb hb1
  · exact rreck_22 a b w ha ha1 hb hb1
  · exact rreck_23 a b w ha ha1 hb hb1
  · exact rreck_24 a b w ha ha1 hb hb1
  · exact rreck_25 a b w ha ha1 hb hb1
  · exact rreck_26 a b w ha ha1 hb hb1
  · exact rreck_27 a b w ha ha1 hb hb1
  · exact rreck_28 a b w ha ha1 hb hb1
  · exact rreck_29 a b w ha ha1 hb hb1
  · exact rreck_30 a b w ha ha1 hb hb1
  · exact rreck_31 a b w ha ha1 hb hb1
  · exact rreck_32 a b w ha ha1 hb hb1
  · exact rreck_33 a b w ha ha1 hb hb1
  · exact rreck_34 a b w ha ha1 hb hb1
  · exact rreck_35 a b w ha ha1 hb hb1
  · exact rreck_36 a b w ha ha1 hb hb1
  · exact rreck_37 a b w ha ha1 hb hb1
  · exact rreck_38 a b w ha ha1 hb hb1
  · exact rreck_39 a b w ha ha1 hb hb1
  · exact rreck_40 a b w ha ha1 hb hb1
  · exact rreck_41 a b w ha ha1 hb hb1
  · exact rreck_42 a b w ha ha1 hb hb1
  · exact rreck_43 a b w ha ha1 hb hb1
  · exact rreck_44 a b w ha ha1 hb hb1
  · exact rreck_45 a b w ha ha1 hb hb1
end Go.Proofs.YtabmbhhodecmfaaGreat
