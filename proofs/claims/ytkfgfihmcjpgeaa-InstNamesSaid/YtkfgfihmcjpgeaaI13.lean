/-
  The walk of the statement InstNames: name and form of any number.
-/
import Derived.Test.YtkfgfihmcjpgeaaI12
set_option linter.all false
namespace Go.Proofs.Ytkfgfihmcjpgeaa
open Go.ChangeShapes Go.WideShapes Go.ChangeAt Go.RowKit
set_option maxHeartbeats 1000000
set_option linter.unusedVariables false
set_option maxRecDepth 100000

attribute [local go_sem] field_name field_form
theorem nmI_in (k : Nat) (hk : k < 46) : nmI (k : Int) = nmB k := by unfold nmI; rw [if_pos (by omega)]; rfl
theorem nmI_out (op : Int) (h : op < 0 ∨ 46 ≤ op) : nmI op = ⟨#[]⟩ := by unfold nmI; rw [if_neg (by omega)]
theorem ret_str {a b : ByteArray} (h : a = b) : Ending.returned (.string a) = .returned (.string b) := by rw [h]
theorem iname_c (op : Int) (w : World) :
    Calls Try.prog 59 #[.int .i64 op] w fun e w' => e = .returned (.string (nmI op)) ∧ Below w.heap.size w w' := by
  by_cases h : 0 ≤ op ∧ op < 46
  · obtain ⟨k, rfl⟩ := Int.eq_ofNat_of_zero_le h.1
    have hk : k < 46 := by omega
    have H := Lib.hid (nmI_in k hk)
    go_enter Try.func59, Try.ntmps59
    go_wp2_with (go_at_call 73; refine (of_in k hk _).mono ?_; rintro e w' ⟨rfl, hb⟩)
    go_ret
    exact ⟨ret_str H.out.symm, hb⟩
  · have h' : op < 0 ∨ 46 ≤ op := by omega
    have H := Lib.hid (nmI_out op h')
    go_enter Try.func59, Try.ntmps59
    go_wp2_with (go_at_call 73; refine (of_out op h' _).mono ?_; rintro e w' ⟨rfl, hb⟩)
    go_ret
    exact ⟨ret_str H.out.symm, hb⟩
theorem iform_c (op : Int) (w : World) :
    Calls Try.prog 61 #[.int .i64 op] w fun e w' => e = .returned (.int .u8 (fmI op)) ∧ Below w.heap.size w w' := by
  by_cases h : 0 ≤ op ∧ op < 46
  · obtain ⟨k, rfl⟩ := Int.eq_ofNat_of_zero_le h.1
    have hk : k < 46 := by omega
    have H := Lib.hid (fmI_nat k hk)
    go_enter Try.func61, Try.ntmps61
    go_wp2_with (go_at_call 73; refine (of_in k hk _).mono ?_; rintro e w' ⟨rfl, hb⟩)
    go_ret
    exact ⟨ret_int H.out.symm, hb⟩
  · have h' : op < 0 ∨ 46 ≤ op := by omega
    have H := Lib.hid (fmI_out op (by omega))
    go_enter Try.func61, Try.ntmps61
    go_wp2_with (go_at_call 73; refine (of_out op h' _).mono ?_; rintro e w' ⟨rfl, hb⟩)
    go_ret
    exact ⟨ret_int H.out.symm, hb⟩
theorem rname_in (k : Nat) (hk : k < 46) (w : World) :
    Calls Try.prog 60 #[.int .i64 (k : Int)] w fun e w' => e = .returned (.string (nmB k)) ∧ Below w.heap.size w w' := by
  have h0 : (0 : Int) ≤ k := by omega
  have h1 : decide ((k : Int) < 0) = false := by simp
  go_enter Try.func60, Try.ntmps60
  go_wp2
  go_ret
  exact ⟨congrArg Ending.returned (nmA_get k hk), Below.alloc (Below.refl _ _) (by simp) _⟩
theorem rname_out (op : Int) (h : op < 0 ∨ 46 ≤ op) (w : World) :
    Calls Try.prog 60 #[.int .i64 op] w fun e w' => e = .returned (.string ⟨#[]⟩) ∧ Below w.heap.size w w' := by
  rcases h with h | h
  · go_enter Try.func60, Try.ntmps60
    go_wp2
    go_ret
    exact ⟨rfl, Below.alloc (Below.refl _ _) (by simp) _⟩
  · have h1 : decide (op < 0) = false := by simp; omega
    go_enter Try.func60, Try.ntmps60
    go_wp2
    go_ret
    exact ⟨rfl, Below.alloc (Below.refl _ _) (by simp) _⟩
theorem rname_c (op : Int) (w : World) :
    Calls Try.prog 60 #[.int .i64 op] w fun e w' => e = .returned (.string (nmI op)) ∧ Below w.heap.size w w' := by
  by_cases h : 0 ≤ op ∧ op < 46
  · obtain ⟨k, rfl⟩ := Int.eq_ofNat_of_zero_le h.1
    exact (rname_in k (by omega) w).mono fun _ _ h' => ⟨h'.1.trans (ret_str (nmI_in k (by omega)).symm), h'.2⟩
  · exact (rname_out op (by omega) w).mono fun _ _ h' => ⟨h'.1.trans (ret_str (nmI_out op (by omega)).symm), h'.2⟩
set_option maxHeartbeats 12000000 in
theorem InstNames_w (op : Int) (w : World) :
    Calls Try.prog 15 #[.int .i64 op] w fun e w' => e = .returned (.bool true) ∧ Below w.heap.size w w' := by
  go_enter Try.func15, Try.ntmps15
  go_wp2_with (first | (go_at_call 54; refine (awake2_c _).mono ?_; rintro e w1 ⟨rfl, hb1⟩) | (go_at_call 59; refine (iname_c _ _).mono ?_; rintro e w2 ⟨rfl, hb2⟩) | (go_at_call 60; refine (rname_c _ _).mono ?_; rintro e w3 ⟨rfl, hb3⟩) | (go_at_call 61; refine (iform_c _ _).mono ?_; rintro e w4 ⟨rfl, hb4⟩) | (go_at_call 62; refine (rform_c _ _).mono ?_; rintro e w5 ⟨rfl, rfl⟩))
  go_ret
  exact ⟨rfl, hb1.trans ((hb2.mono hb1.size).trans ((hb3.mono (Nat.le_trans hb1.size hb2.size)).trans (hb4.mono (Nat.le_trans hb1.size (Nat.le_trans hb2.size hb3.size)))))⟩
end Go.Proofs.Ytkfgfihmcjpgeaa
