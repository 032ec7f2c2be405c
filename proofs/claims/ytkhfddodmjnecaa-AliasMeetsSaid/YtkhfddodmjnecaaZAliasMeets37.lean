/-
 alias: reg, list, Things, Out, Exact, memory; the statements' rising.; alias: Things, Out, Exact, memory; the statements' rising.
-/
import Derived.Test.YtkhfddodmjnecaaZAliasMeets35
import Derived.Test.YtkhfddodmjnecaaZAliasMeets02
import Derived.Test.YtkhfddodmjnecaaZAliasMeets18

set_option linter.all false
namespace Go.Proofs.Ytkhfddodmjnecaa
open Go.ChangeShapes Go.WideShapes Go.ChangeAt Go.RowKit
set_option maxHeartbeats 4000000
set_option maxRecDepth 100000
set_option linter.unusedVariables false

theorem VwM.vsl {w0 w : World} {k : VwK} {x : AS} {sp : List Sp} (h : VwM w0 w k x sp) : ∃ a c, k.vR = .slice a k.bs.length c := by
 obtain ⟨a, c, e⟩ := row_form h.own
 exact ⟨a, c, e⟩
theorem regV_c (w0 : World) (k : VwK) (x : AS) (sp : List Sp) (r : Int) (w : World) (h : VwM w0 w k x sp) (hl : k.bs.length ≤ 1000) :
  Calls Try.prog 54 #[.pointer (some ⟨k.bv, 0, none⟩), .int .i64 r] w fun e w' => e = .returned (.bool (decide (0 ≤ r) && decide (r < (k.bs.length : Int)))) ∧ w' = w := by
 obtain ⟨a, c, hv⟩ := h.vsl
 have lv := h.lv
 have c7 : w.cell? ⟨k.bv, 7, none⟩ = some (.slice a k.bs.length c) := by rw [cell_of_heap h.hv 7, ← hv]; rfl
 clear h hv
 generalize k.bs.length = n at *
 generalize k.bv = bv at *
 cases h1 : decide (0 ≤ r)
 ·have h1' := h1
  have hn : r < 0 := by have := of_decide_eq_false h1; omega
  have h2 : decide (r ≥ 0) = false := h1
  go_enter Try.func54, Try.ntmps54
  go_wp2_with fail
  go_ret
  exact ⟨rfl, rfl⟩
 ·cases h2 : decide (r < (n : Int))
  ·go_enter Try.func54, Try.ntmps54
   go_wp2_with fail
   go_ret
   exact ⟨rfl, rfl⟩
  ·go_enter Try.func54, Try.ntmps54
   go_wp2_with fail
   go_ret
   exact ⟨rfl, rfl⟩
def listF (T x : Nat) : List Int := posU (fun t => x.testBit t) T
theorem listV_c (w0 : World) (k : VwK) (x : AS) (sp : List Sp) (b y : Nat) (w : World) (h : VwM w0 w k x sp) (hr : RowW w b y) (hy : y < 2 ^ 64) (hT : k.T ≤ 64) :
  Calls Try.prog 56 #[.pointer (some ⟨k.bv, 0, none⟩), slW b] w (RetI w (listF k.T y)) := by
 have lv := h.lv
 have c6 : w.cell? ⟨k.bv, 6, none⟩ = some (.int .i64 (k.T : Int)) := by rw [cell_of_heap h.hv 6]; rfl
 have HR := Lib.hid hr
 clear h hr
 generalize k.T = T at *
 generalize k.bv = bv at *
 have O0 : Hid (Own w w.heap.size w (.slice none 0 0) (posU (fun t => y.testBit t) 0)) := Own.nil (Nat.le_refl _)
 have HY := Lib.hid hy
 have lr := HR.out.lt
 clear hy
 unfold listF
 unfold slW
 go_enter Try.func56, Try.ntmps56
 go_wp2_with fail
 go_loopw [5, 11] (fun v i wr => ∃ (t : Nat), t ≤ T ∧ i = .int .i64 (t : Int) ∧ Hid (Own w w.heap.size wr v (posU (fun t => y.testBit t) t))) (fun _ i _ => T - (intOf i).toNat)
 case atStart => exact ⟨0, Nat.zero_le _, rfl, O0⟩
 case round =>
  clear O0 c6
  obtain ⟨t, ht, rfl, O⟩ := hrel
  have hbz := O.out.below.size
  by_cases hlt : t < T
  ·have gt : decide ((t : Int) < (T : Int)) = true := decide_eq_true (by omega)
   have hR : RowW wr b y := (O.out.below.block b lr).trans HR.out
   have hNk := posU_le (fun t => y.testBit t) t
   cases hh : y.testBit t
   ·have HN := Lib.hid (posU_no (h := fun t => y.testBit t) hh)
    have HC := Lib.hid (has_c b y t wr hR HY.out (by omega))
    rw [hh] at HC
    clear hh hR
    unfold slW at HC
    go_wp2_with (go_at_call 94; refine HC.out.mono ?_; rintro e w5 ⟨rfl, rfl⟩)
    go_roundw
    case rel => exact ⟨t + 1, hlt, by go_num, by rw [HN.out]; exact O⟩
    case measure => simp [intOf]; omega
   ·have HN := Lib.hid (posU_yes (h := fun t => y.testBit t) hh)
    have HC := Lib.hid (has_c b y t wr hR HY.out (by omega))
    rw [hh] at HC
    clear hh hR
    unfold slW at HC
    generalize posU (fun t => y.testBit t) t = lt at *
    obtain ⟨a1, c1, rfl⟩ := row_form O.out.own
    have O := O.out
    go_wp2_with first | (go_at_call 94; refine HC.out.mono ?_; rintro e w5 ⟨rfl, rfl⟩) | (at_builtin; refine app1 O rfl rfl rfl rfl (by simp) (by omega) ?_; intro v1 w2 O1)
    go_roundw
    case rel => exact ⟨t + 1, hlt, by go_num, by rw [HN.out]; exact O1⟩
    case measure => simp [intOf]; omega
  ·obtain rfl : t = T := by omega
   obtain ⟨a1, c1, rfl⟩ := row_form O.out.own
   go_wp2_with fail
   go_ret
   exact O.out.ret (Below.refl _ _) (Nat.le_refl _)
end Go.Proofs.Ytkhfddodmjnecaa

set_option linter.all false
namespace Go.Proofs.Ytkhfddodmjnecaa
open Go.ChangeShapes Go.WideShapes Go.ChangeAt Go.RowKit
set_option maxHeartbeats 4000000
set_option maxRecDepth 100000
set_option linter.unusedVariables false

theorem things_c (w0 : World) (k : VwK) (x : AS) (sp : List Sp) (r : Nat) (w : World) (h : VwM w0 w k x sp) (hr : r < k.bs.length) (hl : k.bs.length ≤ 1000) (hT : k.T ≤ 64) :
  Calls Try.prog 18 #[.pointer (some ⟨k.bv, 0, none⟩), .int .i64 (r : Int)] w (RetI w (listF k.T (x.regs.getD r 0))) := by
 have ER := Lib.hid (regV_c w0 k x sp (r : Int) w h hl)
 obtain ⟨g, c, hvR, hc1, hc2, hgl, hcr⟩ := h.at hr
 have c7 : w.cell? ⟨k.bv, 7, none⟩ = some (.slice (some ⟨g, 0, none⟩) k.bs.length c) := by rw [cell_of_heap h.hv 7, ← hvR]; rfl
 have EL := Lib.hid (listV_c w0 k x sp _ _ w h (h.row r hr).1 (h.row r hr).2 hT)
 have hd : (decide (0 ≤ (r : Int)) && decide ((r : Int) < (k.bs.length : Int))) = true := by simp; omega
 rw [hd] at ER
 have lv := h.lv
 clear hd h hvR
 unfold maxLen at hc2
 have g1 : decide (r < k.bs.length) = true := decide_eq_true hr
 have g2 : decide ((r : Int) < (k.bs.length : Int)) = true := decide_eq_true (by omega)
 generalize k.bs.getD r 0 = br at *
 generalize k.bs.length = n at *
 generalize listF k.T (x.regs.getD r 0) = L at *
 unfold slW at hcr EL
 go_enter Try.func18, Try.ntmps18
 go_wp2_with fail
 refine ER.out.mono ?_
 rintro e w1 ⟨rfl, rfl⟩
 go_wp2_with fail
 refine EL.out.mono ?_
 rintro e w2 ⟨v, rfl, ho, hb⟩
 obtain ⟨a1, c1, rfl⟩ := row_form ho
 go_wp2_with fail
 go_ret
 exact ⟨_, rfl, ho, hb⟩
def exV (k : VwK) (sp : List Sp) (r : Int) : Ex :=
 if 0 ≤ r ∧ r < (k.bs.length : Int) then (if (sp.getD r.toNat default).sets = 1 ∧ (sp.getD r.toNat default).is = true then ⟨(sp.getD r.toNat default).thing, (sp.getD r.toNat default).off, true⟩ else ⟨0, 0, false⟩) else ⟨0, 0, false⟩
def exT (e : Ex) : Value := .tuple #[.int .i64 e.thing, .int .i64 e.off, .bool e.is]
theorem exactV_c (w0 : World) (k : VwK) (x : AS) (sp : List Sp) (r : Int) (w : World) (h : VwM w0 w k x sp) (hl : k.bs.length ≤ 1000) :
  Calls Try.prog 20 #[.pointer (some ⟨k.bv, 0, none⟩), .int .i64 r] w fun e w' => e = .returned (exT (exV k sp r)) ∧ Below w.heap.size w w' := by
 have ER := Lib.hid (regV_c w0 k x sp r w h hl)
 by_cases hr : 0 ≤ r ∧ r < (k.bs.length : Int)
 ·obtain ⟨q, rfl⟩ := Int.eq_ofNat_of_zero_le hr.1
  have hq : q < k.bs.length := by omega
  have hqN : q < k.N := Nat.lt_of_lt_of_le hq h.pl
  have hd : (decide (0 ≤ (q : Int)) && decide ((q : Int) < (k.bs.length : Int))) = true := by simp; omega
  rw [hd] at ER
  have HE : Hid (exV k sp (q : Int) = if (sp.getD q default).sets = 1 ∧ (sp.getD q default).is = true then ⟨(sp.getD q default).thing, (sp.getD q default).off, true⟩ else ⟨0, 0, false⟩) := if_pos hr
  obtain ⟨g, c, hvS, hc1, hc2, hgl, -, hcs⟩ := h.sat hqN
  have c9 : w.cell? ⟨k.bv, 9, none⟩ = some (.slice (some ⟨g, 0, none⟩) k.N c) := by rw [cell_of_heap h.hv 9, ← hvS]; rfl
  have x0 := hcs 0 (by decide)
  have x1 := hcs 1 (by decide)
  have x2 := hcs 2 (by decide)
  have x3 := hcs 3 (by decide)
  simp only [spCells, List.getElem?_cons_zero, List.getElem?_cons_succ, Nat.add_zero] at x0 x1 x2 x3
  have x0 : w.cell? ⟨g, q * 4, none⟩ = _ := x0
  have gr1 : decide (q < k.N) = true := decide_eq_true hqN
  have gr2 : decide ((q : Int) < (k.N : Int)) = true := decide_eq_true (by omega)
  have lv := h.lv
  unfold maxLen at hc2
  clear hd h hvS hcs hr
  rw [HE.out]
  generalize sp.getD q default = S at *
  unfold exT
  by_cases h1 : S.sets = 1
  ·have n1 : (S.sets != 1) = false := by rw [h1]; rfl
   cases h2 : S.is
   ·rw [if_neg (fun z => by cases z.2)]
    rw [h2] at x3
    clear h1 h2
    go_enter Try.func20, Try.ntmps20
    go_wp2_with fail
    refine ER.out.mono ?_
    rintro e w1 ⟨rfl, rfl⟩
    go_wp2_with fail
    refine bodyPost_ret (v := .tuple #[.int .i64 0, .int .i64 0, .bool false]) (by simp [results, Try.results20, go_sem]) rfl ?_
    exact ⟨rfl, Below.refl _ _⟩
   ·rw [if_pos ⟨h1, rfl⟩]
    rw [h2] at x3
    clear h1 h2
    go_enter Try.func20, Try.ntmps20
    go_wp2_with fail
    refine ER.out.mono ?_
    rintro e w1 ⟨rfl, rfl⟩
    go_wp2_with fail
    go_quiet (fail)
    go_wp2_with fail
    refine bodyPost_ret (v := .tuple #[.int .i64 S.thing, .int .i64 S.off, .bool true]) (by simp [results, Try.results20, go_sem]) rfl ?_
    exact ⟨rfl, drewN_b (Below.refl _ _) _⟩
  ·rw [if_neg (fun z => h1 z.1)]
   have n1 : (S.sets != 1) = true := by rw [bne_iff_ne]; exact h1
   clear h1
   go_enter Try.func20, Try.ntmps20
   go_wp2_with fail
   refine ER.out.mono ?_
   rintro e w1 ⟨rfl, rfl⟩
   go_wp2_with fail
   refine bodyPost_ret (v := .tuple #[.int .i64 0, .int .i64 0, .bool false]) (by simp [results, Try.results20, go_sem]) rfl ?_
   exact ⟨rfl, Below.refl _ _⟩
 ·have hd : (decide (0 ≤ r) && decide (r < (k.bs.length : Int))) = false := by
   rw [← Bool.decide_and]; exact decide_eq_false hr
  rw [hd] at ER
  have HE : Hid (exV k sp r = ⟨0, 0, false⟩) := if_neg hr
  rw [HE.out]
  unfold exT
  clear hd h hr
  go_enter Try.func20, Try.ntmps20
  go_wp2_with fail
  refine ER.out.mono ?_
  rintro e w1 ⟨rfl, rfl⟩
  go_wp2_with fail
  refine bodyPost_ret (v := .tuple #[.int .i64 0, .int .i64 0, .bool false]) (by simp [results, Try.results20, go_sem]) rfl ?_
  exact ⟨rfl, Below.refl _ _⟩
def memF (i : In) : Bool := i.op == 5 || i.op == 6
theorem memory_c (i : In) (va : Value) (w : World) : Calls Try.prog 53 #[aggI i va] w fun e w' => e = .returned (.bool (memF i)) ∧ Below w.heap.size w w' := by
 unfold aggI
 have hR : Hid (memF i = (i.op == 5 || i.op == 6)) := rfl
 cases h5 : (i.op == 5) <;> cases h6 : (i.op == 6)
 all_goals
  rw [h5, h6] at hR
  go_enter Try.func53, Try.ntmps53
  go_wp2_with fail
  go_ret
  exact ⟨ret_b hR.out.symm, below_alloc _ _⟩
end Go.Proofs.Ytkhfddodmjnecaa
