/-
 The document's answer for alias: the struct All in memory while it is reckoned.; The document's answer for alias: how many things all lists have.
-/
import Derived.Test.YtkhfddodmjnecaaZAliasMeets39
import Derived.Test.YtkhfddodmjnecaaZAliasMeets04
import Derived.Test.YtkhfddodmjnecaaZAliasMeets26
import Derived.Test.YtkhfddodmjnecaaZAliasMeets15
import Derived.Test.YtkhfddodmjnecaaZAliasMeets10

set_option linter.all false
namespace Go.Proofs.Ytkhfddodmjnecaa
open Go.ChangeShapes Go.WideShapes Go.ChangeAt Go.RowKit
set_option maxHeartbeats 4000000
set_option maxRecDepth 100000
set_option linter.unusedVariables false

structure AlK where
 bx : Nat
 vr : Value
 rs : List (Nat × Nat)
 ro : Nat × Nat
 T : Nat
 n : Nat
def AlK.setR (k : AlK) (d g c : Nat) : AlK := ⟨k.bx, k.vr, k.rs.set d (g, c), k.ro, k.T, k.n⟩
def AlK.setO (k : AlK) (g c : Nat) : AlK := ⟨k.bx, k.vr, k.rs, (g, c), k.T, k.n⟩
structure AlM (w0 w : World) (k : AlK) (x : AR) : Prop where
 bx : w0.heap.size ≤ k.bx
 hv : w.heap[k.bx]? = some (.cells #[k.vr, rowV k.ro.1 k.T k.ro.2] 47)
 tab : TabV w w0.heap.size k.vr (k.rs.map fun r => rowV r.1 k.T r.2)
 rl : k.rs.length = k.n
 row : ∀ r, r < k.n → RowB w (k.rs.getD r (0, 0)).1 k.T (k.rs.getD r (0, 0)).2 (x.regs.getD r [])
 out : RowB w k.ro.1 k.T k.ro.2 x.out
 ok : x.Ok k.n k.T
 below : Below w0.heap.size w0 w
theorem AlM.grow {w0 w w' : World} {k : AlK} {x : AR} (h : AlM w0 w k x) (hb : Below w.heap.size w w') : AlM w0 w' k x :=
 ⟨h.bx, (hb.block _ (Array.getElem?_eq_some_iff.1 h.hv).1).trans h.hv, h.tab.below hb, h.rl, fun r hr => (h.row r hr).below hb, h.out.below hb, h.ok, h.below.trans (hb.mono h.below.size)⟩
theorem AlM.lt {w0 w : World} {k : AlK} {x : AR} (h : AlM w0 w k x) : k.bx < w.heap.size := (Array.getElem?_eq_some_iff.1 h.hv).1
theorem RowB.set_other {w : World} {g n c : Nat} {l : List Bool} (h : RowB w g n c l) {b i : Nat} (v : Value) (hb : b ≠ g) : RowB (w.setCell ⟨b, i, none⟩ v) g n c l := by
 obtain ⟨h1, h2 | ⟨g', cap, cur, h3, h4, h5, r⟩⟩ := h
 ·exact ⟨h1, .inl h2⟩
 ·refine ⟨h1, .inr ⟨g', cap, cur, h3, h4, (Below.heap_setCell w ⟨b, i, none⟩ v g' ?_).trans h5, r⟩⟩
  simp only [Value.slice.injEq, Option.some.injEq, Addr.mk.injEq] at h3
  intro e
  have : g' = b := e
  omega
theorem TabV.set_other {w : World} {B : Nat} {tv : Value} {L : List Value} (h : TabV w B tv L) {b i : Nat} (v : Value) (hb : tv.ownBlock ≠ some b) : TabV (w.setCell ⟨b, i, none⟩ v) B tv L := by
 obtain ⟨h1, h2 | ⟨g', cap, cur, rfl, h4, h5, r⟩⟩ := h
 ·exact ⟨h1, .inl h2⟩
 ·refine ⟨h1, .inr ⟨g', cap, cur, rfl, h4, (Below.heap_setCell w ⟨b, i, none⟩ v g' ?_).trans h5, r⟩⟩
  intro e
  exact hb (by simp only [Value.ownBlock, Option.some.injEq]; exact e)
theorem AlM.bx_ne_row {w0 w : World} {k : AlK} {x : AR} (h : AlM w0 w k x) {g n c : Nat} {l : List Bool} (hr : RowB w g n c l) : k.bx ≠ g := by
 intro e
 obtain ⟨cur, h2⟩ := hr.heap
 have := h.hv
 rw [e, h2] at this
 simp at this
theorem AlM.bx_ne_tab {w0 w : World} {k : AlK} {x : AR} (h : AlM w0 w k x) : k.vr.ownBlock ≠ some k.bx := by
 intro e
 obtain ⟨cur, h2⟩ := h.tab.heap e
 have := h.hv
 rw [h2] at this
 simp at this
theorem AlM.setO {w0 w : World} {k : AlK} {x : AR} (h : AlM w0 w k x) {g c : Nat} {l : List Bool} (hr : RowB w g k.T c l) (hl : l.length = k.T) : AlM w0 (w.setCell ⟨k.bx, 1, none⟩ (rowV g k.T c)) (k.setO g c) ⟨x.regs, l⟩ := by
 refine ⟨h.bx, ?_, h.tab.set_other _ h.bx_ne_tab, h.rl, fun r hr' => (h.row r hr').set_other _ (h.bx_ne_row (h.row r hr')), hr.set_other _ (h.bx_ne_row hr), ⟨h.ok.rows, h.ok.row, hl⟩, ?_⟩
 ·exact heap_setCell_same _ _ 1 _ _ _ h.hv
 ·exact ⟨h.below.os, h.below.tape, h.below.output, by simpa [World.setCell] using h.below.size, fun j hj => (Below.heap_setCell w ⟨k.bx, 1, none⟩ _ j (by have := h.bx; show j ≠ k.bx; omega)).trans (h.below.block j hj)⟩
theorem AlM.setR {w0 w : World} {k : AlK} {x : AR} (h : AlM w0 w k x) {br cp : Nat} (hv : k.vr = .slice (some ⟨br, 0, none⟩) k.n cp) {d g c : Nat} {l : List Bool} (hd : d < k.n) (hr : RowB w g k.T c l) (hl : l.length = k.T) : AlM w0 (w.setCell ⟨br, d, none⟩ (rowV g k.T c)) (k.setR d g c) ⟨x.regs.set d l, x.out⟩ := by
 have hT := h.tab
 have hbb : w0.heap.size ≤ br := (World.ownsRow.lt hT br (by rw [hv]; rfl)).1
 have hne : k.bx ≠ br := fun e => h.bx_ne_tab (by rw [hv]; simp [Value.ownBlock, e])
 have hrow : ∀ {g n c : Nat} {l : List Bool}, RowB w g n c l → br ≠ g := fun hr e => tab_ne_row hT hr (by rw [hv]; simp [Value.ownBlock, e])
 refine ⟨h.bx, ?_, ?_, ?_, fun r hr' => ?_, h.out.set_other _ (hrow h.out), ⟨?_, ?_, h.ok.out⟩, ?_⟩
 ·exact (Below.heap_setCell w ⟨br, d, none⟩ _ k.bx hne).trans h.hv
 ·have hT2 := hT
  unfold TabV at hT2
  rw [hv, List.length_map, h.rl] at hT2
  have := (World.ownsRow.stored hT2 d (rowV g k.T c)).1
  show TabV _ _ k.vr ((k.rs.set d (g, c)).map _)
  unfold TabV
  rw [List.map_set, List.length_set, List.length_map, h.rl, hv]
  exact this
 ·show (k.rs.set d (g, c)).length = _
  rw [List.length_set]; exact h.rl
 ·show RowB _ ((k.rs.set d (g, c)).getD r (0, 0)).1 k.T ((k.rs.set d (g, c)).getD r (0, 0)).2 ((x.regs.set d l).getD r [])
  by_cases e : r = d
  ·subst e
   have e1 : (k.rs.set r (g, c)).getD r (0, 0) = (g, c) := by simp [List.getD, List.getElem?_set, h.rl, hd]
   have e2 : (x.regs.set r l).getD r [] = l := by simp [List.getD, List.getElem?_set, h.ok.rows, hd]
   rw [e1, e2]
   exact hr.set_other _ (hrow hr)
  ·have e1 : (k.rs.set d (g, c)).getD r (0, 0) = k.rs.getD r (0, 0) := by simp [List.getD, List.getElem?_set, Ne.symm e]
   have e2 : (x.regs.set d l).getD r [] = x.regs.getD r [] := by simp [List.getD, List.getElem?_set, Ne.symm e]
   rw [e1, e2]
   exact (h.row r hr').set_other _ (hrow (h.row r hr'))
 ·show (x.regs.set d l).length = _
  rw [List.length_set]; exact h.ok.rows
 ·intro l' hl'
  rcases List.mem_or_eq_of_mem_set hl' with h1 | rfl
  ·exact h.ok.row l' h1
  ·exact hl
 ·exact ⟨h.below.os, h.below.tape, h.below.output, by simpa [World.setCell] using h.below.size, fun j hj => (Below.heap_setCell w ⟨br, d, none⟩ _ j (by show j ≠ br; omega)).trans (h.below.block j hj)⟩
/-- the table's cells -/
theorem AlM.at {w0 w : World} {k : AlK} {x : AR} (h : AlM w0 w k x) {d : Nat} (hd : d < k.n) : ∃ br cp, k.vr = .slice (some ⟨br, 0, none⟩) k.n cp ∧ k.n ≤ cp ∧ cp ≤ maxLen ∧ br < w.heap.size ∧ w0.heap.size ≤ br ∧ (∀ r, r < k.n → w.cell? ⟨br, r, none⟩ = some (rowV (k.rs.getD r (0, 0)).1 k.T (k.rs.getD r (0, 0)).2)) ∧ (∀ r, w.frozen? ⟨br, r, none⟩ = false) := by
 have hT := h.tab
 obtain ⟨-, ⟨hv, h0⟩ | ⟨g, cap, cur, hv, hb, hh, hn, hc, -⟩⟩ := h.tab
 ·rw [List.length_map, h.rl] at h0; omega
 ·have hT2 := hT
  rw [List.length_map, h.rl] at hv hn
  unfold TabV at hT2
  rw [hv, List.length_map] at hT2
  have R := own_rows (f := fun r : Nat × Nat => rowV r.1 k.T r.2) (0, 0) hT2
  rw [h.rl] at hT2
  have hf := World.ownsRow.frozenAt hT2
  obtain ⟨a', c', e, -, -, R⟩ := R
  simp only [Value.slice.injEq] at e
  obtain ⟨e, -, -⟩ := e
  refine ⟨g, cap, hv, hn, hc, (Array.getElem?_eq_some_iff.1 hh).1, hb, fun r hr => ?_, hf⟩
  obtain ⟨b, o, e2, hcell⟩ := R r (by rw [h.rl]; exact hr)
  rw [← e] at e2
  simp only [Option.some.injEq, Addr.mk.injEq] at e2
  obtain ⟨rfl, rfl, -⟩ := e2
  simpa using hcell
end Go.Proofs.Ytkhfddodmjnecaa

set_option linter.all false
namespace Go.Proofs.Ytkhfddodmjnecaa
open Go.ChangeShapes Go.WideShapes Go.ChangeAt Go.RowKit
set_option maxHeartbeats 4000000
set_option maxRecDepth 100000
set_option linter.unusedVariables false

theorem cntL_take (l : List Bool) (t : Nat) (h : t < l.length) : cntL (l.take (t + 1)) = cntL (l.take t) + (if l.getD t false = true then 1 else 0) := by
 unfold cntL
 rw [List.take_succ, List.countP_append, List.getElem?_eq_getElem h]
 simp only [List.getD, List.getElem?_eq_getElem h, Option.getD_some, Option.toList_some, List.countP_cons, List.countP_nil]
 cases l[t] <;> simp
theorem cntL_le (l : List Bool) : cntL l ≤ l.length := List.countP_le_length
def cntS (x : AR) (r : Nat) : Nat := ((x.regs.take r).map cntL).sum
theorem cntS_succ (x : AR) (r : Nat) (h : r < x.regs.length) : cntS x (r + 1) = cntS x r + cntL (x.regs.getD r []) := by
 unfold cntS
 rw [List.take_succ, List.getElem?_eq_getElem h, Option.toList_some, List.map_append, List.sum_append]
 simp [List.getD, List.getElem?_eq_getElem h]
theorem cntS_le {x : AR} {n T : Nat} (hk : x.Ok n T) : ∀ r, r ≤ n → cntS x r ≤ r * T
 | 0, _ => by simp [cntS]
 | r + 1, h => by
  have hr : r < x.regs.length := by rw [hk.rows]; omega
  rw [cntS_succ x r hr, Nat.succ_mul]
  have h1 := cntS_le hk r (by omega)
  have h2 := cntL_le (x.regs.getD r [])
  have h3 : (x.regs.getD r []).length = T := hk.get (some r) fun q e => by cases e; omega
  omega
theorem count21_c (w0 w : World) (k : AlK) (x : AR) (h : AlM w0 w k x) (hn : k.n ≤ 1000) (hT : k.T ≤ 1000) :
  Calls Try.prog 50 #[.pointer (some ⟨k.bx, 0, none⟩)] w fun e w' => e = .returned (.int .i64 (x.count : Int)) ∧ w' = w := by
 obtain ⟨av, cv, hvr⟩ : ∃ a c, k.vr = .slice a k.n c := by
  obtain ⟨-, ⟨e, h2⟩ | ⟨g, cap, cur, e, -⟩⟩ := h.tab
  ·rw [List.length_map, h.rl] at h2
   exact ⟨none, 0, by rw [e, h2]⟩
  ·rw [List.length_map, h.rl] at e
   exact ⟨_, _, e⟩
 have c0 : w.cell? ⟨k.bx, 0, none⟩ = some (.slice av k.n cv) := by rw [cell_of_heap h.hv 0, ← hvr]; rfl
 have c1 : w.cell? ⟨k.bx, 1, none⟩ = some (rowV k.ro.1 k.T k.ro.2) := by rw [cell_of_heap h.hv 1]; rfl
 have HC : Hid (x.count = cntS x k.n + cntL x.out) := by
  show x.count = _
  unfold AR.count cntS
  rw [List.take_of_length_le (by rw [h.ok.rows]; exact Nat.le_refl _)]
 have HA := Lib.hid (fun d hd => h.at (d := d) hd)
 have HRow := Lib.hid h.row
 have HS : Hid (∀ r, r < k.n → cntS x (r + 1) = cntS x r + cntL (x.regs.getD r [])) := fun r hr => cntS_succ x r (by rw [h.ok.rows]; exact hr)
 have HB : Hid (∀ r, r ≤ k.n → cntS x r ≤ 1000000) := fun r hr => Nat.le_trans (cntS_le h.ok r hr) (Nat.le_trans (Nat.mul_le_mul (Nat.le_trans hr hn) hT) (by decide))
 have HO := Lib.hid h.out.cellAt
 have HOl := Lib.hid h.ok.out
 have HRl : Hid (∀ r, r < k.n → (x.regs.getD r []).length = k.T) := fun r hr => h.ok.get (some r) fun q e => by cases e; omega
 have hbx := h.lt
 generalize x.count = N at *
 clear h
 unfold rowV at c1
 go_enter Try.func50, Try.ntmps50
 go_wp2_with fail
 go_loopw [3, 4] (fun n i wr => ∃ j : Nat, j ≤ k.n ∧ i = .int .i64 (j : Int) ∧ n = .int .i64 (cntS x j : Int) ∧ w = wr) (fun _ i _ => k.n - (intOf i).toNat)
 case atStart => exact ⟨0, Nat.zero_le _, rfl, rfl, rfl⟩
 case round =>
  obtain ⟨j, hj, rfl, rfl, rfl⟩ := hrel
  have hb1 := HB.out j hj
  by_cases hlt : j < k.n
  ·obtain ⟨br, cp, hv2, e1, e2, e3, -, e4, -⟩ := HA.out j hlt
   rw [hvr] at hv2
   simp only [Value.slice.injEq] at hv2
   obtain ⟨rfl, -, rfl⟩ := hv2
   have y4 := e4 j hlt
   clear e4
   obtain ⟨-, f1, f2, -, f3, -, f4⟩ := (HRow.out j hlt).cellAt
   have HF := Lib.hid f3
   have hL := HRl.out j hlt
   have HN := Lib.hid (HS.out j hlt)
   unfold rowV at y4
   unfold maxLen at e2 f2
   generalize k.rs.getD j (0, 0) = R at *
   obtain ⟨rg, rc⟩ := R
   dsimp only at y4 f2 f3 f4 HF
   have gj : decide ((j : Int) < (k.n : Int)) = true := decide_eq_true (by omega)
   have gj2 : decide (j < k.n) = true := decide_eq_true hlt
   have HLt : Hid (∀ t, t < k.T → cntL ((x.regs.getD j []).take (t + 1)) = cntL ((x.regs.getD j []).take t) + (if (x.regs.getD j []).getD t false = true then 1 else 0)) := fun t ht => cntL_take _ t (by omega)
   have HLe : Hid (∀ t, cntL ((x.regs.getD j []).take t) ≤ t) := fun t => Nat.le_trans (cntL_le _) (by rw [List.length_take]; omega)
   have HLa : Hid (cntL ((x.regs.getD j []).take k.T) = cntL (x.regs.getD j [])) := by
    show _ = _
    rw [List.take_of_length_le (by omega)]
   clear f3 hL
   generalize x.regs.getD j [] = L at *
   generalize hS : cntS x j = S at *
   clear hS
   go_wp2_with fail
   go_loopw [3, 5] (fun n i wx => ∃ t : Nat, t ≤ k.T ∧ i = .int .i64 (t : Int) ∧ n = .int .i64 ((S + cntL (L.take t) : Nat) : Int) ∧ w = wx) (fun _ i _ => k.T - (intOf i).toNat)
   case atStart => exact ⟨0, Nat.zero_le _, rfl, by simp [cntL], rfl⟩
   case round =>
    obtain ⟨t, ht, rfl, rfl, rfl⟩ := hrel
    have hle := HLe.out t
    by_cases hlt2 : t < k.T
    ·have gt : decide ((t : Int) < (k.T : Int)) = true := decide_eq_true (by omega)
     have gt2 : decide (t < k.T) = true := decide_eq_true hlt2
     have c2 := HF.out t hlt2
     have HN2 := Lib.hid (HLt.out t hlt2)
     cases hb : L.getD t false
     ·rw [hb] at c2 HN2
      clear hb
      go_wp2_with fail
      go_roundw
      case rel => exact ⟨t + 1, by omega, by go_num, by rw [HN2.out]; simp, by first | rfl | trivial⟩
      case measure => simp [intOf]; omega
     ·rw [hb] at c2 HN2
      clear hb
      go_wp2_with fail
      go_roundw
      case rel => exact ⟨t + 1, by omega, by go_num, by rw [HN2.out]; simp; go_num, by first | rfl | trivial⟩
      case measure => simp [intOf]; omega
    ·obtain rfl : t = k.T := by omega
     go_wp2_with fail
     go_roundw
     case rel => exact ⟨j + 1, by omega, by go_num, by rw [HN.out, HLa.out], by first | rfl | trivial⟩
     case measure => simp [intOf]; omega
  ·obtain rfl : j = k.n := by omega
   obtain ⟨-, f1, f2, -, f3, -, f4⟩ := HO.out
   have HF := Lib.hid f3
   have hL := HOl.out
   unfold maxLen at f2
   have HLt : Hid (∀ t, t < k.T → cntL (x.out.take (t + 1)) = cntL (x.out.take t) + (if x.out.getD t false = true then 1 else 0)) := fun t ht => cntL_take _ t (by omega)
   have HLe : Hid (∀ t, cntL (x.out.take t) ≤ t) := fun t => Nat.le_trans (cntL_le _) (by rw [List.length_take]; omega)
   have HLa : Hid (cntL (x.out.take k.T) = cntL x.out) := by
    show _ = _
    rw [List.take_of_length_le (by omega)]
   clear f3 hL
   generalize x.out = L at *
   generalize hS : cntS x k.n = S at *
   clear hS
   go_wp2_with fail
   go_loopw [3, 6] (fun n i wx => ∃ t : Nat, t ≤ k.T ∧ i = .int .i64 (t : Int) ∧ n = .int .i64 ((S + cntL (L.take t) : Nat) : Int) ∧ w = wx) (fun _ i _ => k.T - (intOf i).toNat)
   case atStart => exact ⟨0, Nat.zero_le _, rfl, by simp [cntL], rfl⟩
   case round =>
    obtain ⟨t, ht, rfl, rfl, rfl⟩ := hrel
    have hle := HLe.out t
    by_cases hlt2 : t < k.T
    ·have gt : decide ((t : Int) < (k.T : Int)) = true := decide_eq_true (by omega)
     have gt2 : decide (t < k.T) = true := decide_eq_true hlt2
     have c2 := HF.out t hlt2
     have HN2 := Lib.hid (HLt.out t hlt2)
     cases hb : L.getD t false
     ·rw [hb] at c2 HN2
      clear hb
      go_wp2_with fail
      go_roundw
      case rel => exact ⟨t + 1, by omega, by go_num, by rw [HN2.out]; simp, by first | rfl | trivial⟩
      case measure => simp [intOf]; omega
     ·rw [hb] at c2 HN2
      clear hb
      go_wp2_with fail
      go_roundw
      case rel => exact ⟨t + 1, by omega, by go_num, by rw [HN2.out]; simp; go_num, by first | rfl | trivial⟩
      case measure => simp [intOf]; omega
    ·obtain rfl : t = k.T := by omega
     go_wp2_with fail
     go_ret
     rw [HC.out, HLa.out]
     exact ⟨rfl, rfl⟩
end Go.Proofs.Ytkhfddodmjnecaa
