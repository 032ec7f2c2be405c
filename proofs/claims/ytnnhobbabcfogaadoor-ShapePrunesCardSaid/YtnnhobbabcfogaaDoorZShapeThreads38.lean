/-
  The page's example answers yes.; Contracts of the parts of ir.Check: slots, offsets, registers, blocks, ends, bare instructions.
-/
import Derived.Test.YtnnhobbabcfogaaDoorZShapeThreads37
import Derived.Test.YtnnhobbabcfogaaDoorZShapeThreads07
import Derived.Test.YtnnhobbabcfogaaDoorZShapeThreads00

set_option linter.all false
namespace Go.Proofs.YtnnhobbabcfogaaDoor
open Go.ChangeShapes Go.WideShapes Go.ChangeAt Go.RowKit Go.Maps
set_option maxHeartbeats 4000000
set_option linter.unusedVariables false
set_option maxRecDepth 100000

theorem awake19_c (w : World) : Calls Tryd.prog 28 #[] w fun e w' => e = .returned (.bool true) ∧ Below w.heap.size w w' := by
  obtain ⟨W1, hW1⟩ : ∃ W1, W1 = (w.alloc (.cells #[.int .i64 1, .int .i64 0, .int .i64 (-1), .int .i64 (-1), .int .i64 0, .int .i64 0, .int .i64 0, .int .i64 0, .int .u32 1, .slice none 0 0, .bool false] 45)).alloc (.cells #[.slice (some ⟨w.heap.size, 0, none⟩) 1 1, .int .i64 1, .int .i64 (-1), .int .i64 1, .int .i64 0, .slice (some ⟨w.heap.size, 0, none⟩) 1 1, .int .i64 1, .int .i64 (-1), .int .i64 2, .int .i64 0, .slice (some ⟨w.heap.size, 0, none⟩) 1 1, .int .i64 3, .int .i64 0, .int .i64 0, .int .i64 0] 40) := ⟨_, rfl⟩
  have hW1' : W1 = allocs w [.cells #[.int .i64 1, .int .i64 0, .int .i64 (-1), .int .i64 (-1), .int .i64 0, .int .i64 0, .int .i64 0, .int .i64 0, .int .u32 1, .slice none 0 0, .bool false] 45, .cells #[.slice (some ⟨w.heap.size, 0, none⟩) 1 1, .int .i64 1, .int .i64 (-1), .int .i64 1, .int .i64 0, .slice (some ⟨w.heap.size, 0, none⟩) 1 1, .int .i64 1, .int .i64 (-1), .int .i64 2, .int .i64 0, .slice (some ⟨w.heap.size, 0, none⟩) 1 1, .int .i64 3, .int .i64 0, .int .i64 0, .int .i64 0] 40] := hW1
  have B1 : Hid (Below w.heap.size w W1) := by rw [hW1']; exact allocs_below _ _
  have H0 : W1.heap[w.heap.size]? = some (.cells #[.int .i64 1, .int .i64 0, .int .i64 (-1), .int .i64 (-1), .int .i64 0, .int .i64 0, .int .i64 0, .int .i64 0, .int .u32 1, .slice none 0 0, .bool false] 45 (0, 0)) := by rw [hW1']; exact allocs_heap _ w 0 (by simp)
  have H1 : W1.heap[w.heap.size + 1]? = some (.cells #[.slice (some ⟨w.heap.size, 0, none⟩) 1 1, .int .i64 1, .int .i64 (-1), .int .i64 1, .int .i64 0, .slice (some ⟨w.heap.size, 0, none⟩) 1 1, .int .i64 1, .int .i64 (-1), .int .i64 2, .int .i64 0, .slice (some ⟨w.heap.size, 0, none⟩) 1 1, .int .i64 3, .int .i64 0, .int .i64 0, .int .i64 0] 40 (0, 0)) := by rw [hW1']; exact allocs_heap _ w 1 (by simp)
  have k0 : ∀ j u, (#[Value.int .i64 1, .int .i64 0, .int .i64 (-1), .int .i64 (-1), .int .i64 0, .int .i64 0, .int .i64 0, .int .i64 0, .int .u32 1, .slice none 0 0, .bool false])[j]? = some u → W1.cell? ⟨w.heap.size, j, none⟩ = some u := fun j u h => (cell_of_heap H0 j).trans h
  have k1 : ∀ j u, (#[Value.slice (some ⟨w.heap.size, 0, none⟩) 1 1, .int .i64 1, .int .i64 (-1), .int .i64 1, .int .i64 0, .slice (some ⟨w.heap.size, 0, none⟩) 1 1, .int .i64 1, .int .i64 (-1), .int .i64 2, .int .i64 0, .slice (some ⟨w.heap.size, 0, none⟩) 1 1, .int .i64 3, .int .i64 0, .int .i64 0, .int .i64 0])[j]? = some u → W1.cell? ⟨w.heap.size + 1, j, none⟩ = some u := fun j u h => (cell_of_heap H1 j).trans h
  have hins : RdIns W1 (.slice (some ⟨w.heap.size, 0, none⟩) 1 1) [I0] := by
    refine ⟨_, _, rfl, Nat.le_refl _, by unfold maxLen; omega, fun i hi => ⟨_, _, rfl, ?_⟩⟩
    obtain rfl : i = 0 := by simp at hi; omega
    exact ⟨k0 0 _ rfl, k0 1 _ rfl, k0 2 _ rfl, k0 3 _ rfl, k0 4 _ rfl, k0 5 _ rfl, k0 6 _ rfl, k0 7 _ rfl, k0 8 _ rfl, ⟨_, k0 9 _ rfl, ⟨none, 0, rfl, Nat.le_refl _, Nat.zero_le _, fun i hi => absurd hi (Nat.not_lt_zero i)⟩⟩, k0 10 _ rfl⟩
  have hbks : RdBks W1 (.slice (some ⟨w.heap.size + 1, 0, none⟩) 3 3) P0.blks := by
    refine ⟨_, _, rfl, Nat.le_refl _, by unfold maxLen; omega, fun i hi => ⟨_, _, rfl, ?_⟩⟩
    have h3 : i = 0 ∨ i = 1 ∨ i = 2 := by simp [P0] at hi; omega
    rcases h3 with rfl | rfl | rfl
    · exact ⟨⟨_, k1 0 _ rfl, hins⟩, k1 1 _ rfl, k1 2 _ rfl, k1 3 _ rfl, k1 4 _ rfl⟩
    · exact ⟨⟨_, k1 5 _ rfl, hins⟩, k1 6 _ rfl, k1 7 _ rfl, k1 8 _ rfl, k1 9 _ rfl⟩
    · exact ⟨⟨_, k1 10 _ rfl, hins⟩, k1 11 _ rfl, k1 12 _ rfl, k1 13 _ rfl, k1 14 _ rfl⟩
  have HT := Lib.hid (tidy_c (.agg #[.string { data := #[] }, .bool false, .int .i64 0, .int .i64 1, .slice none 0 0, .slice (some ⟨w.heap.size + 1, 0, none⟩) 3 3]) W1 ⟨{ data := #[] }, _, _, rfl, ⟨none, 0, rfl, Nat.le_refl _, Nat.zero_le _, fun i hi => absurd hi (Nat.not_lt_zero i)⟩, hbks⟩)
  clear hbks hins k0 k1 H0 H1 hW1'
  go_enter Tryd.func28, Tryd.ntmps28
  go_wp2_with fail
  rw [← hW1]
  clear hW1
  refine HT.out.mono ?_
  rintro e w3 ⟨v3, rfl, hp3, hb3⟩
  obtain ⟨nm, ao, ab, co, cb, rfl, -, hk⟩ := hp3.form (n := 1) rfl rfl rfl rfl rfl
  obtain ⟨a', c', e1, h1, h2, h4⟩ := hk
  simp only [Value.slice.injEq] at e1
  obtain ⟨rfl, -, rfl⟩ := e1
  obtain ⟨b, o, rfl, ⟨⟨va, q0, hva⟩, -, -, -, -⟩⟩ := h4 0 (by decide)
  obtain ⟨ai, ci, rfl, -⟩ := hva
  have q0 : w3.cell? ⟨b, o, none⟩ = some (.slice ai 3 ci) := q0
  have lb : b < w3.heap.size := World.block_lt_of_cell? w3 _ q0
  have BB := Lib.hid (B1.out.trans (hb3.mono B1.out.size))
  clear hp3 hb3 h4 h1 h2 B1 HT
  go_wp2_with fail
  go_ret
  exact ⟨rfl, BB.out.trans ((below_alloc _ _).mono BB.out.size)⟩
end Go.Proofs.YtnnhobbabcfogaaDoor

set_option linter.all false
namespace Go.Proofs.YtnnhobbabcfogaaDoor
open Go.ChangeShapes Go.WideShapes Go.ChangeAt Go.RowKit
set_option maxHeartbeats 2000000
set_option maxRecDepth 20000

/-- a module and a procedure by value, as a procedure is looked at -/
def LkV (w : World) (v : Value) (m : Md) (p : Pr) : Prop :=
  ∃ vg vd vp nm vo vb, v = .agg #[vg, vd, vp, .int .i64 m.main, .string nm, .bool p.void, .int .i64 p.params, .int .i64 p.regs, vo, vb] ∧ RdSls w vg m.globs ∧ RdYs w vd m.data ∧ RdPrs w vp m.procs ∧ RdSls w vo p.objs ∧ RdBks w vb p.blks
theorem LkV.ext {w w' : World} {v : Value} {m : Md} {p : Pr} (h : LkV w v m p) (he : Ext w w') : LkV w' v m p := by
  obtain ⟨vg, vd, vp, nm, vo, vb, e, h1, h2, h3, h4, h5⟩ := h
  exact ⟨vg, vd, vp, nm, vo, vb, e, h1.ext he, h2.ext he, h3.ext he, h4.ext he, h5.ext he⟩
theorem RdSls.at {w : World} {a : Option Addr} {n c : Nat} {l : List Sl} (h : RdSls w (.slice a n c) l) : n = l.length ∧ ∀ k, k < l.length → ∃ b o nm, a = some ⟨b, o, none⟩ ∧ w.cell? ⟨b, o + k * 4, none⟩ = some (.string nm) ∧ w.cell? ⟨b, o + k * 4 + 1, none⟩ = some (.int .i64 (l.getD k default).size) ∧
    w.cell? ⟨b, o + k * 4 + 2, none⟩ = some (.int .i64 (l.getD k default).align) ∧ w.cell? ⟨b, o + k * 4 + 3, none⟩ = some (.int .i64 (l.getD k default).cell) := by
  obtain ⟨a', c', e, h1, h2, hc⟩ := h
  simp only [Value.slice.injEq] at e
  obtain ⟨rfl, rfl, rfl⟩ := e
  refine ⟨rfl, fun k hk => ?_⟩
  obtain ⟨b, o, rfl, ⟨nm, h0⟩, h1, h2, h3⟩ := hc k hk
  exact ⟨b, o, nm, rfl, by simpa using h0, h1, h2, h3⟩
theorem off_c (n : Int) (w : World) : Calls Tryd.prog 81 #[.int .i64 n] w fun e w' => e = .returned (.bool (offF n)) ∧ w = w' := by
  by_cases h1 : -32768 ≤ n
  · have e1 : decide (-32768 ≤ n) = true := decide_eq_true h1
    have HF : Hid (offF n = decide (n ≤ 32768)) := by show _ = _; unfold offF; rw [e1]; rfl
    go_enter Tryd.func81, Tryd.ntmps81
    go_wp2
    go_ret
    exact ⟨ret_b HF.out.symm, rfl⟩
  · have e1 : decide (-32768 ≤ n) = false := decide_eq_false h1
    have HF : Hid (offF n = false) := by show _ = _; unfold offF; rw [e1]; rfl
    go_enter Tryd.func81, Tryd.ntmps81
    go_wp2
    go_ret
    exact ⟨ret_b HF.out.symm, rfl⟩
theorem slots_c (l : List Sl) (v : Value) (w : World) (h : RdSls w v l) :
    Calls Tryd.prog 37 #[v] w fun e w' => e = .returned (.bool (l.all slotF)) ∧ Below w.heap.size w w' := by
  have h' := h
  obtain ⟨a, c, rfl, h1, h2, -⟩ := h'
  have HC := Lib.hid (RdSls.at h).2
  clear h
  unfold maxLen at h2
  go_enter Tryd.func37, Tryd.ntmps37
  go_wp2_with fail
  go_loopw [7] (fun i wr => ∃ k : Nat, k ≤ l.length ∧ i = .int .i64 (k : Int) ∧ Hid (Below w.heap.size w wr) ∧ Hid ((l.take k).all slotF = true)) (fun i _ => l.length - (intOf i).toNat)
  case atStart => exact ⟨0, Nat.zero_le _, rfl, Below.refl _ _, rfl⟩
  case round =>
    obtain ⟨k, hk, rfl, hB, HA⟩ := hrel
    by_cases hlt : k < l.length
    · obtain ⟨b, o, nm, rfl, c0, c1, c2, c3⟩ := HC.out k hlt
      replace c0 := Ext.below hB.out _ _ c0
      replace c1 := Ext.below hB.out _ _ c1
      replace c2 := Ext.below hB.out _ _ c2
      replace c3 := Ext.below hB.out _ _ c3
      have hY := allG_take slotF l k hlt HA.out
      have hZ := allG_no slotF l k hlt
      generalize l.getD k default = s at *
      have hz := hB.out.size
      cases hs : slotF s
      · have HF : Hid (l.all slotF = false) := hZ hs
        have hs' : ¬ (1 ≤ s.size ∧ s.size ≤ 32768 ∧ (s.align = 1 ∨ s.align = 4)) := by
          unfold slotF at hs
          intro h
          rw [decide_eq_true h.1, decide_eq_true h.2.1] at hs
          rcases h.2.2 with h | h <;> rw [h] at hs <;> simp at hs
        clear hY hZ hs
        have END : Hid (∀ o, (Ending.returned (.bool false) = .returned (.bool (l.all slotF))) ∧ Below w.heap.size w (wr.alloc o)) := fun o => ⟨ret_b HF.out.symm, hB.out.alloc hz o⟩
        by_cases h3 : 1 ≤ s.size
        · have e1 : decide (s.size < 1) = false := decide_eq_false (by omega)
          by_cases h4 : s.size ≤ 32768
          · have e2 : decide (32768 < s.size) = false := decide_eq_false (by omega)
            have e3 : (s.align != 1) = true := by rw [bne_iff_ne]; omega
            have e4 : (s.align != 4) = true := by rw [bne_iff_ne]; omega
            clear hs'
            go_wp2_with fail
            go_ret
            exact END.out _
          · have e2 : decide (32768 < s.size) = true := decide_eq_true (by omega)
            clear hs'
            go_wp2_with fail
            go_ret
            exact END.out _
        · have e1 : decide (s.size < 1) = true := decide_eq_true (by omega)
          clear hs'
          go_wp2_with fail
          go_ret
          exact END.out _
      · have HA2 := Lib.hid (hY hs)
        have hs' : 1 ≤ s.size ∧ s.size ≤ 32768 ∧ (s.align = 1 ∨ s.align = 4) := by
          unfold slotF at hs
          simpa using hs
        clear hY hZ hs
        have e1 : decide (s.size < 1) = false := decide_eq_false (by omega)
        have e2 : decide (32768 < s.size) = false := decide_eq_false (by omega)
        obtain ⟨-, -, h5⟩ := hs'
        rcases h5 with h5 | h5
        · have e3 : (s.align != 1) = false := by rw [h5]; rfl
          clear h5
          go_wp2_with fail
          go_roundw
          case rel => exact ⟨k + 1, by omega, by go_num, hB.out.alloc hz _, HA2⟩
          case measure => simp [intOf]; omega
        · have e3 : (s.align != 1) = true := by rw [h5]; rfl
          have e4 : (s.align != 4) = false := by rw [h5]; rfl
          clear h5
          go_wp2_with fail
          go_roundw
          case rel => exact ⟨k + 1, by omega, by go_num, hB.out.alloc hz _, HA2⟩
          case measure => simp [intOf]; omega
    · have HF : Hid (l.all slotF = true) := by have := HA.out; rwa [List.take_of_length_le (by omega)] at this
      go_wp2_with fail
      go_ret
      exact ⟨ret_b HF.out.symm, hB.out⟩
theorem reg_c (m : Md) (p : Pr) (v : Value) (r : Int) (should : Bool) (w : World) (h : LkV w v m p) :
    Calls Tryd.prog 80 #[v, .int .i64 r, .bool should] w fun e w' => e = .returned (.bool (regF p r should)) ∧ Below w.heap.size w w' := by
  obtain ⟨vg, vd, vp, nm, vo, vb, rfl, ⟨ag, cg, rfl, -⟩, ⟨ad, cd, rfl, -⟩, ⟨ap, cp, rfl, -⟩, ⟨ao, co, rfl, -⟩, ⟨ab, cb, rfl, -⟩⟩ := h
  have HF : Hid (regF p r should = if should = true then decide (0 ≤ r) && decide (r < p.regs) else r == -1) := rfl
  cases should
  · have HF2 : Hid (regF p r false = (r == -1)) := HF.out
    go_enter Tryd.func80, Tryd.ntmps80
    go_wp2
    go_ret
    exact ⟨ret_b HF2.out.symm, below_alloc _ _⟩
  · by_cases h0 : 0 ≤ r
    · have e0 : decide (0 ≤ r) = true := decide_eq_true h0
      have HF2 : Hid (regF p r true = decide (r < p.regs)) := by show _ = _; rw [HF.out, if_pos rfl, e0]; rfl
      go_enter Tryd.func80, Tryd.ntmps80
      go_wp2
      go_ret
      exact ⟨ret_b HF2.out.symm, below_alloc _ _⟩
    · have e0 : decide (0 ≤ r) = false := decide_eq_false h0
      have HF2 : Hid (regF p r true = false) := by show _ = _; rw [HF.out, if_pos rfl, e0]; rfl
      go_enter Tryd.func80, Tryd.ntmps80
      go_wp2
      go_ret
      exact ⟨ret_b HF2.out.symm, below_alloc _ _⟩
theorem block_c (m : Md) (p : Pr) (v : Value) (n : Int) (w : World) (h : LkV w v m p) :
    Calls Tryd.prog 82 #[v, .int .i64 n] w fun e w' => e = .returned (.bool (blockF p n)) ∧ Below w.heap.size w w' := by
  obtain ⟨vg, vd, vp, nm, vo, vb, rfl, ⟨ag, cg, rfl, -⟩, ⟨ad, cd, rfl, -⟩, ⟨ap, cp, rfl, -⟩, ⟨ao, co, rfl, -⟩, ⟨ab, cb, rfl, -⟩⟩ := h
  by_cases h0 : 0 ≤ n
  · have e0 : decide (0 ≤ n) = true := decide_eq_true h0
    have HF2 : Hid (blockF p n = decide (n < p.blks.length)) := by show _ = _; unfold blockF; rw [e0]; rfl
    go_enter Tryd.func82, Tryd.ntmps82
    go_wp2
    go_ret
    exact ⟨ret_b HF2.out.symm, below_alloc _ _⟩
  · have e0 : decide (0 ≤ n) = false := decide_eq_false h0
    have HF2 : Hid (blockF p n = false) := by show _ = _; unfold blockF; rw [e0]; rfl
    go_enter Tryd.func82, Tryd.ntmps82
    go_wp2
    go_ret
    exact ⟨ret_b HF2.out.symm, below_alloc _ _⟩
end Go.Proofs.YtnnhobbabcfogaaDoor
