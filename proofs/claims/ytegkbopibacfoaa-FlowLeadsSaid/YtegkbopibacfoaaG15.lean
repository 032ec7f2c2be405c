/-
  Contracts of the reference's Walked and Order.
-/
import Derived.Test.YtegkbopibacfoaaG14
set_option linter.all false
namespace Go.Proofs.Ytegkbopibacfoaa
open Go.ChangeShapes Go.WideShapes Go.ChangeAt Go.RowKit
set_option maxHeartbeats 2000000
set_option maxRecDepth 20000

/-- what the reference's walk hands back -/
def WkV (w : World) (p : Pr) (e : Ending) (w' : World) : Prop := ∃ gs ov bv, e = .returned (.agg #[.slice (some ⟨gs, 0, none⟩) p.blks.length p.blks.length, ov, bv]) ∧ OwnI w' w.heap.size ov (wkD p).ord ∧ w'.ownsRow w.heap.size 42 2 bv (wkD p).back.length (pairsV (wkD p).back) ∧ Below w.heap.size w w'
theorem far_set {w : World} {B n sz g i : Nat} {e : TypeId} {v x : Value} {xs : List Value} (h : w.ownsRow B e sz v n xs) (hg : g < B) : (w.setCell ⟨g, i, none⟩ x).ownsRow B e sz v n xs := by
  have hgr : w.grownBy (w.setCell ⟨g, i, none⟩ x) (some g) := ⟨rfl, rfl, rfl, by simp, fun k _ hk => Below.heap_setCell w ⟨g, i, none⟩ _ k (fun e => hk (by rw [show k = g from e]))⟩
  exact World.ownsRow.kept h hgr (ne_of (row_far h hg))
theorem far_setP {w : World} {B n sz g i : Nat} {e : TypeId} {v x : Value} {xs : List Value} (h : w.ownsRow B e sz v n xs) (hg : g < B) : (w.setCell ⟨g, i, none⟩ x).ownsRow B e sz v n xs := far_set h hg
theorem rwalked_c (p : Pr) (V : Value) (w : World) (hP : PrV w V p) (hlen : p.blks.length ≤ 1000000) :
    Calls Try.prog 22 #[V] w (WkV w p) := by
  have HP := Lib.hid hP
  obtain ⟨nm, vo, vb, rfl, -, a, c, rfl, hc1, hc2, -⟩ := hP
  have hmk := run_make_row' (P := Try.prog) 36 3 (.int .i64 0) 8 Try.underlying36 info_int rfl .i64 .i64 p.blks.length (by omega) (by omega)
  obtain ⟨W3, hW3⟩ : ∃ W3, W3 = ((((w.alloc (.cells #[.string nm, .bool p.void, .int .i64 p.params, .int .i64 p.regs, vo, .slice a p.blks.length c] 25)).alloc (.cells #[.slice none 0 0, .slice none 0 0, .slice none 0 0] 51)).alloc (.cells (madeCells #[.int .i64 0] p.blks.length) 3)).alloc (.cells #[.slice (some ⟨w.heap.size + 1 + 1, 0, none⟩) p.blks.length p.blks.length, .slice none 0 0, .slice none 0 0] 51)) := ⟨_, rfl⟩
  have hsz : W3.heap.size = w.heap.size + 4 := by rw [hW3]; simp
  have hb1 := below_alloc w (.cells #[.string nm, .bool p.void, .int .i64 p.params, .int .i64 p.regs, vo, .slice a p.blks.length c] 25)
  have hb2 := hb1.alloc (by simp) (.cells #[.slice none 0 0, .slice none 0 0, .slice none 0 0] 51)
  have hb3 := hb2.alloc (by simp; omega) (.cells (madeCells #[.int .i64 0] p.blks.length) 3)
  have HBW : Hid (Below w.heap.size w W3) := by rw [hW3]; exact hb3.alloc (by simp; omega) _
  have M0 : Hid (RM W3 (w.heap.size + 3) (w.heap.size + 2) (w.heap.size + 4) p.blks.length (wk0 p) (.slice none 0 0) (.slice none 0 0)) := by
    have hmx : p.blks.length ≤ maxLen := by unfold maxLen; omega
    have h1 := heap_alloc_new (((w.alloc (.cells #[.string nm, .bool p.void, .int .i64 p.params, .int .i64 p.regs, vo, .slice a p.blks.length c] 25)).alloc (.cells #[.slice none 0 0, .slice none 0 0, .slice none 0 0] 51)).alloc (.cells (madeCells #[.int .i64 0] p.blks.length) 3)) (.cells #[.slice (some ⟨w.heap.size + 1 + 1, 0, none⟩) p.blks.length p.blks.length, .slice none 0 0, .slice none 0 0] 51)
    have h2 := (madeI ((w.alloc (.cells #[.string nm, .bool p.void, .int .i64 p.params, .int .i64 p.regs, vo, .slice a p.blks.length c] 25)).alloc (.cells #[.slice none 0 0, .slice none 0 0, .slice none 0 0] 51)) 0 p.blks.length (Nat.zero_le _) hmx).alloc (.cells #[.slice (some ⟨w.heap.size + 1 + 1, 0, none⟩) p.blks.length p.blks.length, .slice none 0 0, .slice none 0 0] 51)
    rw [← hW3] at h1 h2
    refine ⟨⟨rfl, .inr ⟨w.heap.size + 3, 1, #[.slice (some ⟨w.heap.size + 2, 0, none⟩) p.blks.length p.blks.length, .slice none 0 0, .slice none 0 0], rfl, Nat.zero_le _, ?_, Nat.le_refl _, by simp [maxLen], rfl, rfl⟩⟩, ?_, World.ownsRow_nil _ _ _ _, World.ownsRow_nil _ _ _ _, by omega, by omega, by omega⟩
    · simpa using h1
    · simpa [wk0] using h2
  have HC1 : Hid (∀ j : Nat, j < 3 → W3.cell? ⟨w.heap.size + 1, j, none⟩ = some (.slice none 0 0)) := fun j hj => by
    have h1 := cell_of_heap (heap_alloc_new (w.alloc (.cells #[.string nm, .bool p.void, .int .i64 p.params, .int .i64 p.regs, vo, .slice a p.blks.length c] 25)) (.cells #[.slice none 0 0, .slice none 0 0, .slice none 0 0] 51)) j
    have h2 : ((w.alloc (.cells #[.string nm, .bool p.void, .int .i64 p.params, .int .i64 p.regs, vo, .slice a p.blks.length c] 25)).alloc (.cells #[.slice none 0 0, .slice none 0 0, .slice none 0 0] 51)).cell? ⟨w.heap.size + 1, j, none⟩ = some (.slice none 0 0) := by
      have : j = 0 ∨ j = 1 ∨ j = 2 := by omega
      rcases this with rfl | rfl | rfl <;> simpa using h1
    rw [hW3]
    exact Ext.alloc _ _ _ _ (Ext.alloc _ _ _ _ h2)
  have HZ1 : Hid (∀ j : Nat, W3.frozen? ⟨w.heap.size + 1, j, none⟩ = false) := fun j => by
    have h1 : ((w.alloc (.cells #[.string nm, .bool p.void, .int .i64 p.params, .int .i64 p.regs, vo, .slice a p.blks.length c] 25)).alloc (.cells #[.slice none 0 0, .slice none 0 0, .slice none 0 0] 51)).frozen? ⟨w.heap.size + 1, j, none⟩ = false := by
      have := frozen_of_heap (heap_alloc_new (w.alloc (.cells #[.string nm, .bool p.void, .int .i64 p.params, .int .i64 p.regs, vo, .slice a p.blks.length c] 25)) (.cells #[.slice none 0 0, .slice none 0 0, .slice none 0 0] 51)) j
      simpa using this
    have h2 := (below_alloc ((w.alloc (.cells #[.string nm, .bool p.void, .int .i64 p.params, .int .i64 p.regs, vo, .slice a p.blks.length c] 25)).alloc (.cells #[.slice none 0 0, .slice none 0 0, .slice none 0 0] 51)) (.cells (madeCells #[.int .i64 0] p.blks.length) 3)).frozen (p := ⟨w.heap.size + 1, j, none⟩) (by simp)
    have h3 := (below_alloc (((w.alloc (.cells #[.string nm, .bool p.void, .int .i64 p.params, .int .i64 p.regs, vo, .slice a p.blks.length c] 25)).alloc (.cells #[.slice none 0 0, .slice none 0 0, .slice none 0 0] 51)).alloc (.cells (madeCells #[.int .i64 0] p.blks.length) 3)) (.cells #[.slice (some ⟨w.heap.size + 1 + 1, 0, none⟩) p.blks.length p.blks.length, .slice none 0 0, .slice none 0 0] 51)).frozen (p := ⟨w.heap.size + 1, j, none⟩) (by simp)
    rw [hW3]
    exact h3.trans (h2.trans h1)
  clear hb1 hb2 hb3
  have HW3 := Lib.hid hW3
  clear hW3
  have END : Hid (∀ (w5 : World) (s : S3) (ov bv : Value), RM w5 (w.heap.size + 3) (w.heap.size + 2) (w.heap.size + 4) p.blks.length s ov bv → Below w.heap.size w w5 → s = wkD p → ∀ (x y z : Value),
      WkV w p (.returned (.agg #[.slice (some ⟨w.heap.size + 1 + 1, 0, none⟩) p.blks.length p.blks.length, ov, bv])) (((w5.setCell ⟨w.heap.size + 1, 0, none⟩ x).setCell ⟨w.heap.size + 1, 1, none⟩ y).setCell ⟨w.heap.size + 1, 2, none⟩ z)) := fun w5 s ov bv M hb hs x y z => by
    subst hs
    refine ⟨_, ov, bv, rfl, ?_, ?_, ?_⟩
    · exact ownsRow_base (far_set (far_set (far_set M.ord (by omega)) (by omega)) (by omega)) (by omega)
    · exact ownsRow_base (far_set (far_set (far_set M.back (by omega)) (by omega)) (by omega)) (by omega)
    · exact ((hb.setCell (by simp) _).setCell (by simp) _).setCell (by simp) _
  go_enter Try.func22, Try.ntmps22
  rcases Nat.eq_zero_or_pos p.blks.length with h0 | h0
  · have hd : decide (0 < (p.blks.length : Int)) = false := decide_eq_false (by omega)
    have hd2 : decide (0 < p.blks.length) = false := decide_eq_false (by omega)
    have e0 : wkD p = wk0 p := by unfold wkD; rw [h0]; rfl
    have E0 := Lib.hid e0
    clear h0 e0 END M0 HC1 HZ1
    go_wp2_with fail
    refine bodyPost_ret (v := .agg #[.slice (some ⟨w.heap.size + 1 + 1, 0, none⟩) p.blks.length p.blks.length, .slice none 0 0, .slice none 0 0]) (by simp [results, Try.results22, go_sem]) rfl ?_
    refine ⟨_, _, _, rfl, by rw [E0.out]; exact OwnI.nil _ _, by rw [E0.out]; exact World.ownsRow_nil _ _ _ _, ?_⟩
    exact (((below_alloc w _).alloc (by simp) _).alloc (by simp; omega) _).alloc (by simp; omega) _
  · have hd : decide (0 < (p.blks.length : Int)) = true := decide_eq_true (by omega)
    have hd2 : decide (0 < p.blks.length) = true := decide_eq_true (by omega)
    have EI : Hid (Calls Try.prog 57 #[.pointer (some ⟨w.heap.size + 1 + 1 + 1, 0, none⟩), .agg #[.string nm, .bool p.void, .int .i64 p.params, .int .i64 p.regs, vo, .slice a p.blks.length c], .int .i64 0] W3 fun e w' => e = .returned (.tuple #[]) ∧ ∃ ov' bv', RM w' (w.heap.size + 3) (w.heap.size + 2) (w.heap.size + 4) p.blks.length (wkD p) ov' bv' ∧ FrR W3 w' (w.heap.size + 3) (w.heap.size + 2) (.slice none 0 0) (.slice none 0 0) ov' bv') :=
      rinto_c p _ w HP.out hlen p.blks.length W3 (w.heap.size + 3) (w.heap.size + 2) (w.heap.size + 4) 0 (wk0 p) _ _ HBW.out (by omega) (by omega) M0.out h0 (wk0_look p 0) (by rw [wk0_zeros]; exact Nat.le_refl _) (by unfold phi; rw [wk0_zeros]; simp [wk0]; omega)
    go_wp2_with fail
    rw [← HW3.out]
    refine EI.out.mono ?_
    rintro e w5 ⟨rfl, ov, bv, M5, F5⟩
    have HB5 := Lib.hid (M0.out.belowp F5 HBW.out (by omega) (by omega))
    have y0 := (F5.cell (o := 0) (k := w.heap.size + 1) (by omega) (by omega) (by omega) (by simp [Value.ownBlock]) (by simp [Value.ownBlock])).trans (HC1.out 0 (by decide))
    have y1 := (F5.cell (o := 1) (k := w.heap.size + 1) (by omega) (by omega) (by omega) (by simp [Value.ownBlock]) (by simp [Value.ownBlock])).trans (HC1.out 1 (by decide))
    have y2 := (F5.cell (o := 2) (k := w.heap.size + 1) (by omega) (by omega) (by omega) (by simp [Value.ownBlock]) (by simp [Value.ownBlock])).trans (HC1.out 2 (by decide))
    have yz : ∀ j, w5.frozen? ⟨w.heap.size + 1, j, none⟩ = false := fun j => (World.frozen?_of_block (w := W3) (a := ⟨w.heap.size + 1, j, none⟩) (F5.block (w.heap.size + 1) (by omega) (by omega) (by omega) (by simp [Value.ownBlock]) (by simp [Value.ownBlock]))).trans (HZ1.out j)
    have q0 : w5.cell? ⟨w.heap.size + 1 + 1 + 1, 0, none⟩ = some (.slice (some ⟨w.heap.size + 1 + 1, 0, none⟩) p.blks.length p.blks.length) := M5.q0
    have q1 : w5.cell? ⟨w.heap.size + 1 + 1 + 1, 1, none⟩ = some ov := M5.q1
    have q2 : w5.cell? ⟨w.heap.size + 1 + 1 + 1, 2, none⟩ = some bv := M5.q2
    have hz5 : w.heap.size + 4 ≤ w5.heap.size := M5.Bw
    obtain ⟨ao, co, rfl⟩ := row_form M5.ord
    obtain ⟨ab, cb, rfl⟩ := row_form M5.back
    have E := Lib.hid (END.out w5 (wkD p) _ _ M5 HB5.out rfl)
    clear M5 F5 END
    go_wp2_with fail
    refine bodyPost_ret (v := .agg #[.slice (some ⟨w.heap.size + 1 + 1, 0, none⟩) p.blks.length p.blks.length, .slice ao (wkD p).ord.length co, .slice ab (wkD p).back.length cb]) (by simp [results, Try.results22, go_sem, y0, y1, y2, hz5]) rfl ?_
    exact E.out _ _ _
end Go.Proofs.Ytegkbopibacfoaa
