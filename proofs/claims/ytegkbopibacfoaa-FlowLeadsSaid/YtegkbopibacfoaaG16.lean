/-
  Contract of the reference's Order.
-/
import Derived.Test.YtegkbopibacfoaaG15
set_option linter.all false
namespace Go.Proofs.Ytegkbopibacfoaa
open Go.ChangeShapes Go.WideShapes Go.ChangeAt Go.RowKit
set_option maxHeartbeats 2000000
set_option maxRecDepth 20000

theorem rev_step (l : List Int) (j : Nat) (h : j < l.length) : (l.drop j).reverse = (l.drop (j + 1)).reverse ++ [l.getD j 0] := by
  rw [List.drop_eq_getElem_cons h, List.reverse_cons]; simp [List.getD, h]
theorem rorder_c (p : Pr) (V : Value) (w : World) (hP : PrV w V p) (hlen : p.blks.length ≤ 1000000) :
    Calls Try.prog 24 #[V] w (RetI w (wkD p).ord.reverse) := by
  have EW : Hid (∀ o, Calls Try.prog 22 #[V] (w.alloc o) (WkV (w.alloc o) p)) := fun o => rwalked_c p V _ (hP.ext (Ext.alloc w o)) hlen
  have hll : (wkD p).ord.length ≤ 10000000 := by have := wkD_len p hlen; omega
  obtain ⟨nm, vo, vb, rfl, -, a, c, rfl, -, -, -⟩ := hP
  obtain ⟨l, hl⟩ : ∃ l, l = (wkD p).ord := ⟨_, rfl⟩
  have Hl := Lib.hid hl
  rw [← hl] at hll
  clear hl
  go_enter Try.func24, Try.ntmps24
  go_wp2_with fail
  refine (EW.out _).mono ?_
  rintro e w1 ⟨gs, ov, bv, rfl, ho, hbk, hb1⟩
  rw [← Hl.out] at ho
  have HB1 := Lib.hid hb1
  obtain ⟨ao, co, rfl, h1, h2, h3⟩ := ho.rd
  obtain ⟨ab, cb, rfl⟩ := row_form hbk
  have H3 := Lib.hid h3
  have hz1 : w.heap.size < w1.heap.size := by have := hb1.size; simp at this; omega
  clear ho hbk hb1 h3
  rcases Nat.eq_zero_or_pos l.length with e0 | e0
  · obtain rfl : l = [] := List.eq_nil_of_length_eq_zero e0
    clear e0
    go_wp2_with fail
    go_loopw [3, 5] (fun v i wr => v = .slice none 0 0 ∧ i = .int .i64 (-1) ∧ wr = w1.alloc (.cells #[.slice (some ⟨gs, 0, none⟩) p.blks.length p.blks.length, .slice ao 0 co, .slice ab (wkD p).back.length cb] 51)) (fun _ _ _ => 0)
    case atStart => exact ⟨rfl, rfl, rfl⟩
    case round =>
      obtain ⟨rfl, rfl, rfl⟩ := hrel
      go_wp2_with fail
      go_ret
      exact ⟨_, rfl, by rw [← Hl.out]; exact OwnI.nil _ _, (below_alloc w _).trans ((HB1.out.alloc HB1.out.size _).mono (by simp))⟩
  · obtain ⟨m, hm⟩ : ∃ m, l.length = m + 1 := ⟨l.length - 1, by omega⟩
    have Hm := Lib.hid hm
    rw [hm] at h1 hll ⊢
    clear hm e0
    go_wp2_with fail
    obtain ⟨W2, hW2⟩ : ∃ W2, W2 = w1.alloc (.cells #[.slice (some ⟨gs, 0, none⟩) p.blks.length p.blks.length, .slice ao (m + 1) co, .slice ab (wkD p).back.length cb] 51) := ⟨_, rfl⟩
    have hz2 : W2.heap.size = w1.heap.size + 1 := by rw [hW2]; simp
    have C1 : Hid (W2.cell? ⟨w1.heap.size, 1, none⟩ = some (.slice ao (m + 1) co)) := by rw [hW2]; exact cell_of_heap (heap_alloc_new w1 _) 1
    have HX : Hid (Ext w1 W2) := by rw [hW2]; exact Ext.alloc _ _
    have HB2 : Hid (Below w.heap.size w W2) := by rw [hW2]; exact (below_alloc w _).trans ((HB1.out.alloc HB1.out.size _).mono (by simp))
    rw [← hW2]
    clear hW2
    go_loopw [3, 5] (fun v i wr => (∃ j : Nat, j ≤ m ∧ i = .int .i64 (j : Int) ∧ Own W2 W2.heap.size wr v ((l.drop (j + 1)).reverse)) ∨ (i = .int .i64 (-1) ∧ Own W2 W2.heap.size wr v l.reverse)) (fun _ i _ => (intOf i + 1).toNat)
    case atStart => exact .inl ⟨m, Nat.le_refl _, rfl, by rw [List.drop_eq_nil_of_le (by rw [Hm.out]; exact Nat.le_refl _)]; exact Own.nil (Nat.le_refl _)⟩
    case round =>
      rcases hrel with ⟨j, hj, rfl, O⟩ | ⟨rfl, O⟩
      · obtain ⟨b, o, rfl, c0⟩ := H3.out j (by rw [Hm.out]; omega)
        have hbl : b < w1.heap.size := World.block_lt_of_cell? w1 _ c0
        replace c0 := HX.out _ _ c0
        simp only [Nat.mul_one, Nat.add_zero] at c0
        have c0 := (O.bcell b (o + j) (by omega)).trans c0
        have c1 := (O.bcell w1.heap.size 1 (by omega)).trans C1.out
        have HS := Lib.hid (rev_step l j (by rw [Hm.out]; omega))
        have hlo : ((l.drop (j + 1)).reverse).length ≤ 10000000 := by rw [List.length_reverse, List.length_drop, Hm.out]; omega
        have O := Lib.hid O
        have HSz := O.out.below.size
        generalize l.getD j 0 = x at c0 HS
        generalize (l.drop (j + 1)).reverse = lr at O hlo HS
        go_wp2_with (at_builtin; refine app1 O.out rfl rfl rfl rfl (by simp) (by omega) ?_; intro v1 w1' O1; have O1 := Lib.hid O1)
        go_roundw
        case rel =>
          rcases Nat.eq_zero_or_pos j with e | e
          · right
            refine ⟨by rw [e]; rfl, ?_⟩
            have := HS.out
            rw [e, List.drop_zero] at this
            rw [this]
            exact O1.out
          · left
            refine ⟨j - 1, by omega, by rw [show ((j : Int) - 1) = ((j - 1 : Nat) : Int) by omega], ?_⟩
            rw [show j - 1 + 1 = j by omega, HS.out]
            exact O1.out
        case measure => first | (simp [intOf]; done) | (simp [intOf]; omega)
      · go_wp2_with fail
        go_ret
        rw [← Hl.out]
        exact O.ret (w := w) HB2.out HB2.out.size
end Go.Proofs.Ytegkbopibacfoaa
