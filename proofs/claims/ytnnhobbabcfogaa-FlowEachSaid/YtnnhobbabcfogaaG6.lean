/-
  Contracts of flow's Order, Back and Reach.
-/
import Derived.Test.YtnnhobbabcfogaaG5
set_option linter.all false
namespace Go.Proofs.Ytnnhobbabcfogaa
open Go.ChangeShapes Go.WideShapes Go.ChangeAt Go.RowKit
set_option maxHeartbeats 2000000
set_option maxRecDepth 20000

/-- pairs in a row of the call's own, handed back -/
def RetP (w : World) (l : List (Int × Int)) (e : Ending) (w' : World) : Prop := ∃ v, e = .returned v ∧ w'.ownsRow w.heap.size 137 2 v l.length (pairsV l) ∧ Below w.heap.size w w'
theorem ownsRow_base {w : World} {B B' n s : Nat} {e : TypeId} {v : Value} {xs : List Value} (h : w.ownsRow B e s v n xs) (hB : B' ≤ B) : w.ownsRow B' e s v n xs := by
  obtain ⟨h1, h2 | ⟨g, cap, cur, h3, hb, r⟩⟩ := h
  · exact ⟨h1, .inl h2⟩
  · exact ⟨h1, .inr ⟨g, cap, cur, h3, Nat.le_trans hB hb, r⟩⟩
theorem order_c (p : Pr) (V : Value) (w : World) (hP : PrV w V p) (hlen : p.blks.length ≤ 1000000) :
    Calls Try.prog 84 #[V] w (RetI w (wkD p).ord.reverse) := by
  have EW : Hid (∀ o, Calls Try.prog 104 #[V] (w.alloc o) (WkR (w.alloc o) p)) := fun o => walked_c p V _ (hP.ext (Ext.alloc w o)) hlen
  obtain ⟨nm, vo, vb, rfl, -, a, c, rfl, -, -, -⟩ := hP
  go_enter Try.func84, Try.ntmps84
  go_wp2_with (go_at_call 104; refine (EW.out _).mono ?_; rintro e w1 ⟨bw, bs, B, ov, bv, tv, hd, s, rfl, M, ho, hb, hr⟩; have M := Lib.hid M; have q7 : w1.cell? ⟨bw, 7, none⟩ = some ov := (M.out.wk.cellAt 7 (by decide)).trans (by rw [List.getElem?_append_right (by rw [M.out.hd6]; decide), M.out.hd6]; rfl))
  go_ret
  refine ⟨_, rfl, ?_, ?_⟩
  · rw [← ho]
    exact ownsRow_base M.out.ord (Nat.le_trans (by simp) M.out.pB)
  · exact (below_alloc w _).trans (M.out.below.mono (by simp))
theorem back_c (p : Pr) (V : Value) (w : World) (hP : PrV w V p) (hlen : p.blks.length ≤ 1000000) :
    Calls Try.prog 85 #[V] w (RetP w (wkD p).back) := by
  have EW : Hid (∀ o, Calls Try.prog 104 #[V] (w.alloc o) (WkR (w.alloc o) p)) := fun o => walked_c p V _ (hP.ext (Ext.alloc w o)) hlen
  obtain ⟨nm, vo, vb, rfl, -, a, c, rfl, -, -, -⟩ := hP
  go_enter Try.func85, Try.ntmps85
  go_wp2_with (go_at_call 104; refine (EW.out _).mono ?_; rintro e w1 ⟨bw, bs, B, ov, bv, tv, hd, s, rfl, M, ho, hb, hr⟩; have M := Lib.hid M; have q8 : w1.cell? ⟨bw, 8, none⟩ = some bv := (M.out.wk.cellAt 8 (by decide)).trans (by rw [List.getElem?_append_right (by rw [M.out.hd6]; decide), M.out.hd6]; rfl))
  go_ret
  refine ⟨_, rfl, ?_, ?_⟩
  · rw [← hb]
    exact ownsRow_base M.out.back (Nat.le_trans (by simp) M.out.pB)
  · exact (below_alloc w _).trans (M.out.below.mono (by simp))
end Go.Proofs.Ytnnhobbabcfogaa
