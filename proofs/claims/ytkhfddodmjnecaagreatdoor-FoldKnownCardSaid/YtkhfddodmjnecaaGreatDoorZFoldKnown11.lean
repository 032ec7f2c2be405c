/-
 Contract of the reference's walk into a block, which calls itself.; Contracts of the reference's Walked and Order.; Contract of the reference's Order.; Contract of the reference's Reach: rounds of a closure.
-/
import Derived.Test.YtkhfddodmjnecaaGreatDoorZFoldKnown09
import Derived.Test.YtkhfddodmjnecaaGreatDoorZFoldKnown10

set_option linter.all false
namespace Go.Proofs.YtkhfddodmjnecaaGreatDoor
open Go.ChangeShapes Go.WideShapes Go.ChangeAt Go.RowKit
set_option maxHeartbeats 2000000
set_option maxRecDepth 20000

section
variable {w w' : World} {bw bs B n : Nat} {s : S3} {ov bv ov' bv' : Value}
theorem FrR.cell (h : FrR w w' bw bs ov bv ov' bv') {k o : Nat} (hk : k < w.heap.size) (k1 : k ≠ bw) (k2 : k ≠ bs) (k3 : ov.ownBlock ≠ some k) (k4 : bv.ownBlock ≠ some k) : w'.cell? ⟨k, o, none⟩ = w.cell? ⟨k, o, none⟩ :=
 World.cell?_of_block (w := w) (a := ⟨k, o, none⟩) (h.block k hk k1 k2 k3 k4)
end
end Go.Proofs.YtkhfddodmjnecaaGreatDoor

set_option linter.all false
namespace Go.Proofs.YtkhfddodmjnecaaGreatDoor
open Go.ChangeShapes Go.WideShapes Go.ChangeAt Go.RowKit
set_option maxHeartbeats 2000000
set_option maxRecDepth 20000

theorem far_set {w : World} {B n sz g i : Nat} {e : TypeId} {v x : Value} {xs : List Value} (h : w.ownsRow B e sz v n xs) (hg : g < B) : (w.setCell ⟨g, i, none⟩ x).ownsRow B e sz v n xs := by
 have hgr : w.grownBy (w.setCell ⟨g, i, none⟩ x) (some g) := ⟨rfl, rfl, rfl, by simp, fun k _ hk => Below.heap_setCell w ⟨g, i, none⟩ _ k (fun e => hk (by rw [show k = g from e]))⟩
 exact World.ownsRow.kept h hgr (ne_of (row_far h hg))
end Go.Proofs.YtkhfddodmjnecaaGreatDoor

set_option linter.all false
namespace Go.Proofs.YtkhfddodmjnecaaGreatDoor
open Go.ChangeShapes Go.WideShapes Go.ChangeAt Go.RowKit
set_option maxHeartbeats 2000000
set_option maxRecDepth 20000

end Go.Proofs.YtkhfddodmjnecaaGreatDoor

set_option linter.all false
namespace Go.Proofs.YtkhfddodmjnecaaGreatDoor
open Go.ChangeShapes Go.WideShapes Go.ChangeAt Go.RowKit
set_option maxHeartbeats 2000000
set_option maxRecDepth 20000

theorem fold_range {α : Type} (f : α → Nat → α) (a : α) (k : Nat) : (List.range (k + 1)).foldl f a = f ((List.range k).foldl f a) k := by
 rw [List.range_succ, List.foldl_append]; rfl
theorem rreach_c (p : Pr) (V : Value) (w : World) (hP : PrV w V p) (hlen : p.blks.length ≤ 1000) :
  Calls Tryz.prog 34 #[V] w fun e w' => ∃ g, e = .returned (.slice (some ⟨g, 0, none⟩) p.blks.length p.blks.length) ∧ w.heap.size ≤ g ∧ RowB w' g p.blks.length p.blks.length (reachP p) ∧ Below w.heap.size w w' := by
 have EL : Hid (∀ (k i : Nat) w', Ext w w' → k < p.blks.length → Calls Tryz.prog 64 #[V, .int .i64 (k : Int), .int .i64 (i : Int)] w' fun e w'' => e = .returned (.bool (hasL (outsP p k) i)) ∧ Below w'.heap.size w' w'') :=
  fun k i w' he hk => rleads_c p V k i w' (hP.ext he) hk (by omega)
 obtain ⟨nm, vo, vb, rfl, -, a, c, rfl, -, -, -⟩ := hP
 have hmk := run_make_row' (P := Tryz.prog) 38 4 (.bool false) 1 Tryz.underlying38 info_bool rfl .i64 .i64 p.blks.length (by omega) (by omega)
 have HRR : Hid (rcN p p.blks.length = reachP p) := rcN_reach p
 go_enter Tryz.func34, Tryz.ntmps34
 go_wp2_with fail
 clear hmk
 have M0 : Hid (RowB ((w.alloc (.cells #[.string nm, .bool p.void, .int .i64 p.params, .int .i64 p.regs, vo, .slice a p.blks.length c] 32)).alloc (.cells (madeCells #[.bool false] p.blks.length) 4)) (w.heap.size + 1) p.blks.length p.blks.length (rcN p 0)) := by
  have := madeB (w.alloc (.cells #[.string nm, .bool p.void, .int .i64 p.params, .int .i64 p.regs, vo, .slice a p.blks.length c] 32)) p.blks.length (by unfold maxLen; omega)
  show RowB _ _ _ _ _
  simpa [rcN] using this
 have B0 : Hid (Below (w.heap.size + 1) (w.alloc (.cells #[.string nm, .bool p.void, .int .i64 p.params, .int .i64 p.regs, vo, .slice a p.blks.length c] 32)) ((w.alloc (.cells #[.string nm, .bool p.void, .int .i64 p.params, .int .i64 p.regs, vo, .slice a p.blks.length c] 32)).alloc (.cells (madeCells #[.bool false] p.blks.length) 4))) := by
  have := below_alloc (w.alloc (.cells #[.string nm, .bool p.void, .int .i64 p.params, .int .i64 p.regs, vo, .slice a p.blks.length c] 32)) (.cells (madeCells #[.bool false] p.blks.length) 4)
  show Below _ _ _
  simpa using this
 obtain ⟨W0, hW0⟩ : ∃ W0, W0 = w.alloc (.cells #[.string nm, .bool p.void, .int .i64 p.params, .int .i64 p.regs, vo, .slice a p.blks.length c] 32) := ⟨_, rfl⟩
 have HBX : Hid (∀ w', Below (w.heap.size + 1) W0 w' → ∀ j : Nat, j < 6 → w'.cell? ⟨w.heap.size, j, none⟩ = #[Value.string nm, .bool p.void, .int .i64 p.params, .int .i64 p.regs, vo, .slice a p.blks.length c][j]?) := fun w' hb j _ => (hb.cell (p := ⟨w.heap.size, j, none⟩) (Nat.lt_succ_self _)).trans (by rw [hW0]; exact cell_of_heap (heap_alloc_new w _) j)
 have hz0 : W0.heap.size = w.heap.size + 1 := by rw [hW0]; simp
 have HE : Hid (∀ w', Below (w.heap.size + 1) W0 w' → Ext w w') := fun w' hb => (show Ext w W0 by rw [hW0]; exact Ext.alloc w _).trans (Ext.below (hb.mono (by omega)))
 have HR : Hid (∀ w', Below (w.heap.size + 1) W0 w' → Below w.heap.size w w') := fun w' hb => (show Below w.heap.size w W0 by rw [hW0]; exact below_alloc w _).trans (hb.mono (by omega))
 rw [← hW0] at M0 B0 ⊢
 clear hW0
 generalize W0.alloc (.cells (madeCells #[.bool false] p.blks.length) 4) = W1 at M0 B0 ⊢
 go_loopw [4] (fun i wr => ∃ r : Nat, r ≤ p.blks.length ∧ i = .int .i64 (r : Int) ∧ Hid (RowB wr (w.heap.size + 1) p.blks.length p.blks.length (rcN p r)) ∧ Hid (Below (w.heap.size + 1) W0 wr)) (fun i _ => p.blks.length - (intOf i).toNat)
 case atStart => exact ⟨0, Nat.zero_le _, rfl, M0, B0⟩
 case round =>
  clear M0 B0
  obtain ⟨r, hr, rfl, M, B⟩ := hrel
  have x5 := HBX.out wr B.out 5 (by decide)
  simp at x5
  by_cases hlr : r < p.blks.length
  ·have HSr : Hid ((List.range p.blks.length).foldl (rcI p) (rcN p r) = rcN p (r + 1)) := rfl
   generalize rcN p r = l0 at M HSr
   go_wp2_with fail
   clear x5
   go_loopw [5] (fun i wr => ∃ k : Nat, k ≤ p.blks.length ∧ i = .int .i64 (k : Int) ∧ Hid (RowB wr (w.heap.size + 1) p.blks.length p.blks.length ((List.range k).foldl (rcI p) l0)) ∧ Hid (Below (w.heap.size + 1) W0 wr)) (fun i _ => p.blks.length - (intOf i).toNat)
   case atStart => exact ⟨0, Nat.zero_le _, rfl, M, B⟩
   case round =>
    clear M B
    obtain ⟨i, hi, rfl, M, B⟩ := hrel
    have x5 := HBX.out wr B.out 5 (by decide)
    simp at x5
    by_cases hli : i < p.blks.length
    ·have HSi : Hid ((List.range (i + 1)).foldl (rcI p) l0 = rcI p ((List.range i).foldl (rcI p) l0) i) := fold_range _ _ _
     generalize (List.range i).foldl (rcI p) l0 = l1 at M HSi
     obtain ⟨hl1, -, -, -, hcells, hfr, hgl⟩ := M.out.cellAt
     have hl1' := Lib.hid hl1
     clear hl1
     have hc := hcells i hli
     have hf := hfr i
     generalize l1.getD i false = y at hc
     have HSI : Hid (rcI p l1 i = (List.range p.blks.length).foldl (rcK p i) (if i = 0 then l1.set 0 true else l1)) := rfl
     have INNER : Hid (i = 0 → RowB (wr.setCell ⟨w.heap.size + 1, i, none⟩ (.bool true)) (w.heap.size + 1) p.blks.length p.blks.length (if i = 0 then l1.set 0 true else l1)) := fun e => by
      have := OwnB.set M.out i true
      rw [if_pos e]
      rw [e] at this ⊢
      exact this
     have INNER2 : Hid (i ≠ 0 → RowB wr (w.heap.size + 1) p.blks.length p.blks.length (if i = 0 then l1.set 0 true else l1)) := fun e => by
      rw [if_neg e]
      exact M.out
     have BS : Hid (Below (w.heap.size + 1) W0 (wr.setCell ⟨w.heap.size + 1, i, none⟩ (.bool true))) := B.out.setCell (Nat.le_refl _) _
     clear hcells hfr
     generalize (if i = 0 then l1.set 0 true else l1) = l2 at HSI INNER INNER2
     go_upto_if 26 with (fail)
     go_cut [] from 27 to 29 (fun wx => Hid (RowB wx (w.heap.size + 1) p.blks.length p.blks.length l2) ∧ Hid (Below (w.heap.size + 1) W0 wx))
     case first =>
      by_cases e0 : i = 0
      ·have ei : ((i : Int) == 0) = true := beq_iff_eq.2 (by omega)
       have I1 := Lib.hid (INNER.out e0)
       clear INNER INNER2 e0
       go_wp2_with fail
       go_meet
       case rel => exact ⟨I1, BS⟩
      ·have ei : ((i : Int) == 0) = false := beq_eq_false_iff_ne.2 (by omega)
       have I1 := Lib.hid (INNER2.out e0)
       clear INNER INNER2 e0
       go_wp2_with fail
       go_meet
       case rel => exact ⟨I1, B⟩
     case rest =>
      obtain ⟨M2, B2⟩ := hcut
      clear M B BS INNER INNER2 hl1' hc hf x5
      go_wp2_with fail
      go_loopw [6] (fun ik wr => ∃ k : Nat, k ≤ p.blks.length ∧ ik = .int .i64 (k : Int) ∧ Hid (RowB wr (w.heap.size + 1) p.blks.length p.blks.length ((List.range k).foldl (rcK p i) l2)) ∧ Hid (Below (w.heap.size + 1) W0 wr)) (fun i _ => p.blks.length - (intOf i).toNat)
      case atStart => exact ⟨0, Nat.zero_le _, rfl, M2, B2⟩
      case round =>
       clear M2 B2
       obtain ⟨k, hk, rfl, M, B⟩ := hrel
       have x0 := HBX.out wr B.out 0 (by decide)
       have x1 := HBX.out wr B.out 1 (by decide)
       have x2 := HBX.out wr B.out 2 (by decide)
       have x3 := HBX.out wr B.out 3 (by decide)
       have x4 := HBX.out wr B.out 4 (by decide)
       have x5 := HBX.out wr B.out 5 (by decide)
       simp at x0 x1 x2 x3 x4 x5
       by_cases hlk : k < p.blks.length
       ·have HSk : Hid ((List.range (k + 1)).foldl (rcK p i) l2 = rcK p i ((List.range k).foldl (rcK p i) l2) k) := fold_range _ _ _
        generalize (List.range k).foldl (rcK p i) l2 = l3 at M HSk
        obtain ⟨hl3, -, -, -, hcells, hfr, hgl⟩ := M.out.cellAt
        have Hl3 := Lib.hid hl3
        clear hl3
        have hc := hcells k hlk
        have HC := Lib.hid (hcells i hli)
        have HFR := Lib.hid hfr
        clear hcells hfr
        have HSK : Hid (rcK p i l3 k = if l3.getD k false && hasL (outsP p k) i then l3.set i true else l3) := rfl
        generalize l3.getD k false = y at hc HSK
        cases y
        ·have HK : Hid (rcK p i l3 k = l3) := by show _ = _; rw [HSK.out]; rfl
         go_wp2_with fail
         go_roundw
         case rel => exact ⟨k + 1, by omega, by go_num, by rw [HSk.out, HK.out]; exact M, B⟩
         case measure => simp [intOf]; omega
        ·have EC := Lib.hid (EL.out k i wr (HE.out wr B.out) hlk)
         generalize hasL (outsP p k) i = y at EC HSK
         have hzr : w.heap.size + 1 ≤ wr.heap.size := by have := B.out.size; omega
         cases y
         ·have HK : Hid (rcK p i l3 k = l3) := by show _ = _; rw [HSK.out]; rfl
          go_wp2_with (go_at_call 64; refine EC.out.mono ?_; rintro e w2 ⟨rfl, hb2⟩; have hb2 := Lib.hid hb2)
          go_roundw
          case rel => exact ⟨k + 1, by omega, by go_num, by rw [HSk.out, HK.out]; exact OwnB.below M.out hb2.out, B.out.trans (hb2.out.mono hzr)⟩
          case measure => simp [intOf]; omega
         ·have HK : Hid (rcK p i l3 k = l3.set i true) := by show _ = _; rw [HSK.out]; rfl
          go_wp2_with (go_at_call 64; refine EC.out.mono ?_; rintro e w2 ⟨rfl, hb2⟩; have hb2 := Lib.hid hb2; have hci := (hb2.out.cell (p := ⟨w.heap.size + 1, i, none⟩) hgl).trans HC.out; have hfi := (hb2.out.frozen (p := ⟨w.heap.size + 1, i, none⟩) hgl).trans (HFR.out i))
          go_roundw
          case rel => exact ⟨k + 1, by omega, by go_num, by rw [HSk.out, HK.out]; exact OwnB.set (OwnB.below M.out hb2.out) i true, (B.out.trans (hb2.out.mono hzr)).setCell (Nat.le_refl _) _⟩
          case measure => simp [intOf]; omega
       ·obtain rfl : k = p.blks.length := by omega
        go_wp2_with fail
        go_roundw
        case rel => exact ⟨i + 1, by omega, by go_num, by rw [HSi.out, HSI.out]; exact M.out, B⟩
        case measure => simp [intOf]; omega
    ·go_wp2_with fail
     go_roundw
     case rel => exact ⟨r + 1, by omega, by go_num, by
      obtain rfl : i = p.blks.length := by omega
      rw [← HSr.out]; exact M.out, B⟩
     case measure => simp [intOf]; omega
  ·obtain rfl : r = p.blks.length := by omega
   go_wp2_with fail
   go_ret
   exact ⟨_, rfl, by omega, by rw [← HRR.out]; exact M.out, HR.out _ B.out⟩
end Go.Proofs.YtkhfddodmjnecaaGreatDoor
