/-
 hazard: the order in which blocks are gone through; whether an instruction is a hazard.
-/
import Derived.Test.YtobfpfjdkpaeiaaZHazardWrites37
import Derived.Test.YtobfpfjdkpaeiaaZHazardWrites43
set_option linter.all false
namespace Go.Proofs.Ytobfpfjdkpaeiaa
open Go.ChangeShapes Go.WideShapes Go.ChangeAt Go.RowKit
set_option maxHeartbeats 4000000
set_option maxRecDepth 100000
set_option linter.unusedVariables false

def restH (p : Pr) (k : Nat) : List Int := ((List.range k).filter fun n => !(reachP p).getD n false).map fun n : Nat => (n : Int)
theorem restH_succ (p : Pr) (k : Nat) : restH p (k + 1) = restH p k ++ (if (reachP p).getD k false = true then [] else [(k : Int)]) := by
 unfold restH
 rw [List.range_succ, List.filter_append, List.map_append]
 congr 1
 cases h : (reachP p).getD k false
 ·rw [List.filter_cons, h]; rfl
 ·rw [List.filter_cons, h]; rfl
theorem restH_len (p : Pr) (k : Nat) : (restH p k).length ≤ k := by
 unfold restH
 rw [List.length_map]
 have := List.length_filter_le (fun n => !(reachP p).getD n false) (List.range k)
 rwa [List.length_range] at this
theorem orderH_c (p : Pr) (V : Value) (w : World) (hP : PrV w V p) (hlen : p.blks.length ≤ 1000) (hp0 : 0 < p.blks.length) :
  Calls Try.prog 35 #[V] w (RetI w (allH p)) := by
 have HO : Hid (∀ W, Ext w W → Calls Try.prog 67 #[V] W (RetI W (wkD p).ord.reverse)) := fun W hW => order_c p V W (hP.ext hW) (by omega)
 have HR : Hid (∀ W, Ext w W → Calls Try.prog 68 #[V] W fun e w' => ∃ g, e = .returned (.slice (some ⟨g, 0, none⟩) p.blks.length p.blks.length) ∧ W.heap.size ≤ g ∧ RowB w' g p.blks.length p.blks.length (reachP p) ∧ Below W.heap.size W w') := fun W hW => reach_c p V W (hP.ext hW) (by omega)
 have HAL : Hid (allH p = (wkD p).ord.reverse ++ restH p p.blks.length) := rfl
 have hol : (wkD p).ord.reverse.length ≤ 10000000 := by
  rw [List.length_reverse]
  have := wkD_len p (by omega)
  omega
 obtain ⟨nm, vo, vb, rfl, hvo, hvb⟩ := hP
 obtain ⟨ao, co, rfl, -⟩ := hvo
 obtain ⟨ab, cb, rfl, -⟩ := hvb
 obtain ⟨W1, hW1⟩ : ∃ W1, W1 = w.alloc (.cells #[.string nm, .bool p.void, .int .i64 p.params, .int .i64 p.regs, .slice ao p.objs.length co, .slice ab p.blks.length cb] 32) := ⟨_, rfl⟩
 have B1 : Hid (Below w.heap.size w W1) := by
  show Below _ _ _
  rw [hW1]; exact below_alloc w _
 have H1 := Lib.hid (heap_of_alloc w _ _ hW1)
 have HW1 := Lib.hid hW1.symm
 clear hW1
 go_enter Try.func35, Try.ntmps35
 go_wp2_with fail
 rw [HW1.out]
 clear HW1
 refine (HO.out W1 (Ext.below B1.out)).mono ?_
 clear HO
 rintro e w2 ⟨v2, rfl, ho2, hb2⟩
 have H2 := Lib.hid ((hb2.block _ (Array.getElem?_eq_some_iff.1 H1.out).1).trans H1.out)
 have B2 := Lib.hid (B1.out.trans (hb2.mono B1.out.size))
 have HO2 : Hid (OwnI w2 w.heap.size v2 (wkD p).ord.reverse) := ownsRow_base ho2 B1.out.size
 clear ho2 hb2 H1 B1
 obtain ⟨x0, x1, x2, x3, x4, x5, lx⟩ := cl6 H2.out
 go_wp2_with fail
 refine (HR.out w2 (Ext.below B2.out)).mono ?_
 clear HR
 rintro e w3 ⟨g, rfl, hgB, hrb, hb3⟩
 have B3 := Lib.hid (B2.out.trans (hb3.mono B2.out.size))
 have HO3 : Hid (OwnI w3 w.heap.size v2 ((wkD p).ord.reverse ++ restH p 0)) := by
  show OwnI _ _ _ _
  rw [show restH p 0 = [] from rfl, List.append_nil]
  exact own_below HO2.out hb3
 have HRB := Lib.hid hrb
 have hgw : w.heap.size ≤ g := Nat.le_trans B2.out.size hgB
 clear hrb hb3 HO2 B2 H2 x0 x1 x2 x3 x4 x5 lx
 generalize (wkD p).ord.reverse = od at *
 go_wp2_with fail
 go_loopw [3, 11] (fun v i wr => ∃ k : Nat, k ≤ p.blks.length ∧ i = .int .i64 (k : Int) ∧ Hid (OwnI wr w.heap.size v (od ++ restH p k)) ∧ Hid (RowB wr g p.blks.length p.blks.length (reachP p)) ∧ Hid (Below w.heap.size w wr)) (fun _ i _ => p.blks.length - (intOf i).toNat)
 case atStart => exact ⟨0, Nat.zero_le _, rfl, HO3, HRB, B3⟩
 case round =>
  clear HO3 HRB B3
  obtain ⟨k, hk, rfl, HO, HRB, HB⟩ := hrel
  by_cases hlt : k < p.blks.length
  ·obtain ⟨e1, e2, e3, -, hcell, -, lg⟩ := HRB.out.cellAt
   have hc := hcell k (by omega)
   have HSU := Lib.hid (restH_succ p k)
   have HLE := Lib.hid (restH_len p k)
   have hll : (od ++ restH p k).length ≤ 20000000 := by rw [List.length_append]; have := HLE.out; omega
   obtain ⟨av, cv, rfl⟩ := row_form HO.out
   generalize (reachP p).getD k false = z at *
   clear hcell e1
   cases z
   ·have HN : Hid (od ++ restH p (k + 1) = (od ++ restH p k) ++ [(k : Int)]) := by
     show _ = _
     rw [HSU.out, List.append_assoc]; rfl
    have hbz := HB.out.size
    go_wp2_with (at_builtin; refine appI (n := (k : Int)) (own_below HO.out (below_alloc wr (.cells #[.int .i64 (k : Int)] 3))) rfl rfl rfl rfl (cell_of_heap (heap_alloc_new wr _) 0) (by omega) (by simp; omega) ?_; intro v9 w9 h9 hg9 ha9)
    have HO9 : Hid (OwnI w9 w.heap.size v9 (od ++ restH p (k + 1))) := by
     show World.ownsRow _ _ _ _ _ _ _
     rw [HN.out, List.length_append, List.map_append]
     exact h9
    have HR9 : Hid (RowB w9 g p.blks.length p.blks.length (reachP p)) := World.ownsRow.kept (own_below HRB.out (below_alloc wr (.cells #[.int .i64 (k : Int)] 3))) hg9 (own_apart HRB.out HO.out (by decide))
    have HB9 : Hid (Below w.heap.size w w9) := (HB.out.trans ((below_alloc wr (.cells #[.int .i64 (k : Int)] 3)).mono hbz)).grown hg9 (by simp; omega) (fun b e => (own_lt HO.out e).1)
    clear h9 hg9 ha9 HO HRB HB
    go_roundw
    case rel => exact ⟨k + 1, hlt, by go_num, HO9, HR9, HB9⟩
    case measure => simp [intOf]; omega
   ·have HN : Hid (od ++ restH p (k + 1) = od ++ restH p k) := by
     show _ = _
     rw [HSU.out]; simp
    go_wp2_with fail
    go_roundw
    case rel => exact ⟨k + 1, hlt, by go_num, by rw [HN.out]; exact HO, HRB, HB⟩
    case measure => simp [intOf]; omega
  ·obtain rfl : k = p.blks.length := by omega
   go_wp2_with fail
   go_ret
   exact ⟨_, rfl, by rw [HAL.out]; exact HO.out, HB.out⟩
end Go.Proofs.Ytobfpfjdkpaeiaa
