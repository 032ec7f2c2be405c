/-
 Ends that lead where they lead in the end, the document's way: the walk.
-/
import Derived.Test.YtnnhobbabcfogaaDoorZDeadDrops39
set_option linter.all false
namespace Go.Proofs.YtnnhobbabcfogaaDoor
open Go.ChangeShapes Go.WideShapes Go.ChangeAt Go.RowKit Go.Maps
set_option maxHeartbeats 2000000
set_option linter.unusedVariables false
set_option maxRecDepth 20000

theorem RdIns.sl {w : World} {v : Value} {l : List In} (h : RdIns w v l) : ∃ a c, v = .slice a l.length c ∧ l.length ≤ c ∧ c ≤ maxLen := by
 obtain ⟨a, c, h1, h2, h3, -⟩ := h
 exact ⟨a, c, h1, h2, h3⟩
theorem with_c (nm : ByteArray) (vd : Bool) (pa rg : Int) (ao ab al : Option Addr) (no co nb cb nl cl : Nat) (w : World) :
  Calls Tryd.prog 54 #[.agg #[.string nm, .bool vd, .int .i64 pa, .int .i64 rg, .slice ao no co, .slice ab nb cb], .slice al nl cl] w fun e w' => e = .returned (.agg #[.string nm, .bool vd, .int .i64 pa, .int .i64 rg, .slice ao no co, .slice al nl cl]) ∧ Below w.heap.size w w' := by
 go_enter Tryd.func54, Tryd.ntmps54
 go_wp2_with fail
 exact bodyPost_ret (v := .agg #[.string nm, .bool vd, .int .i64 pa, .int .i64 rg, .slice ao no co, .slice al nl cl]) (by simp [results, Tryd.results54, go_sem]) rfl ⟨rfl, (((Below.refl _ _).alloc (Nat.le_refl _) _).alloc (by simp) _).alloc (by simp; omega) _⟩
theorem box_set {w : World} {b : Nat} {cs : Array Value} {t : TypeId} (h : w.heap[b]? = some (.cells cs t (0, 0))) (j : Nat) (x : Value) : (w.setCell ⟨b, j, none⟩ x).heap[b]? = some (.cells (cs.setIfInBounds j x) t (0, 0)) := heap_setCell_same w b j cs t x h
theorem bk_ones (v : Value) (hv : ∃ a n c, v = .slice a n c) (a b c d : Int) : ∀ u ∈ [v, .int .i64 a, .int .i64 b, .int .i64 c, .int .i64 d], u.oneCell' = true := fun u hu => by
 obtain ⟨x, n, y, rfl⟩ := hv
 simp only [List.mem_cons, List.not_mem_nil, or_false] at hu
 rcases hu with rfl | rfl | rfl | rfl | rfl <;> rfl
/-- one block more -/
theorem OwnBk.snoc {w w' : World} {B : Nat} {v v' : Value} {L : List (Bk × Value)} {x : Bk} {vi : Value} (h : OwnBk w B v L) (he : ∀ y ∈ L, RdIns w' y.2 y.1.ins) (hx : RdIns w' vi x.ins)
  (ho : w'.ownsRow B 40 5 v' (L.length + 1) (L.flatMap bkCells ++ [vi, .int .i64 x.fin, .int .i64 x.a, .int .i64 x.to, .int .i64 x.els])) : OwnBk w' B v' (L ++ [(x, vi)]) := by
 refine ⟨by simpa [bkCells] using ho, fun y hy => ?_⟩
 rcases List.mem_append.1 hy with hy | hy
 ·exact he y hy
 ·simp only [List.mem_cons, List.not_mem_nil, or_false] at hy
  rw [hy]; exact hx
/-- rows of blocks of the call's own whose instructions lie in what was before -/
structure BkL (w W0 w' : World) (v : Value) (L : List (Bk × Value)) (l : List Bk) : Prop where
 own : w'.ownsRow W0.heap.size 40 5 v L.length (L.flatMap bkCells)
 ins : ∀ x ∈ L, RdIns w x.2 x.1.ins
 is : L.map Prod.fst = l
 below : Below W0.heap.size W0 w'
 le : Below w.heap.size w W0
theorem BkL.rd {w W0 w' : World} {v : Value} {L : List (Bk × Value)} {l : List Bk} (h : BkL w W0 w' v L l) : RdBks w' v l := by
 rw [← h.is]
 exact OwnBk.rd ⟨h.own, fun x hx => (h.ins x hx).ext ((Ext.below h.le).trans (Ext.below h.below))⟩
theorem BkL.nil {w W0 : World} (h : Below w.heap.size w W0) : BkL w W0 W0 (.slice none 0 0) [] [] := ⟨own_nil _ _ _ _, fun x hx => (by cases hx), rfl, Below.refl _ _, h⟩
theorem BkL.grow {w W0 w' w'' : World} {v : Value} {L : List (Bk × Value)} {l : List Bk} (h : BkL w W0 w' v L l) (hb : Below w'.heap.size w' w'') : BkL w W0 w'' v L l :=
 ⟨own_below h.own hb, h.ins, h.is, h.below.trans (hb.mono h.below.size), h.le⟩
theorem BkL.len {w W0 w' : World} {v : Value} {L : List (Bk × Value)} {l : List Bk} (h : BkL w W0 w' v L l) : L.length = l.length := by rw [← h.is]; simp
theorem BkL.sl {w W0 w' : World} {v : Value} {L : List (Bk × Value)} {l : List Bk} (h : BkL w W0 w' v L l) {k : Nat} (hk : l.length = k) : ∃ a c, v = .slice a k c := by
 obtain ⟨a, c, e, -⟩ := h.rd
 rw [hk] at e
 exact ⟨a, c, e⟩
/-- .. one more -/
theorem BkL.app {w W0 w1 w' : World} {v v' : Value} {L : List (Bk × Value)} {l : List Bk} {x : Bk} {vi : Value} (h : BkL w W0 w1 v L l) (hx : RdIns w vi x.ins)
  (ho : w'.ownsRow W0.heap.size 40 5 v' (L.length + 1) (L.flatMap bkCells ++ [vi, .int .i64 x.fin, .int .i64 x.a, .int .i64 x.to, .int .i64 x.els])) (hg : w1.grownBy w' v.ownBlock) : BkL w W0 w' v' (L ++ [(x, vi)]) (l ++ [x]) := by
 refine ⟨by simpa [bkCells] using ho, fun y hy => ?_, by rw [List.map_append, h.is]; rfl, h.below.grown hg h.below.size (fun k hk => (own_lt h.own hk).1), h.le⟩
 rcases List.mem_append.1 hy with hy | hy
 ·exact h.ins y hy
 ·simp only [List.mem_cons, List.not_mem_nil, or_false] at hy
  rw [hy]; exact hx
theorem own_setCell {w : World} {B s n : Nat} {e : TypeId} {v : Value} {xs : List Value} (h : w.ownsRow B e s v n xs) {b : Nat} (hb : b < B) (j : Nat) (x : Value) : (w.setCell ⟨b, j, none⟩ x).ownsRow B e s v n xs :=
 World.ownsRow.kept h (row := some b) ⟨rfl, rfl, rfl, by simp, fun k _ hk => heap_setCell_other w ⟨b, j, none⟩ k x (fun e => hk (by simp [e]))⟩ (.inr (fun e => by have := own_lt h e; omega))
/-- the result's box is filled -/
theorem BkL.fin {w W0 w3 : World} {v : Value} {L : List (Bk × Value)} {l : List Bk} (h : BkL w W0 w3 v L l) {b : Nat} (hb : b < W0.heap.size) (hbw : w.heap.size ≤ b) (c0 c1 c2 c3 c4 c5 : Value) :
  RdBks ((((((w3.setCell ⟨b, 0, none⟩ c0).setCell ⟨b, 1, none⟩ c1).setCell ⟨b, 2, none⟩ c2).setCell ⟨b, 3, none⟩ c3).setCell ⟨b, 4, none⟩ c4).setCell ⟨b, 5, none⟩ c5) v l ∧
  Below w.heap.size w ((((((w3.setCell ⟨b, 0, none⟩ c0).setCell ⟨b, 1, none⟩ c1).setCell ⟨b, 2, none⟩ c2).setCell ⟨b, 3, none⟩ c3).setCell ⟨b, 4, none⟩ c4).setCell ⟨b, 5, none⟩ c5) := by
 have hbl := (((((((h.le.trans (h.below.mono h.le.size)).setCell (p := ⟨b, 0, none⟩) hbw c0).setCell (p := ⟨b, 1, none⟩) hbw c1).setCell (p := ⟨b, 2, none⟩) hbw c2).setCell (p := ⟨b, 3, none⟩) hbw c3).setCell (p := ⟨b, 4, none⟩) hbw c4).setCell (p := ⟨b, 5, none⟩) hbw c5)
 refine ⟨?_, hbl⟩
 rw [← h.is]
 exact OwnBk.rd ⟨own_setCell (own_setCell (own_setCell (own_setCell (own_setCell (own_setCell h.own hb 0 c0) hb 1 c1) hb 2 c2) hb 3 c3) hb 4 c4) hb 5 c5, fun x hx => (h.ins x hx).ext (Ext.below hbl)⟩
theorem rthread_c (p : Pr) (v : Value) (w : World) (hP : PrV w v p) (hJ : JmpOk p) (hl : p.blks.length ≤ 1000) :
  Calls Tryd.prog 30 #[v] w fun e w' => ∃ v', e = .returned v' ∧ PrV w' v' (thP p) ∧ Below w.heap.size w w' := by
 have HEND : Hid (∀ (n : Int) w', Ext w w' → 0 ≤ n → n < p.blks.length → Calls Tryd.prog 53 #[v, .int .i64 n] w' fun e w'' => e = .returned (.int .i64 (endS p n.toNat : Int)) ∧ Below w'.heap.size w' w'') := fun n w' he h0 hn => by
  obtain ⟨m, rfl⟩ : ∃ m : Nat, n = (m : Int) := ⟨n.toNat, by omega⟩
  exact rfin_c p v m w' (hP.ext he) hJ (by omega) (by omega)
 obtain ⟨nm, vo, vb, rfl, ho, hvb⟩ := hP
 have ho' := ho
 obtain ⟨ao, co, rfl, -⟩ := ho'
 have hvb' := hvb
 obtain ⟨ab, cb, rfl, h1, h2, -⟩ := hvb'
 unfold maxLen at h2
 have HBk := Lib.hid (RdBks.at hvb).2
 have HO := Lib.hid ho
 clear hvb ho
 obtain ⟨W0, hW0⟩ : ∃ W0, W0 = (w.alloc (.cells #[.string nm, .bool p.void, .int .i64 p.params, .int .i64 p.regs, .slice ao p.objs.length co, .slice ab p.blks.length cb] 37)).alloc (.cells #[.string { data := #[] }, .bool false, .int .i64 0, .int .i64 0, .slice none 0 0, .slice none 0 0] 37) := ⟨_, rfl⟩
 have hW0' : W0 = allocs w [.cells #[.string nm, .bool p.void, .int .i64 p.params, .int .i64 p.regs, .slice ao p.objs.length co, .slice ab p.blks.length cb] 37, .cells #[.string { data := #[] }, .bool false, .int .i64 0, .int .i64 0, .slice none 0 0, .slice none 0 0] 37] := hW0
 have B0 : Hid (Below w.heap.size w W0) := by rw [hW0']; exact allocs_below _ _
 have H0 : Hid (W0.heap[w.heap.size]? = some (.cells #[.string nm, .bool p.void, .int .i64 p.params, .int .i64 p.regs, .slice ao p.objs.length co, .slice ab p.blks.length cb] 37 (0, 0))) := by rw [hW0']; exact allocs_heap _ w 0 (by simp)
 have H1 : Hid (W0.heap[w.heap.size + 1]? = some (.cells #[.string { data := #[] }, .bool false, .int .i64 0, .int .i64 0, .slice none 0 0, .slice none 0 0] 37 (0, 0))) := by rw [hW0']; exact allocs_heap _ w 1 (by simp)
 have l0w : w.heap.size < W0.heap.size := (Array.getElem?_eq_some_iff.1 H0.out).1
 have l1w : w.heap.size + 1 < W0.heap.size := (Array.getElem?_eq_some_iff.1 H1.out).1
 go_enter Tryd.func30, Tryd.ntmps30
 go_wp2_with fail
 rw [← hW0]
 clear hW0 hW0'
 go_loopw [3, 4] (fun sv i wr => ∃ (k : Nat) (L : List (Bk × Value)) (sl : Value), i = .int .i64 (k : Int) ∧ sv = sl ∧ k ≤ p.blks.length ∧ Hid (BkL w W0 wr sl L ((p.blks.take k).map (thB p)))) (fun _ i _ => p.blks.length - (intOf i).toNat)
 case atStart => exact ⟨0, [], _, rfl, rfl, Nat.zero_le _, BkL.nil B0.out⟩
 case round =>
  obtain ⟨k, L, sl, rfl, rfl, hk, HL⟩ := hrel
  have hLL : ((p.blks.take k).map (thB p)).length = k := by rw [List.length_map, List.length_take]; omega
  obtain ⟨az, cz, rfl⟩ := HL.out.sl hLL
  have BB := Lib.hid (HL.out.below)
  have H0r := Lib.hid ((BB.out.block _ l0w).trans H0.out)
  have H1r := Lib.hid ((BB.out.block _ l1w).trans H1.out)
  obtain ⟨y0, y1, y2, y3, y4, y5, l0⟩ := cl6 H0r.out
  clear hLL
  by_cases hlt : k < p.blks.length
  ·have g1 : decide ((k : Int) < (p.blks.length : Int)) = true := decide_eq_true (by omega)
   have g2 : decide (k < p.blks.length) = true := decide_eq_true hlt
   obtain ⟨b, o, vi, rfl, hvi, c0, c1, c2, c3, c4⟩ := HBk.out k hlt
   have hE : Ext w wr := (Ext.below B0.out).trans (Ext.below BB.out)
   replace c0 := hE _ _ c0
   replace c1 := hE _ _ c1
   replace c2 := hE _ _ c2
   replace c3 := hE _ _ c3
   replace c4 := hE _ _ c4
   have hts : Hid ((p.blks.take (k + 1)).map (thB p) = (p.blks.take k).map (thB p) ++ [thB p (p.blks.getD k default)]) := by
    show _ = _
    rw [List.take_succ_eq_append_getElem hlt, List.map_append]; simp [List.getD, hlt]
   have hj1 := hJ.to1 k hlt
   have hj2 := hJ.to2 k hlt
   unfold bkAt at hj1 hj2
   have hth0 := Lib.hid (rfl : thB p (p.blks.getD k default) = thB p (p.blks.getD k default))
   generalize p.blks.getD k default = K at *
   have HVI := Lib.hid hvi
   obtain ⟨ai, ci, rfl, -, -⟩ := RdIns.sl hvi
   clear hvi
   by_cases f1 : K.fin = 1
   ·have hj1 := hj1 f1
    have q1 : (K.fin == 1) = true := by rw [f1]; rfl
    have q2 : (K.fin == 2) = false := by rw [f1]; rfl
    have hth : Hid (thB p K = ⟨K.ins, K.fin, K.a, (endS p K.to.toNat : Int), K.els⟩) := by show _ = _; unfold thB; rw [if_neg (by omega), if_pos f1]
    clear f1 hj2 hth0
    go_wp2_with fail
    obtain ⟨W1, hW1⟩ : ∃ W1, W1 = wr.alloc (.cells #[.slice ai K.ins.length ci, .int .i64 K.fin, .int .i64 K.a, .int .i64 K.to, .int .i64 K.els] 40) := ⟨_, rfl⟩
    have hBX := Lib.hid (heap_of_alloc wr _ _ hW1)
    have HB1 : Hid (Below wr.heap.size wr W1) := by rw [hW1]; exact below_alloc wr _
    rw [← hW1]
    clear hW1 c0 c1 c2 c3 c4
    refine (HEND.out K.to W1 (hE.trans (Ext.below HB1.out)) hj1.1 hj1.2).mono ?_
    rintro e w2 ⟨rfl, hb2⟩
    have hBX := Lib.hid ((hb2.block _ (Array.getElem?_eq_some_iff.1 hBX.out).1).trans hBX.out)
    have HB2 := Lib.hid (HB1.out.trans (hb2.mono HB1.out.size))
    clear hb2 HB1 hE
    obtain ⟨z0, z1, z2, z3, z4, lb⟩ := cl5 hBX.out
    have zf := Lib.frozen_of_heap hBX.out 3
    have hone := Lib.hid (bk_ones (.slice ai K.ins.length ci) ⟨_, _, _, rfl⟩ K.fin K.a (endS p K.to.toNat : Int) K.els)
    have HLL := Lib.hid (HL.out.grow (HB2.out.setCell (p := ⟨wr.heap.size, 3, none⟩) (Nat.le_refl _) (.int .i64 (endS p K.to.toNat : Int))))
    go_wp2_with (at_builtin; refine appG 35 40 info_bk Tryd.underlying35 rfl (by decide) (by decide) [.slice ai K.ins.length ci, .int .i64 K.fin, .int .i64 K.a, .int .i64 (endS p K.to.toNat : Int), .int .i64 K.els] rfl hone.out (HLL.out.grow (below_alloc _ _)).own rfl rfl rfl rfl (cell_newX _ _ _ _ (by simp)) (by have := HLL.out.len; rw [List.length_map, List.length_take] at this; omega) ((HLL.out.grow (below_alloc _ _)).below.size) ?_; intro v6 w6 O6 G6 D6)
    have HL6 := Lib.hid ((HLL.out.grow (below_alloc _ _)).app (x := ⟨K.ins, K.fin, K.a, (endS p K.to.toNat : Int), K.els⟩) HVI.out O6 G6)
    obtain ⟨a6, c6, rfl⟩ := HL6.out.sl (k := k + 1) (by rw [List.length_append, List.length_map, List.length_take]; simp; omega)
    rw [← hth.out] at HL6
    exact ⟨⟨k + 1, _, _, rfl, rfl, by omega, by rw [hts.out]; exact HL6⟩, by simp [intOf]; omega⟩
   ·by_cases f2 : K.fin = 2
    ·have hj2 := hj2 f2
     have q1 : (K.fin == 1) = false := by rw [f2]; rfl
     have q2 : (K.fin == 2) = true := by rw [f2]; rfl
     have hthA : Hid (endS p K.to.toNat = endS p K.els.toNat → thB p K = ⟨K.ins, 1, -1, (endS p K.to.toNat : Int), 0⟩) := fun e => by unfold thB; rw [if_pos f2, if_pos e]
     have hthB : Hid (endS p K.to.toNat ≠ endS p K.els.toNat → thB p K = ⟨K.ins, K.fin, K.a, (endS p K.to.toNat : Int), (endS p K.els.toNat : Int)⟩) := fun e => by unfold thB; rw [if_pos f2, if_neg e]
     clear f1 f2 hj1 hth0
     go_wp2_with fail
     obtain ⟨W1, hW1⟩ : ∃ W1, W1 = wr.alloc (.cells #[.slice ai K.ins.length ci, .int .i64 K.fin, .int .i64 K.a, .int .i64 K.to, .int .i64 K.els] 40) := ⟨_, rfl⟩
     have hBX := Lib.hid (heap_of_alloc wr _ _ hW1)
     have HB1 : Hid (Below wr.heap.size wr W1) := by rw [hW1]; exact below_alloc wr _
     rw [← hW1]
     clear hW1 c0 c1 c2 c3 c4
     refine (HEND.out K.to W1 (hE.trans (Ext.below HB1.out)) hj2.1.1 hj2.1.2).mono ?_
     rintro e w2 ⟨rfl, hb2⟩
     have hBX := Lib.hid ((hb2.block _ (Array.getElem?_eq_some_iff.1 hBX.out).1).trans hBX.out)
     have HB2 := Lib.hid (HB1.out.trans (hb2.mono HB1.out.size))
     have HW2 := Lib.hid ((BB.out.trans (HB2.out.mono BB.out.size)).block _ l0w)
     have x0 := HW2.out.trans H0.out
     clear y0 y1 y2 y3 y4 y5
     obtain ⟨y0, y1, y2, y3, y4, y5, -⟩ := cl6 x0
     clear hb2 HB1 x0 HW2
     obtain ⟨z0, z1, z2, z3, z4, lb⟩ := cl5 hBX.out
     have zf := Lib.frozen_of_heap hBX.out 3
     have hne : wr.heap.size ≠ w.heap.size := by omega
     go_wp2_with fail
     have hBX : Hid ((w2.setCell ⟨wr.heap.size, 3, none⟩ (.int .i64 (endS p K.to.toNat : Int))).heap[wr.heap.size]? = some (.cells #[.slice ai K.ins.length ci, .int .i64 K.fin, .int .i64 K.a, .int .i64 (endS p K.to.toNat : Int), .int .i64 K.els] 40 (0, 0))) := box_set hBX.out 3 _
     have HB2 : Hid (Below wr.heap.size wr (w2.setCell ⟨wr.heap.size, 3, none⟩ (.int .i64 (endS p K.to.toNat : Int)))) := HB2.out.setCell (p := ⟨wr.heap.size, 3, none⟩) (Nat.le_refl _) _
     clear y0 y1 y2 y3 y4 y5 z0 z1 z2 z3 z4 lb zf
     generalize w2.setCell ⟨wr.heap.size, 3, none⟩ (.int .i64 (endS p K.to.toNat : Int)) = W2 at *
     refine (HEND.out K.els W2 (hE.trans (Ext.below HB2.out)) hj2.2.1 hj2.2.2).mono ?_
     rintro e w3 ⟨rfl, hb3⟩
     have hBX := Lib.hid ((hb3.block _ (Array.getElem?_eq_some_iff.1 hBX.out).1).trans hBX.out)
     have HB3 := Lib.hid (HB2.out.trans (hb3.mono HB2.out.size))
     clear hb3 HB2 hE
     obtain ⟨z0, z1, z2, z3, z4, lb⟩ := cl5 hBX.out
     have zf := Lib.frozen_of_heap hBX.out
     have zf4 := zf 4
     have zf1 := zf 1
     have zf2 := zf 2
     clear zf
     by_cases heq : endS p K.to.toNat = endS p K.els.toNat
     ·have hth := Lib.hid (hthA.out heq)
      have r1 : (endS p K.to.toNat == endS p K.els.toNat) = true := by rw [heq]; simp
      have r2 : ((endS p K.to.toNat : Int) == (endS p K.els.toNat : Int)) = true := by rw [heq]; simp
      clear heq hthA hthB
      generalize endS p K.els.toNat = ee at *
      generalize endS p K.to.toNat = te at *
      have hone := Lib.hid (bk_ones (.slice ai K.ins.length ci) ⟨_, _, _, rfl⟩ 1 (-1) (te : Int) 0)
      have HLL := Lib.hid (HL.out.grow ((((HB3.out.setCell (p := ⟨wr.heap.size, 4, none⟩) (Nat.le_refl _) (.int .i64 (ee : Int))).setCell (p := ⟨wr.heap.size, 1, none⟩) (Nat.le_refl _) (.int .i64 1)).setCell (p := ⟨wr.heap.size, 2, none⟩) (Nat.le_refl _) (.int .i64 (-1))).setCell (p := ⟨wr.heap.size, 4, none⟩) (Nat.le_refl _) (.int .i64 0)))
      go_wp2_with (at_builtin; refine appG 35 40 info_bk Tryd.underlying35 rfl (by decide) (by decide) [.slice ai K.ins.length ci, .int .i64 1, .int .i64 (-1), .int .i64 (te : Int), .int .i64 0] rfl hone.out (HLL.out.grow (below_alloc _ _)).own rfl rfl rfl rfl (cell_newX _ _ _ _ (by simp)) (by have := HLL.out.len; rw [List.length_map, List.length_take] at this; omega) ((HLL.out.grow (below_alloc _ _)).below.size) ?_; intro v6 w6 O6 G6 D6)
      have HL6 := Lib.hid ((HLL.out.grow (below_alloc _ _)).app (x := ⟨K.ins, 1, (-1), (te : Int), 0⟩) HVI.out O6 G6)
      obtain ⟨a6, c6, rfl⟩ := HL6.out.sl (k := k + 1) (by rw [List.length_append, List.length_map, List.length_take]; simp; omega)
      rw [← hth.out] at HL6
      exact ⟨⟨k + 1, _, _, rfl, rfl, by omega, by rw [hts.out]; exact HL6⟩, by simp [intOf]; omega⟩
     ·have hth := Lib.hid (hthB.out heq)
      have r1 : (endS p K.to.toNat == endS p K.els.toNat) = false := by simpa using heq
      have r2 : ((endS p K.to.toNat : Int) == (endS p K.els.toNat : Int)) = false := by rw [beq_eq_false_iff_ne]; omega
      clear heq hthA hthB
      generalize endS p K.els.toNat = ee at *
      generalize endS p K.to.toNat = te at *
      have hone := Lib.hid (bk_ones (.slice ai K.ins.length ci) ⟨_, _, _, rfl⟩ K.fin K.a (te : Int) (ee : Int))
      have HLL := Lib.hid (HL.out.grow (HB3.out.setCell (p := ⟨wr.heap.size, 4, none⟩) (Nat.le_refl _) (.int .i64 (ee : Int))))
      go_wp2_with (at_builtin; refine appG 35 40 info_bk Tryd.underlying35 rfl (by decide) (by decide) [.slice ai K.ins.length ci, .int .i64 K.fin, .int .i64 K.a, .int .i64 (te : Int), .int .i64 (ee : Int)] rfl hone.out (HLL.out.grow (below_alloc _ _)).own rfl rfl rfl rfl (cell_newX _ _ _ _ (by simp)) (by have := HLL.out.len; rw [List.length_map, List.length_take] at this; omega) ((HLL.out.grow (below_alloc _ _)).below.size) ?_; intro v6 w6 O6 G6 D6)
      have HL6 := Lib.hid ((HLL.out.grow (below_alloc _ _)).app (x := ⟨K.ins, K.fin, K.a, (te : Int), (ee : Int)⟩) HVI.out O6 G6)
      obtain ⟨a6, c6, rfl⟩ := HL6.out.sl (k := k + 1) (by rw [List.length_append, List.length_map, List.length_take]; simp; omega)
      rw [← hth.out] at HL6
      exact ⟨⟨k + 1, _, _, rfl, rfl, by omega, by rw [hts.out]; exact HL6⟩, by simp [intOf]; omega⟩
    ·have q1 : (K.fin == 1) = false := by simpa using f1
     have q2 : (K.fin == 2) = false := by simpa using f2
     have hth : Hid (thB p K = ⟨K.ins, K.fin, K.a, K.to, K.els⟩) := by show _ = _; unfold thB; rw [if_neg f2, if_neg f1]
     clear f1 f2 hj1 hj2 hth0
     have hone := Lib.hid (bk_ones (.slice ai K.ins.length ci) ⟨_, _, _, rfl⟩ K.fin K.a K.to K.els)
     have HLL := Lib.hid (HL.out.grow (below_alloc wr (.cells #[.slice ai K.ins.length ci, .int .i64 K.fin, .int .i64 K.a, .int .i64 K.to, .int .i64 K.els] 40)))
     go_wp2_with (at_builtin; refine appG 35 40 info_bk Tryd.underlying35 rfl (by decide) (by decide) [.slice ai K.ins.length ci, .int .i64 K.fin, .int .i64 K.a, .int .i64 K.to, .int .i64 K.els] rfl hone.out (HLL.out.grow (below_alloc _ _)).own rfl rfl rfl rfl (cell_newX _ _ _ _ (by simp)) (by have := HLL.out.len; rw [List.length_map, List.length_take] at this; omega) ((HLL.out.grow (below_alloc _ _)).below.size) ?_; intro v6 w6 O6 G6 D6)
     have HL6 := Lib.hid ((HLL.out.grow (below_alloc _ _)).app (x := ⟨K.ins, K.fin, K.a, K.to, K.els⟩) HVI.out O6 G6)
     obtain ⟨a6, c6, rfl⟩ := HL6.out.sl (k := k + 1) (by rw [List.length_append, List.length_map, List.length_take]; simp; omega)
     rw [← hth.out] at HL6
     exact ⟨⟨k + 1, _, _, rfl, rfl, by omega, by rw [hts.out]; exact HL6⟩, by simp [intOf]; omega⟩
  ·obtain rfl : k = p.blks.length := by omega
   have g1 : decide ((p.blks.length : Int) < (p.blks.length : Int)) = false := decide_eq_false (by omega)
   have g2 : decide (p.blks.length < p.blks.length) = false := decide_eq_false (by omega)
   rw [List.take_length] at HL
   go_wp2_with fail
   refine (with_c nm p.void p.params p.regs ao ab az p.objs.length co p.blks.length cb p.blks.length cz wr).mono ?_
   rintro e w3 ⟨rfl, hb3⟩
   have H1r := Lib.hid ((hb3.block _ (Array.getElem?_eq_some_iff.1 H1r.out).1).trans H1r.out)
   have HL := Lib.hid (HL.out.grow hb3)
   clear hb3 y0 y1 y2 y3 y4 y5
   obtain ⟨y0, y1, y2, y3, y4, y5, l1⟩ := cl6 H1r.out
   have zf := Lib.frozen_of_heap H1r.out
   have zf0 := zf 0
   have zf1 := zf 1
   have zf2 := zf 2
   have zf3 := zf 3
   have zf4 := zf 4
   have zf5 := zf 5
   clear zf
   go_wp2_with fail
   obtain ⟨hrd, hbf⟩ := HL.out.fin (b := w.heap.size + 1) l1w (by omega) (.string nm) (.bool p.void) (.int .i64 p.params) (.int .i64 p.regs) (.slice ao p.objs.length co) (.slice az p.blks.length cz)
   exact bodyPost_ret (v := .agg #[.string nm, .bool p.void, .int .i64 p.params, .int .i64 p.regs, .slice ao p.objs.length co, .slice az p.blks.length cz]) (by simp [results, Tryd.results30, go_sem, y0, y1, y2, y3, y4, y5, l1]) rfl ⟨_, rfl, ⟨nm, _, _, rfl, HO.out.ext (Ext.below hbf), hrd⟩, hbf⟩
end Go.Proofs.YtnnhobbabcfogaaDoor
