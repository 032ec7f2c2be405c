/-
  Ends that lead where they lead in the end: the walk.
-/
import Derived.Test.YtnnhobbabcfogaaDoorZShapeThreads14
import Derived.Test.YtnnhobbabcfogaaDoorZShapeThreads26
import Derived.RegionTactic
import Derived.BigRegion
import Derived.Deep.QuietTactic
import Derived.BigQuiet
import Derived.WalkSmall
set_option linter.all false
namespace Go.Proofs.YtnnhobbabcfogaaDoor
open Go.ChangeShapes Go.WideShapes Go.ChangeAt Go.RowKit Go.Maps
set_option maxHeartbeats 4000000
set_option linter.unusedVariables false
set_option maxRecDepth 100000

/-- rows of blocks of the call's own that are written to -/
structure BkM (w : World) (B : Nat) (W0 w' : World) (v : Value) (L : List (Bk × Value)) : Prop where
  own : w'.ownsRow B 40 5 v L.length (L.flatMap bkCells)
  ins : ∀ x ∈ L, RdIns w x.2 x.1.ins
  below : Below B W0 w'
  le : Below w.heap.size w W0
  bl : w.heap.size ≤ B ∧ B ≤ W0.heap.size
theorem BkM.rd {w W0 w' : World} {B : Nat} {v : Value} {L : List (Bk × Value)} (h : BkM w B W0 w' v L) : RdBks w' v (L.map Prod.fst) :=
  OwnBk.rd ⟨h.own, fun x hx => (h.ins x hx).ext (Ext.below (h.le.trans (h.below.mono h.bl.1)))⟩
theorem BkM.grow {w W0 w' w'' : World} {B : Nat} {v : Value} {L : List (Bk × Value)} (h : BkM w B W0 w' v L) (hb : Below w'.heap.size w' w'') : BkM w B W0 w'' v L :=
  ⟨own_below h.own hb, h.ins, h.below.trans (hb.mono (Nat.le_trans h.bl.2 h.below.size)), h.le, h.bl⟩
theorem BkM.num {w W0 w' : World} {B n c : Nat} {a : Option Addr} {L : List (Bk × Value)} (h : BkM w B W0 w' (.slice a n c) L) : n = L.length := by
  obtain ⟨-, ⟨e, e2⟩ | ⟨g', cap, cur, e, -⟩⟩ := h.own
  · simp only [Value.slice.injEq] at e; omega
  · simp only [Value.slice.injEq] at e; exact e.2.1
/-- one cell written -/
theorem BkM.put {w W0 w' : World} {B g n c : Nat} {L : List (Bk × Value)} (h : BkM w B W0 w' (.slice (some ⟨g, 0, none⟩) n c) L) {k : Nat} (hk : k < L.length) (j : Nat) (hj : j < 5) (u : Value) (a : Bk × Value)
    (ha : bkCells a = (bkCells (L.getD k default)).set j u) (hi : a.1.ins = (L.getD k default).1.ins) (hv : a.2 = (L.getD k default).2) : BkM w B W0 (w'.setCell ⟨g, k * 5 + j, none⟩ u) (.slice (some ⟨g, 0, none⟩) n c) (L.set k a) := by
  obtain rfl := h.num
  obtain ⟨h1, -⟩ := World.ownsRow.stored h.own (k * 5 + j) u
  rw [flat_set bkCells 5 (fun _ => rfl) L k j u a hk hj ha] at h1
  refine ⟨by rw [List.length_set]; exact h1, fun x hx => ?_, h.below.setCell (p := ⟨g, k * 5 + j, none⟩) (own_lt h.own rfl).1 u, h.le, h.bl⟩
  rcases List.mem_or_eq_of_mem_set hx with hx | rfl
  · exact h.ins x hx
  · rw [hi, hv]
    exact h.ins _ (by simp [List.getD, hk])
theorem BkM.put' {w W0 w' : World} {B g n c : Nat} {L : List (Bk × Value)} {k : Nat} {a : Bk × Value} (h : BkM w B W0 w' (.slice (some ⟨g, 0, none⟩) n c) (L.set k a)) (hk : k < L.length) (j : Nat) (hj : j < 5) (u : Value) (b : Bk × Value)
    (hb : bkCells b = (bkCells a).set j u) (hi : b.1.ins = a.1.ins) (hv : b.2 = a.2) : BkM w B W0 (w'.setCell ⟨g, k * 5 + j, none⟩ u) (.slice (some ⟨g, 0, none⟩) n c) (L.set k b) := by
  have e : (L.set k a).getD k default = a := by simp [List.getD, hk]
  have := h.put (by simpa using hk) j hj u b (by rw [e]; exact hb) (by rw [e]; exact hi) (by rw [e]; exact hv)
  rwa [List.set_set] at this
theorem BkM.cell {w W0 w' : World} {B g n c : Nat} {L : List (Bk × Value)} (h : BkM w B W0 w' (.slice (some ⟨g, 0, none⟩) n c) L) {k : Nat} (hk : k < L.length) : 
    w'.cell? ⟨g, k * 5, none⟩ = some (L.getD k default).2 ∧ w'.cell? ⟨g, k * 5 + 1, none⟩ = some (.int .i64 (L.getD k default).1.fin) ∧ w'.cell? ⟨g, k * 5 + 2, none⟩ = some (.int .i64 (L.getD k default).1.a) ∧
    w'.cell? ⟨g, k * 5 + 3, none⟩ = some (.int .i64 (L.getD k default).1.to) ∧ w'.cell? ⟨g, k * 5 + 4, none⟩ = some (.int .i64 (L.getD k default).1.els) := by
  obtain rfl := h.num
  have key : ∀ j u, (bkCells (L.getD k default))[j]? = some u → j < 5 → w'.cell? ⟨g, k * 5 + j, none⟩ = some u := fun j u hu hj => by
    have hlt : k * 5 + j < L.length * 5 := by omega
    have := h.own.cellAt (k * 5 + j) hlt
    rw [this, flat_at bkCells 5 (fun _ => rfl) L k j hk hj, hu]
  exact ⟨key 0 _ rfl (by decide), key 1 _ rfl (by decide), key 2 _ rfl (by decide), key 3 _ rfl (by decide), key 4 _ rfl (by decide)⟩
theorem BkM.fz {w W0 w' : World} {B g n c : Nat} {L : List (Bk × Value)} (h : BkM w B W0 w' (.slice (some ⟨g, 0, none⟩) n c) L) (i : Nat) : w'.frozen? ⟨g, i, none⟩ = false := by
  obtain rfl := h.num
  exact World.ownsRow.frozenAt h.own i
theorem BkM.fin {w W0 w3 : World} {B : Nat} {v : Value} {L : List (Bk × Value)} (h : BkM w B W0 w3 v L) {b : Nat} (hb : b < B) (hbw : w.heap.size ≤ b) (c0 c1 c2 c3 c4 c5 : Value) :
    RdBks ((((((w3.setCell ⟨b, 0, none⟩ c0).setCell ⟨b, 1, none⟩ c1).setCell ⟨b, 2, none⟩ c2).setCell ⟨b, 3, none⟩ c3).setCell ⟨b, 4, none⟩ c4).setCell ⟨b, 5, none⟩ c5) v (L.map Prod.fst) ∧
    Below w.heap.size w ((((((w3.setCell ⟨b, 0, none⟩ c0).setCell ⟨b, 1, none⟩ c1).setCell ⟨b, 2, none⟩ c2).setCell ⟨b, 3, none⟩ c3).setCell ⟨b, 4, none⟩ c4).setCell ⟨b, 5, none⟩ c5) := by
  have hbl := (((((((h.le.trans (h.below.mono h.bl.1)).setCell (p := ⟨b, 0, none⟩) hbw c0).setCell (p := ⟨b, 1, none⟩) hbw c1).setCell (p := ⟨b, 2, none⟩) hbw c2).setCell (p := ⟨b, 3, none⟩) hbw c3).setCell (p := ⟨b, 4, none⟩) hbw c4).setCell (p := ⟨b, 5, none⟩) hbw c5)
  refine ⟨?_, hbl⟩
  exact OwnBk.rd ⟨own_setCell (own_setCell (own_setCell (own_setCell (own_setCell (own_setCell h.own hb 0 c0) hb 1 c1) hb 2 c2) hb 3 c3) hb 4 c4) hb 5 c5, fun x hx => (h.ins x hx).ext (Ext.below hbl)⟩
/-- a copy of a row of blocks, the instructions where they were -/
theorem copyBkM {w0 : World} {v : Value} {l : List Bk} (h : RdBks w0 v l) (w : World) (he : Ext w0 w) (hn : l.length ≤ 1000000) :
    Calls Tryd.prog 52 #[v] w fun e w' => ∃ v', ∃ L : List (Bk × Value), e = .returned v' ∧ L.map Prod.fst = l ∧ w'.ownsRow w.heap.size 40 5 v' L.length (L.flatMap bkCells) ∧ (∀ x ∈ L, RdIns w0 x.2 x.1.ins) ∧ Below w.heap.size w w' := by
  obtain ⟨L, rfl, hi, hs⟩ := h.src
  rw [List.length_map] at hs hn
  refine (cloneBk v L.length _ w (hs.keep he) (flat_len bkCells 5 (fun _ => rfl) L) hn (bk_one L fun x hx => Rows'.sl (hi x hx))).mono ?_
  rintro e w' ⟨v', rfl, ho, hb⟩
  exact ⟨v', L, rfl, rfl, ho, hi, hb⟩
theorem own_ptrG {w : World} {B s m n c : Nat} {e : TypeId} {a : Option Addr} {xs : List Value} (h : w.ownsRow B e s (.slice a n c) m xs) (h0 : 0 < n) : ∃ g, a = some ⟨g, 0, none⟩ := by
  obtain ⟨h1, ⟨h2, h3⟩ | ⟨g, cap, cur, h2, -⟩⟩ := h
  · simp only [Value.slice.injEq] at h2
    omega
  · simp only [Value.slice.injEq] at h2
    exact ⟨g, h2.1⟩
theorem set_selfD {α : Type} [Inhabited α] {l : List α} {k : Nat} (h : k < l.length) : l.set k (l.getD k default) = l := by
  apply List.ext_getElem (by simp)
  intro i h1 h2
  rw [List.getElem_set]
  split
  · rename_i e; subst e; simp [List.getD, h]
  · rfl
/-- the first so many blocks turned -/
def mapN (f : Bk → Bk) (L : List (Bk × Value)) (k : Nat) : List (Bk × Value) := (L.take k).map (fun x => (f x.1, x.2)) ++ L.drop k
theorem mapN_len (f : Bk → Bk) (L : List (Bk × Value)) (k : Nat) : (mapN f L k).length = L.length := by unfold mapN; rw [List.length_append, List.length_map, ← List.length_append, List.take_append_drop]
theorem mapN_at (f : Bk → Bk) (L : List (Bk × Value)) (k : Nat) (hk : k < L.length) : (mapN f L k).getD k default = L.getD k default := by
  unfold mapN
  rw [List.getD_eq_getElem?_getD, List.getElem?_append_right (by simp; omega)]
  simp [List.getD, Nat.min_eq_left (Nat.le_of_lt hk)]
theorem mapN_succ (f : Bk → Bk) (L : List (Bk × Value)) (k : Nat) (hk : k < L.length) : mapN f L (k + 1) = (mapN f L k).set k (f (L.getD k default).1, (L.getD k default).2) := by
  unfold mapN
  have e : k - ((L.take k).map fun x => (f x.1, x.2)).length = 0 := by simp; omega
  rw [List.set_append_right _ _ (by simp; omega), List.take_succ_eq_append_getElem hk, List.map_append, List.drop_eq_getElem_cons hk, e, List.set_cons_zero, List.append_assoc]
  congr 1
  simp [List.getD, hk]
theorem mapN_all (f : Bk → Bk) (L : List (Bk × Value)) : (mapN f L L.length).map Prod.fst = (L.map Prod.fst).map f := by
  unfold mapN
  rw [List.take_length, List.drop_length, List.append_nil, List.map_map, List.map_map]
  rfl
theorem mapN_0 (f : Bk → Bk) (L : List (Bk × Value)) : mapN f L 0 = L := by simp [mapN]
/-- where the first so many blocks lead -/
def toL (p : Pr) (k : Nat) : List Int := (List.range p.blks.length).map fun i => if i < k then (endS p i : Int) else 0
theorem toL_len (p : Pr) (k : Nat) : (toL p k).length = p.blks.length := by simp [toL]
theorem toL_succ (p : Pr) (k : Nat) (hk : k < p.blks.length) : toL p (k + 1) = (toL p k).set k (endS p k : Int) := by
  apply List.ext_getElem (by simp [toL])
  intro i h1 h2
  simp only [toL, List.getElem_map, List.getElem_range, List.getElem_set]
  by_cases e : k = i
  · subst e; simp
  · rw [if_neg e]
    by_cases h : i < k
    · rw [if_pos (by omega), if_pos h]
    · rw [if_neg (by omega), if_neg h]
theorem toL_0 (p : Pr) : toL p 0 = List.replicate p.blks.length 0 := by
  apply List.ext_getElem (by simp [toL])
  intro i h1 h2
  simp [toL]
theorem toL_all (p : Pr) (i : Nat) (hi : i < p.blks.length) : (toL p p.blks.length).getD i 0 = (endS p i : Int) := by simp [toL, List.getD, hi]
theorem thread_c (p : Pr) (v : Value) (w : World) (hP : PrV w v p) (hJ : JmpOk p) (hl : p.blks.length ≤ 1000) :
    Calls Tryd.prog 29 #[v] w fun e w' => ∃ v', e = .returned v' ∧ PrV w' v' (thP p) ∧ Below w.heap.size w w' := by
  have HEND : Hid (∀ (m : Nat) w', Ext w w' → m < p.blks.length → Calls Tryd.prog 51 #[v, .int .i64 (m : Int)] w' fun e w'' => e = .returned (.int .i64 (endS p m : Int)) ∧ Below w'.heap.size w' w'') := fun m w' he hn => sfin_c p v m w' (hP.ext he) hJ hn (by omega)
  obtain ⟨nm, vo, vb, rfl, ho, hvb⟩ := hP
  have ho' := ho
  obtain ⟨ao, co, rfl, -⟩ := ho'
  have hvb' := hvb
  obtain ⟨ab, cb, rfl, h1, h2, -⟩ := hvb'
  unfold maxLen at h2
  have HVB := Lib.hid hvb
  have HO := Lib.hid ho
  clear hvb ho
  obtain ⟨W0, hW0⟩ : ∃ W0, W0 = (w.alloc (.cells #[.string nm, .bool p.void, .int .i64 p.params, .int .i64 p.regs, .slice ao p.objs.length co, .slice ab p.blks.length cb] 37)).alloc (.cells #[.string { data := #[] }, .bool false, .int .i64 0, .int .i64 0, .slice none 0 0, .slice none 0 0] 37) := ⟨_, rfl⟩
  have hW0' : W0 = allocs w [.cells #[.string nm, .bool p.void, .int .i64 p.params, .int .i64 p.regs, .slice ao p.objs.length co, .slice ab p.blks.length cb] 37, .cells #[.string { data := #[] }, .bool false, .int .i64 0, .int .i64 0, .slice none 0 0, .slice none 0 0] 37] := hW0
  have B0 : Hid (Below w.heap.size w W0) := by rw [hW0']; exact allocs_below _ _
  have H0 : Hid (W0.heap[w.heap.size]? = some (.cells #[.string nm, .bool p.void, .int .i64 p.params, .int .i64 p.regs, .slice ao p.objs.length co, .slice ab p.blks.length cb] 37 (0, 0))) := by rw [hW0']; exact allocs_heap _ w 0 (by simp)
  have H1 : Hid (W0.heap[w.heap.size + 1]? = some (.cells #[.string { data := #[] }, .bool false, .int .i64 0, .int .i64 0, .slice none 0 0, .slice none 0 0] 37 (0, 0))) := by rw [hW0']; exact allocs_heap _ w 1 (by simp)
  have hz0 : W0.heap.size = w.heap.size + 2 := by rw [hW0']; exact allocs_size _ _
  have l0w : w.heap.size < W0.heap.size := by omega
  have l1w : w.heap.size + 1 < W0.heap.size := by omega
  clear hW0'
  go_enter Tryd.func29, Tryd.ntmps29
  go_upto_region 1 with (fail)
  rw [← hW0]
  clear hW0
  have hmk := run_make_row' (P := Tryd.prog) 43 3 (.int .i64 0) 8 Tryd.underlying43 info_int rfl .i64 .i64 p.blks.length (by omega) (by omega)
  obtain ⟨y0, y1, y2, y3, y4, y5, -⟩ := cl6 H0.out
  go_wp2_with fail
  clear hmk y0 y1 y2 y3 y4 y5
  obtain ⟨W1, hW1⟩ : ∃ W1, W1 = W0.alloc (.cells (madeCells #[.int .i64 0] p.blks.length) 3) := ⟨_, rfl⟩
  have T0 : Hid (OwnI W1 W0.heap.size (.slice (some ⟨W0.heap.size, 0, none⟩) p.blks.length p.blks.length) (toL p 0)) := by
    show W1.ownsRow _ _ _ _ _ _
    rw [hW1, toL_len, toL_0]; exact madeI W0 _ _ (Nat.le_refl _) (by unfold maxLen; omega)
  have B1 : Hid (Below W0.heap.size W0 W1) := by rw [hW1]; exact below_alloc _ _
  rw [← hW1]
  clear hW1
  rw [hz0] at T0 B1
  have hz0' : w.heap.size + 2 ≤ W0.heap.size := by omega
  clear hz0
  go_loopw [13, 4] (fun i _ wr => ∃ k : Nat, i = .int .i64 (k : Int) ∧ k ≤ p.blks.length ∧ Hid (OwnI wr (w.heap.size + 2) (.slice (some ⟨w.heap.size + 2, 0, none⟩) p.blks.length p.blks.length) (toL p k)) ∧ Hid (Below (w.heap.size + 2) W0 wr)) (fun i _ _ => p.blks.length - (intOf i).toNat)
  case atStart => exact ⟨0, rfl, Nat.zero_le _, T0, B1⟩
  case round =>
    clear T0 B1
    obtain ⟨k, rfl, hk, HT, HB⟩ := hrel
    have BB : Hid (Below w.heap.size w wr) := B0.out.trans (HB.out.mono (by omega))
    have H0r := Lib.hid ((HB.out.block _ (by omega)).trans H0.out)
    have H1r := Lib.hid ((HB.out.block _ (by omega)).trans H1.out)
    obtain ⟨y0, y1, y2, y3, y4, y5, l0⟩ := cl6 H0r.out
    by_cases hlt : k < p.blks.length
    · have g1 : decide ((k : Int) < (p.blks.length : Int)) = true := decide_eq_true (by omega)
      have g2 : decide (k < p.blks.length) = true := decide_eq_true hlt
      go_wp2_with fail
      refine (HEND.out k wr (Ext.below BB.out) hlt).mono ?_
      rintro e w2 ⟨rfl, hb2⟩
      have HT := Lib.hid (own_below HT.out hb2)
      have HB := Lib.hid (HB.out.trans (hb2.mono (by have := HB.out.size; omega)))
      clear hb2 y0 y1 y2 y3 y4 y5 l0 BB H0r H1r
      have hfz := (OwnI.cellAt HT.out).2.2.2.2.2 k
      have hck := (OwnI.cellAt HT.out).2.2.2.2.1 k (by omega)
      have hst := (World.ownsRow.stored (n := p.blks.length) (by have := HT.out; unfold OwnI at this; rw [toL_len] at this; exact this) k (.int .i64 (endS p k : Int))).1
      have HT2 : Hid (OwnI (w2.setCell ⟨w.heap.size + 2, k, none⟩ (.int .i64 (endS p k : Int))) (w.heap.size + 2) (.slice (some ⟨w.heap.size + 2, 0, none⟩) p.blks.length p.blks.length) (toL p (k + 1))) := by
        show World.ownsRow _ _ _ _ _ _ _
        rw [toL_succ p k hlt, List.length_set, toL_len, List.map_set]
        exact hst
      clear hst
      go_wp2_with fail
      exact ⟨⟨k + 1, rfl, by omega, HT2, HB.out.setCell (p := ⟨w.heap.size + 2, k, none⟩) (Nat.le_refl _) _⟩, by simp [intOf]; omega⟩
    · obtain rfl : k = p.blks.length := by omega
      have g1 : decide ((p.blks.length : Int) < (p.blks.length : Int)) = false := decide_eq_false (by omega)
      have g2 : decide (p.blks.length < p.blks.length) = false := decide_eq_false (by omega)
      go_wp2_with fail
      refine (copyBkM HVB.out wr (Ext.below BB.out) (by omega)).mono ?_
      rintro e w4 ⟨v4, L0, rfl, hL0, ho4, hi4, hb4⟩
      have hlL : L0.length = p.blks.length := by rw [← hL0]; simp
      obtain ⟨a4, c4, rfl⟩ : ∃ a4 c4, v4 = .slice a4 p.blks.length c4 := by
        obtain ⟨a, c, e, -⟩ := own_flat (α := Bk × Value) (f := bkCells) (by decide : 0 < 5) (fun _ => rfl) ho4
        exact ⟨a, c, by rw [← hlL]; exact e⟩
      have hgt := own_lt HT.out (v := .slice (some ⟨w.heap.size + 2, 0, none⟩) p.blks.length p.blks.length) rfl
      have H0r := Lib.hid ((hb4.block _ l0).trans H0r.out)
      have H1r := Lib.hid ((hb4.block _ (by omega)).trans H1r.out)
      have HTC : Hid (∀ i, i < p.blks.length → w4.cell? ⟨w.heap.size + 2, i, none⟩ = some (.int .i64 (endS p i : Int))) := fun i hi => by
        have := (OwnI.cellAt HT.out).2.2.2.2.1 i hi
        rw [toL_all p i hi] at this
        exact (hb4.cell (p := ⟨w.heap.size + 2, i, none⟩) hgt.2).trans this
      have BB4 := Lib.hid (BB.out.trans (hb4.mono BB.out.size))
      have hs4 := hb4.size
      have hbw := BB.out.size
      have HO4 := Lib.hid ho4
      have HI4 := Lib.hid hi4
      have HL0 := Lib.hid hL0
      clear hL0 ho4 hi4 hb4 HT HB BB y0 y1 y2 y3 y4 y5
      generalize hgB : wr.heap.size = gB at *
      clear hgB
      obtain ⟨y0, y1, y2, y3, y4, y5, l4⟩ := cl6 H0r.out
      have zf5 := Lib.frozen_of_heap H0r.out 5
      go_upto_region 8 with (fail)
      have H0r : Hid ((w4.setCell ⟨w.heap.size, 5, none⟩ (.slice a4 p.blks.length c4)).heap[w.heap.size]? = some (.cells #[.string nm, .bool p.void, .int .i64 p.params, .int .i64 p.regs, .slice ao p.objs.length co, .slice a4 p.blks.length c4] 37 (0, 0))) := box_set H0r.out 5 _
      have H1r : Hid ((w4.setCell ⟨w.heap.size, 5, none⟩ (.slice a4 p.blks.length c4)).heap[w.heap.size + 1]? = _) := (heap_setCell_other w4 ⟨w.heap.size, 5, none⟩ (w.heap.size + 1) _ (by simp)).trans H1r.out
      have HM : Hid (BkM w gB (w4.setCell ⟨w.heap.size, 5, none⟩ (.slice a4 p.blks.length c4)) (w4.setCell ⟨w.heap.size, 5, none⟩ (.slice a4 p.blks.length c4)) (.slice a4 p.blks.length c4) (mapN (thB p) L0 0)) := by
        show BkM _ _ _ _ _ _
        rw [mapN_0]
        refine ⟨own_setCell HO4.out (by omega) 5 _, HI4.out, Below.refl _ _, BB4.out.setCell (p := ⟨w.heap.size, 5, none⟩) (Nat.le_refl _) _, by omega, by simpa using hs4⟩
      have HTC : Hid (∀ i, i < p.blks.length → (w4.setCell ⟨w.heap.size, 5, none⟩ (.slice a4 p.blks.length c4)).cell? ⟨w.heap.size + 2, i, none⟩ = some (.int .i64 (endS p i : Int))) := fun i hi => by
        exact (World.cell?_of_block (a := ⟨w.heap.size + 2, i, none⟩) (heap_setCell_other w4 ⟨w.heap.size, 5, none⟩ (w.heap.size + 2) _ (by simp))).trans (HTC.out i hi)
      clear y0 y1 y2 y3 y4 y5 zf5 HO4 HI4 BB4
      generalize w4.setCell ⟨w.heap.size, 5, none⟩ (.slice a4 p.blks.length c4) = W5 at *
      obtain ⟨y0, y1, y2, y3, y4, y5, l5⟩ := cl6 H0r.out
      go_wp2_with fail
      clear y0 y1 y2 y3 y4 y5
      go_loopw [30, 5, 6] (fun i _ _ wr => ∃ k : Nat, i = .int .i64 (k : Int) ∧ k ≤ p.blks.length ∧ Hid (BkM w gB W5 wr (.slice a4 p.blks.length c4) (mapN (thB p) L0 k))) (fun i _ _ _ => p.blks.length - (intOf i).toNat)
      case atStart => exact ⟨0, rfl, Nat.zero_le _, HM⟩
      case round =>
        clear HM
        obtain ⟨k, rfl, hk, HM⟩ := hrel
        have H0q := Lib.hid ((HM.out.below.block _ (by omega)).trans H0r.out)
        have H1q := Lib.hid ((HM.out.below.block _ (by omega)).trans H1r.out)
        obtain ⟨y0, y1, y2, y3, y4, y5, l6⟩ := cl6 H0q.out
        by_cases hlt : k < p.blks.length
        · have g1 : decide ((k : Int) < (p.blks.length : Int)) = true := decide_eq_true (by omega)
          have g2 : decide (k < p.blks.length) = true := decide_eq_true hlt
          have hk4 : k < (mapN (thB p) L0 k).length := by rw [mapN_len, hlL]; exact hlt
          obtain ⟨g, rfl⟩ : ∃ g, a4 = some ⟨g, 0, none⟩ := own_ptrG HM.out.own (by omega)
          have hgB : gB ≤ g ∧ g < wr.heap.size := own_lt HM.out.own rfl
          have HC := HM.out.cell hk4
          rw [mapN_at (thB p) L0 k (by omega)] at HC
          have HX1 : (L0.getD k default).1 = bkAt p k := by
            unfold bkAt
            rw [← HL0.out]; simp [List.getD, show k < L0.length by omega]
          have hms := Lib.hid (mapN_succ (thB p) L0 k (by omega))
          have hma := Lib.hid (mapN_at (thB p) L0 k (by omega))
          have hj1 := hJ.to1 k hlt
          have hj2 := hJ.to2 k hlt
          have hin : RdIns w (L0.getD k default).2 (bkAt p k).ins := by
            rw [← HX1, ← hma.out]
            exact HM.out.ins _ (by simp [List.getD, hk4])
          obtain ⟨ai, ci, evi, -, -⟩ := RdIns.sl hin
          clear hin
          obtain ⟨X1, X2, hX⟩ : ∃ X1 X2, L0.getD k default = (X1, X2) := ⟨_, _, rfl⟩
          rw [hX] at HC HX1 hms hma evi
          dsimp only at HC HX1 evi hms
          subst HX1
          rw [evi] at HC
          generalize bkAt p k = K at *
          obtain ⟨c0, c1, c2, c3, c4'⟩ := HC
          have hX2 := Lib.hid evi
          clear hX evi
          have zf := HM.out.fz
          have zf1 := zf (k * 5 + 1)
          have zf2 := zf (k * 5 + 2)
          have zf3 := zf (k * 5 + 3)
          have zf4 := zf (k * 5 + 4)
          clear zf
          have HTq : Hid (∀ i, i < p.blks.length → wr.cell? ⟨w.heap.size + 2, i, none⟩ = some (.int .i64 (endS p i : Int))) := fun i hi => (HM.out.below.cell (p := ⟨w.heap.size + 2, i, none⟩) (by simp only; omega)).trans (HTC.out i hi)
          by_cases f1 : K.fin = 1
          · have hj1 := hj1 f1
            have q1 : (K.fin == 1) = true := by rw [f1]; rfl
            have q2 : (K.fin == 2) = false := by rw [f1]; rfl
            obtain ⟨tn, htn⟩ : ∃ tn : Nat, K.to = (tn : Int) := ⟨K.to.toNat, by omega⟩
            have hth : Hid (thB p K = (⟨K.ins, K.fin, K.a, (endS p tn : Int), K.els⟩ : Bk)) := by show _ = _; unfold thB; rw [if_neg (by omega), if_pos f1, htn]; rfl
            have t1 := HTq.out tn (by omega)
            have hb1 : (tn : Int) < p.blks.length := by omega
            have hb2 : tn < p.blks.length := by omega
            rw [htn] at c3
            clear f1 hj1 hj2 htn HTq
            have HP := Lib.hid (HM.out.put hk4 3 (by decide) (.int .i64 (endS p tn : Int)) ((⟨K.ins, K.fin, K.a, (endS p tn : Int), K.els⟩ : Bk), X2) (by rw [hma.out]; rfl) (by rw [hma.out]) (by rw [hma.out]))
            rw [← hth.out, ← hms.out] at HP
            clear hth hms hma
            generalize endS p tn = te at *
            go_wp2_with fail
            exact ⟨⟨k + 1, rfl, by omega, HP⟩, by simp [intOf]; omega⟩
          · by_cases f2 : K.fin = 2
            · have hj2 := hj2 f2
              have q1 : (K.fin == 1) = false := by rw [f2]; rfl
              have q2 : (K.fin == 2) = true := by rw [f2]; rfl
              obtain ⟨tn, htn⟩ : ∃ tn : Nat, K.to = (tn : Int) := ⟨K.to.toNat, by omega⟩
              obtain ⟨en, hen⟩ : ∃ en : Nat, K.els = (en : Int) := ⟨K.els.toNat, by omega⟩
              have hthA : Hid (endS p tn = endS p en → thB p K = (⟨K.ins, 1, -1, (endS p tn : Int), 0⟩ : Bk)) := fun e => by unfold thB; rw [if_pos f2, htn, hen]; exact if_pos e
              have hthB : Hid (endS p tn ≠ endS p en → thB p K = (⟨K.ins, K.fin, K.a, (endS p tn : Int), (endS p en : Int)⟩ : Bk)) := fun e => by unfold thB; rw [if_pos f2, htn, hen]; exact if_neg e
              have t1 := HTq.out tn (by omega)
              have e1 := HTq.out en (by omega)
              have hb1 : (tn : Int) < p.blks.length := by omega
              have hb2 : tn < p.blks.length := by omega
              have hb3 : (en : Int) < p.blks.length := by omega
              have hb4 : en < p.blks.length := by omega
              have hb5 : 0 ≤ (tn : Int) := by omega
              have hb6 : 0 ≤ (en : Int) := by omega
              rw [htn] at c3
              rw [hen] at c4'
              clear f1 f2 hj1 hj2 htn hen HTq
              generalize endS p tn = te at *
              generalize endS p en = ee at *
              have hgn1 : g ≠ w.heap.size := by omega
              have hgn2 : g ≠ w.heap.size + 2 := by omega
              have hkm : k < (mapN (thB p) L0 k).length := hk4
              have P2 := Lib.hid ((HM.out.put hk4 3 (by decide) (.int .i64 (te : Int)) (⟨K.ins, K.fin, K.a, (te : Int), K.els⟩, X2) (by rw [hma.out]; rfl) (by rw [hma.out]) (by rw [hma.out])).put' hkm 4 (by decide) (.int .i64 (ee : Int)) (⟨K.ins, K.fin, K.a, (te : Int), (ee : Int)⟩, X2) rfl rfl rfl)
              go_upto_region 14 with (fail)
              go_region
              go_wp2_with fail
              by_cases heq : te = ee
              · have hth := Lib.hid (hthA.out heq)
                have r1 : (te == ee) = true := by simpa using heq
                have r2 : ((te : Int) == (ee : Int)) = true := by rw [heq]; simp
                clear heq hthA hthB
                go_quiet (fail)
                go_wp2_with fail
                have P3 := (((P2.out.grow (below_drewN (Below.refl _ _) (1 + nq))).put' hkm 1 (by decide) (.int .i64 1) (⟨K.ins, 1, K.a, (te : Int), (ee : Int)⟩, X2) rfl rfl rfl).put' hkm 2 (by decide) (.int .i64 (-1)) (⟨K.ins, 1, -1, (te : Int), (ee : Int)⟩, X2) rfl rfl rfl).put' hkm 4 (by decide) (.int .i64 0) (⟨K.ins, 1, -1, (te : Int), 0⟩, X2) rfl rfl rfl
                rw [← hth.out, ← hms.out] at P3
                exact ⟨⟨k + 1, by simp, by omega, P3⟩, by simp [intOf]; omega⟩
              · have hth := Lib.hid (hthB.out heq)
                have r1 : (te == ee) = false := by simpa using heq
                have r2 : ((te : Int) == (ee : Int)) = false := by rw [beq_eq_false_iff_ne]; omega
                clear heq hthA hthB
                go_quiet (fail)
                go_wp2_with fail
                have P3 := P2.out.grow (below_drewN (Below.refl _ _) (1 + nq))
                rw [← hth.out, ← hms.out] at P3
                exact ⟨⟨k + 1, by simp, by omega, P3⟩, by simp [intOf]; omega⟩
            · have q1 : (K.fin == 1) = false := by simpa using f1
              have q2 : (K.fin == 2) = false := by simpa using f2
              have hth : Hid (thB p K = K) := by show _ = _; unfold thB; rw [if_neg f2, if_neg f1]
              have HP : Hid (BkM w gB W5 wr (.slice (some ⟨g, 0, none⟩) p.blks.length c4) (mapN (thB p) L0 (k + 1))) := by
                show BkM _ _ _ _ _ _
                rw [hms.out, hth.out, ← hma.out, set_selfD hk4]
                exact HM.out
              clear f1 f2 hj1 hj2 HTq hth hms hma
              go_wp2_with fail
              exact ⟨⟨k + 1, rfl, by omega, HP⟩, by simp [intOf]; omega⟩
        · obtain rfl : k = p.blks.length := by omega
          have g1 : decide ((p.blks.length : Int) < (p.blks.length : Int)) = false := decide_eq_false (by omega)
          have g2 : decide (p.blks.length < p.blks.length) = false := decide_eq_false (by omega)
          obtain ⟨z0, z1, z2, z3, z4, z5, l7⟩ := cl6 H1q.out
          have zf := Lib.frozen_of_heap H1q.out
          have zf0 := zf 0
          have zf1 := zf 1
          have zf2 := zf 2
          have zf3 := zf 3
          have zf4 := zf 4
          have zf5 := zf 5
          clear zf
          go_wp2_with fail
          obtain ⟨hrd, hbf⟩ := HM.out.fin (b := w.heap.size + 1) (by omega) (by omega) (.string nm) (.bool p.void) (.int .i64 p.params) (.int .i64 p.regs) (.slice ao p.objs.length co) (.slice a4 p.blks.length c4)
          rw [← hlL, mapN_all, HL0.out, hlL] at hrd
          exact bodyPost_ret (v := .agg #[.string nm, .bool p.void, .int .i64 p.params, .int .i64 p.regs, .slice ao p.objs.length co, .slice a4 p.blks.length c4]) (by simp [results, Tryd.results29, go_sem, z0, z1, z2, z3, z4, z5, l7]) rfl ⟨_, rfl, ⟨nm, _, _, rfl, HO.out.ext (Ext.below hbf), hrd⟩, hbf⟩
end Go.Proofs.YtnnhobbabcfogaaDoor
