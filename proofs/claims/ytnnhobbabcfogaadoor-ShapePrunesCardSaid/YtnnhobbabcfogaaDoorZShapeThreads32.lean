/-
  The blocks that are reached alone: the walk.
-/
import Derived.Test.YtnnhobbabcfogaaDoorZShapeThreads31
set_option linter.all false
namespace Go.Proofs.YtnnhobbabcfogaaDoor
open Go.ChangeShapes Go.WideShapes Go.ChangeAt Go.RowKit Go.Maps
set_option maxHeartbeats 4000000
set_option linter.unusedVariables false
set_option maxRecDepth 100000

def FinOk (p : Pr) : Prop := ∀ n, n < p.blks.length → (bkAt p n).fin = 1 ∨ (bkAt p n).fin = 2 ∨ (bkAt p n).fin = 3
theorem fin_of {m : Md} {p : Pr} (h : okP m p = true) : FinOk p := fun n hn => by
  have : endF p (bkAt p n) = true := okB_end (okP_blk h hn)
  unfold endF at this
  split at this
  · exact .inl ‹_›
  · split at this
    · exact .inr (.inl ‹_›)
    · split at this
      · exact .inr (.inr ‹_›)
      · cases this
/-- two rows of other elements lie in other blocks -/
theorem rows_apart {w : World} {B B' s s' n n' : Nat} {e e' : TypeId} {v v' : Value} {xs xs' : List Value} (h : w.ownsRow B e s v n xs) (h' : w.ownsRow B' e' s' v' n' xs') (he : e ≠ e') : v.ownBlock = none ∨ v.ownBlock ≠ v'.ownBlock := by
  obtain ⟨-, ⟨rfl, -⟩ | ⟨g, cap, cur, rfl, -, hg, -⟩⟩ := h
  · exact .inl rfl
  · right
    intro e2
    obtain ⟨-, ⟨rfl, -⟩ | ⟨g', cap', cur', rfl, -, hg', -⟩⟩ := h'
    · cases e2
    · simp only [Value.ownBlock, Option.some.injEq] at e2
      subst e2
      rw [hg] at hg'
      simp only [Option.some.injEq, Obj.cells.injEq] at hg'
      exact he hg'.2.1
theorem BkM.kept {w W0 w' w'' : World} {B : Nat} {v : Value} {L : List (Bk × Value)} {row : Option Nat} (h : BkM w B W0 w' v L) (hg : w'.grownBy w'' row) (hr : v.ownBlock = none ∨ v.ownBlock ≠ row) (hB : ∀ b, row = some b → B ≤ b) : BkM w B W0 w'' v L :=
  ⟨World.ownsRow.kept h.own hg hr, h.ins, h.below.grown hg (Nat.le_trans h.bl.2 h.below.size) hB, h.le, h.bl⟩
theorem BkM.app {w W0 w1 w' : World} {B : Nat} {v v' : Value} {L : List (Bk × Value)} {x : Bk} {vi : Value} (h : BkM w B W0 w1 v L) (hx : RdIns w vi x.ins)
    (ho : w'.ownsRow B 40 5 v' (L.length + 1) (L.flatMap bkCells ++ [vi, .int .i64 x.fin, .int .i64 x.a, .int .i64 x.to, .int .i64 x.els])) (hg : w1.grownBy w' v.ownBlock) : BkM w B W0 w' v' (L ++ [(x, vi)]) := by
  refine ⟨by simpa [bkCells] using ho, fun y hy => ?_, h.below.grown hg (Nat.le_trans h.bl.2 h.below.size) (fun k hk => (own_lt h.own hk).1), h.le, h.bl⟩
  rcases List.mem_append.1 hy with hy | hy
  · exact h.ins y hy
  · simp only [List.mem_cons, List.not_mem_nil, or_false] at hy
    rw [hy]; exact hx
theorem BkM.sl {w W0 w' : World} {B k : Nat} {v : Value} {L : List (Bk × Value)} (h : BkM w B W0 w' v L) (hk : L.length = k) : ∃ a c, v = .slice a k c := by
  obtain ⟨a, c, e, -⟩ := h.rd
  rw [List.length_map, hk] at e
  exact ⟨a, c, e⟩
theorem BkM.fin7 {w W0 w3 : World} {B : Nat} {v : Value} {L : List (Bk × Value)} (h : BkM w B W0 w3 v L) {b b' j' : Nat} (hb : b < B) (hb' : b' < B) (hbw : w.heap.size ≤ b) (hbw' : w.heap.size ≤ b') (c' c0 c1 c2 c3 c4 c5 : Value) :
    RdBks (((((((w3.setCell ⟨b', j', none⟩ c').setCell ⟨b, 0, none⟩ c0).setCell ⟨b, 1, none⟩ c1).setCell ⟨b, 2, none⟩ c2).setCell ⟨b, 3, none⟩ c3).setCell ⟨b, 4, none⟩ c4).setCell ⟨b, 5, none⟩ c5) v (L.map Prod.fst) ∧
    Below w.heap.size w (((((((w3.setCell ⟨b', j', none⟩ c').setCell ⟨b, 0, none⟩ c0).setCell ⟨b, 1, none⟩ c1).setCell ⟨b, 2, none⟩ c2).setCell ⟨b, 3, none⟩ c3).setCell ⟨b, 4, none⟩ c4).setCell ⟨b, 5, none⟩ c5) := by
  have hbl := ((((((((h.le.trans (h.below.mono h.bl.1)).setCell (p := ⟨b', j', none⟩) hbw' c').setCell (p := ⟨b, 0, none⟩) hbw c0).setCell (p := ⟨b, 1, none⟩) hbw c1).setCell (p := ⟨b, 2, none⟩) hbw c2).setCell (p := ⟨b, 3, none⟩) hbw c3).setCell (p := ⟨b, 4, none⟩) hbw c4).setCell (p := ⟨b, 5, none⟩) hbw c5)
  refine ⟨?_, hbl⟩
  exact OwnBk.rd ⟨own_setCell (own_setCell (own_setCell (own_setCell (own_setCell (own_setCell (own_setCell h.own hb' j' c') hb 0 c0) hb 1 c1) hb 2 c2) hb 3 c3) hb 4 c4) hb 5 c5, fun x hx => (h.ins x hx).ext (Ext.below hbl)⟩
theorem grown_set (w : World) (g j : Nat) (x : Value) : w.grownBy (w.setCell ⟨g, j, none⟩ x) (some g) := ⟨rfl, rfl, rfl, by simp, fun k _ hk => heap_setCell_other w ⟨g, j, none⟩ k x (fun e => hk (by simp [e]))⟩
/-- the numbers of the first so many -/
def nuZ (r : List Bool) (n k : Nat) : List Int := (List.range n).map fun i => if i < k ∧ r.getD i false = true then (numP r i : Int) else 0
theorem nuZ_len (r : List Bool) (n k : Nat) : (nuZ r n k).length = n := by simp [nuZ]
theorem nuZ_0 (r : List Bool) (n : Nat) : nuZ r n 0 = List.replicate n 0 := by
  apply List.ext_getElem (by simp [nuZ])
  intro i h1 h2
  simp [nuZ]
theorem nuZ_yes {r : List Bool} {n k : Nat} (h : r.getD k false = true) : nuZ r n (k + 1) = (nuZ r n k).set k (numP r k : Int) := by
  apply List.ext_getElem (by simp [nuZ])
  intro i h1 h2
  simp only [nuZ, List.getElem_map, List.getElem_range, List.getElem_set]
  by_cases e : k = i
  · subst e
    rw [if_pos ⟨by omega, h⟩, if_pos rfl]
  · rw [if_neg e]
    by_cases h3 : i < k
    · have : i < k + 1 := by omega
      simp [h3, this]
    · have : ¬ i < k + 1 := by omega
      simp [h3, this]
theorem nuZ_no {r : List Bool} {n k : Nat} (h : r.getD k false = false) : nuZ r n (k + 1) = nuZ r n k := by
  apply List.ext_getElem (by simp [nuZ])
  intro i h1 h2
  simp only [nuZ, List.getElem_map, List.getElem_range]
  by_cases e : k = i
  · subst e
    rw [if_neg (by rw [h]; simp), if_neg (by rw [h]; simp)]
  · by_cases h3 : i < k
    · have : i < k + 1 := by omega
      simp [h3, this]
    · have : ¬ i < k + 1 := by omega
      simp [h3, this]
theorem nuZ_at {r : List Bool} {n i : Nat} (h : i < n) (hr : r.getD i false = true) : (nuZ r n n).getD i 0 = (numP r i : Int) := by
  rw [List.getD_eq_getElem?_getD, List.getElem?_eq_getElem (by rw [nuZ_len]; exact h)]
  simp only [nuZ, List.getElem_map, List.getElem_range, Option.getD_some]
  rw [if_pos ⟨h, hr⟩]
theorem rIdx_elem {p : Pr} {r : List Bool} {N : Nat} {L : List (Bk × Value)} (h : L.map Prod.fst = (rIdx r N).map (bkAt p)) {k : Nat} (hk : k < L.length) : ∃ i, i < N ∧ r.getD i false = true ∧ (L.getD k default).1 = bkAt p i := by
  have hk2 : k < (rIdx r N).length := by
    have := congrArg List.length h
    simp at this; omega
  have e : (L.getD k default).1 = bkAt p (rIdx r N)[k] := by
    have h1 : (L.map Prod.fst)[k]? = ((rIdx r N).map (bkAt p))[k]? := by rw [h]
    rw [List.getElem?_map, List.getElem?_map, List.getElem?_eq_getElem hk, List.getElem?_eq_getElem hk2] at h1
    simp only [Option.map_some, Option.some.injEq] at h1
    rw [← h1]; simp [List.getD, hk]
  have hm : (rIdx r N)[k] ∈ rIdx r N := List.getElem_mem hk2
  unfold rIdx at hm
  rw [List.mem_filter, List.mem_range] at hm
  exact ⟨_, hm.1, hm.2, e⟩
theorem prune_c (p : Pr) (v : Value) (w : World) (hP : PrV w v p) (hJ : JmpOk p) (hF : FinOk p) (hl : p.blks.length ≤ 1000) :
    Calls Tryd.prog 31 #[v] w fun e w' => ∃ v', e = .returned v' ∧ PrV w' v' (pnP p) ∧ Below w.heap.size w w' := by
  have HRE : Hid (∀ w', Ext w w' → Calls Tryd.prog 55 #[v] w' fun e w'' => ∃ g, e = .returned (.slice (some ⟨g, 0, none⟩) p.blks.length p.blks.length) ∧ w'.heap.size ≤ g ∧ RowB w'' g p.blks.length p.blks.length (reachP p) ∧ Below w'.heap.size w' w'') := fun w' he => reach_c p v w' (hP.ext he) (by omega)
  obtain ⟨nm, vo, vb, rfl, ho, hvb⟩ := hP
  have ho' := ho
  obtain ⟨ao, co, rfl, -⟩ := ho'
  have hvb' := hvb
  obtain ⟨ab, cb, rfl, h1, h2, -⟩ := hvb'
  unfold maxLen at h2
  have HBk := Lib.hid (RdBks.at hvb).2
  have HO := Lib.hid ho
  clear hvb ho
  have hrl := reachP_len p
  obtain ⟨W0, hW0⟩ : ∃ W0, W0 = (w.alloc (.cells #[.string nm, .bool p.void, .int .i64 p.params, .int .i64 p.regs, .slice ao p.objs.length co, .slice ab p.blks.length cb] 37)).alloc (.cells #[.string { data := #[] }, .bool false, .int .i64 0, .int .i64 0, .slice none 0 0, .slice none 0 0] 37) := ⟨_, rfl⟩
  have hW0' : W0 = allocs w [.cells #[.string nm, .bool p.void, .int .i64 p.params, .int .i64 p.regs, .slice ao p.objs.length co, .slice ab p.blks.length cb] 37, .cells #[.string { data := #[] }, .bool false, .int .i64 0, .int .i64 0, .slice none 0 0, .slice none 0 0] 37] := hW0
  have B0 : Hid (Below w.heap.size w W0) := by rw [hW0']; exact allocs_below _ _
  have H0 : Hid (W0.heap[w.heap.size]? = some (.cells #[.string nm, .bool p.void, .int .i64 p.params, .int .i64 p.regs, .slice ao p.objs.length co, .slice ab p.blks.length cb] 37 (0, 0))) := by rw [hW0']; exact allocs_heap _ w 0 (by simp)
  have H1 : Hid (W0.heap[w.heap.size + 1]? = some (.cells #[.string { data := #[] }, .bool false, .int .i64 0, .int .i64 0, .slice none 0 0, .slice none 0 0] 37 (0, 0))) := by rw [hW0']; exact allocs_heap _ w 1 (by simp)
  have l0w : w.heap.size < W0.heap.size := (Array.getElem?_eq_some_iff.1 H0.out).1
  have l1w : w.heap.size + 1 < W0.heap.size := (Array.getElem?_eq_some_iff.1 H1.out).1
  have hmk := run_make_row' (P := Tryd.prog) 43 3 (.int .i64 0) 8 Tryd.underlying43 info_int rfl .i64 .i64 p.blks.length (by omega) (by omega)
  go_enter Tryd.func31, Tryd.ntmps31
  go_upto_region 1 with (fail)
  rw [← hW0]
  clear hW0 hW0'
  obtain ⟨y0, y1, y2, y3, y4, y5, -⟩ := cl6 H0.out
  go_wp2_with fail
  refine (HRE.out W0 (Ext.below B0.out)).mono ?_
  rintro e W2 ⟨gr, rfl, hgr, hrow, hb2⟩
  have H0 := Lib.hid ((hb2.block _ l0w).trans H0.out)
  have H1 := Lib.hid ((hb2.block _ l1w).trans H1.out)
  have B2 := Lib.hid (B0.out.trans (hb2.mono B0.out.size))
  have HR := Lib.hid hrow.cellAt
  have l0w : w.heap.size < W2.heap.size := (Array.getElem?_eq_some_iff.1 H0.out).1
  have l1w : w.heap.size + 1 < W2.heap.size := (Array.getElem?_eq_some_iff.1 H1.out).1
  have lgr := HR.out.2.2.2.2.2.2
  clear hb2 B0 hrow y0 y1 y2 y3 y4 y5 hgr
  obtain ⟨y0, y1, y2, y3, y4, y5, -⟩ := cl6 H0.out
  go_wp2_with fail
  clear hmk y0 y1 y2 y3 y4 y5
  obtain ⟨W1, hW1⟩ : ∃ W1, W1 = W2.alloc (.cells (madeCells #[.int .i64 0] p.blks.length) 3) := ⟨_, rfl⟩
  have T0 : Hid (OwnI W1 W2.heap.size (.slice (some ⟨W2.heap.size, 0, none⟩) p.blks.length p.blks.length) (nuZ (reachP p) p.blks.length 0)) := by
    show W1.ownsRow _ _ _ _ _ _
    rw [hW1, nuZ_len, nuZ_0]; exact madeI W2 _ _ (Nat.le_refl _) (by unfold maxLen; omega)
  have M0 : Hid (BkM w W2.heap.size W2 W1 (.slice none 0 0) []) := by
    rw [hW1]; exact ⟨own_nil _ _ _ _, fun x hx => (by cases hx), below_alloc _ _, B2.out, B2.out.size, Nat.le_refl _⟩
  rw [← hW1]
  clear hW1
  go_loopw [5, 19, 6, 7] (fun sv i _ _ wr => ∃ (k : Nat) (L : List (Bk × Value)) (sl : Value), i = .int .i64 (k : Int) ∧ sv = sl ∧ k ≤ p.blks.length ∧ Hid (BkM w W2.heap.size W2 wr sl L) ∧ Hid (L.map Prod.fst = (rIdx (reachP p) k).map (bkAt p)) ∧ Hid (OwnI wr W2.heap.size (.slice (some ⟨W2.heap.size, 0, none⟩) p.blks.length p.blks.length) (nuZ (reachP p) p.blks.length k))) (fun _ i _ _ _ => p.blks.length - (intOf i).toNat)
  case atStart => exact ⟨0, [], _, rfl, rfl, Nat.zero_le _, M0, rfl, T0⟩
  case round =>
    clear M0 T0
    obtain ⟨k, L, sl, rfl, rfl, hk, HM, HE, HN⟩ := hrel
    have hLk : L.length = numP (reachP p) k := by
      have := congrArg List.length HE.out
      rw [List.length_map, List.length_map, rIdx_len _ _ (by rw [reachP_len]; omega)] at this
      exact this
    obtain ⟨az, cz, rfl⟩ := HM.out.sl hLk
    have HLk := Lib.hid hLk
    clear hLk
    have hnp := numP_le (reachP p) k
    have hgn : W2.heap.size ≤ W2.heap.size ∧ W2.heap.size < wr.heap.size := own_lt HN.out rfl
    have lgn := hgn.2
    clear hgn
    have lgw : gr < wr.heap.size := by omega
    have hzb := HM.out.below.size
    by_cases hlt : k < p.blks.length
    · have g1 : decide ((k : Int) < (p.blks.length : Int)) = true := decide_eq_true (by omega)
      have g2 : decide (k < p.blks.length) = true := decide_eq_true hlt
      obtain ⟨b, o, vi, rfl, hvi, c0, c1, c2, c3, c4⟩ := HBk.out k hlt
      have hE : Ext w wr := Ext.below (HM.out.le.trans (HM.out.below.mono HM.out.bl.1))
      replace c0 := hE _ _ c0
      replace c1 := hE _ _ c1
      replace c2 := hE _ _ c2
      replace c3 := hE _ _ c3
      replace c4 := hE _ _ c4
      have xr := (HM.out.below.cell (p := ⟨gr, k, none⟩) lgr).trans (HR.out.2.2.2.2.1 k hlt)
      have HKE : Hid (p.blks.getD k default = bkAt p k) := rfl
      rw [HKE.out] at hvi c1 c2 c3 c4
      clear HKE hE
      have HVI := Lib.hid hvi
      obtain ⟨ai, ci, rfl, -, -⟩ := RdIns.sl hvi
      clear hvi
      cases hrk : (reachP p).getD k false
      · rw [hrk] at xr
        have HE2 : Hid (L.map Prod.fst = (rIdx (reachP p) (k + 1)).map (bkAt p)) := by show _ = _; rw [rIdx_no hrk]; exact HE.out
        have HN2 : Hid (OwnI wr W2.heap.size (.slice (some ⟨W2.heap.size, 0, none⟩) p.blks.length p.blks.length) (nuZ (reachP p) p.blks.length (k + 1))) := by show OwnI _ _ _ _; rw [nuZ_no hrk]; exact HN.out
        clear hrk
        generalize bkAt p k = K at *
        go_wp2_with fail
        exact ⟨⟨k + 1, L, _, rfl, rfl, by omega, HM.out.grow (below_alloc _ _), HE2, OwnI.grown' HN2.out (below_alloc _ _)⟩, by simp [intOf]; omega⟩
      · rw [hrk] at xr
        have HE2 : Hid ((rIdx (reachP p) (k + 1)).map (bkAt p) = (rIdx (reachP p) k).map (bkAt p) ++ [bkAt p k]) := by show _ = _; rw [rIdx_yes hrk, List.map_append]; rfl
        have HN2 : Hid (nuZ (reachP p) p.blks.length (k + 1) = (nuZ (reachP p) p.blks.length k).set k (numP (reachP p) k : Int)) := nuZ_yes hrk
        clear hrk
        generalize bkAt p k = K at *
        have hck := (OwnI.cellAt HN.out).2.2.2.2.1 k (by omega)
        have hfz := (OwnI.cellAt HN.out).2.2.2.2.2 k
        go_upto_region 9 with (fail)
        have hst := (World.ownsRow.stored (n := p.blks.length) (by have := HN.out; unfold OwnI at this; rw [nuZ_len] at this; exact this) k (.int .i64 (numP (reachP p) k : Int)))
        have HN8 : Hid (OwnI (wr.setCell ⟨W2.heap.size, k, none⟩ (.int .i64 (numP (reachP p) k : Int))) W2.heap.size (.slice (some ⟨W2.heap.size, 0, none⟩) p.blks.length p.blks.length) (nuZ (reachP p) p.blks.length (k + 1))) := by
          show World.ownsRow _ _ _ _ _ _ _
          rw [HN2.out, List.length_set, nuZ_len, List.map_set]
          exact hst.1
        have HM8 : Hid (BkM w W2.heap.size W2 (wr.setCell ⟨W2.heap.size, k, none⟩ (.int .i64 (numP (reachP p) k : Int))) (.slice az (numP (reachP p) k) cz) L) := HM.out.kept hst.2 (rows_apart HM.out.own HN.out (by decide)) (fun b e => by simp only [Option.some.injEq] at e; omega)
        obtain ⟨W9, hW9⟩ : ∃ W9, W9 = (wr.setCell ⟨W2.heap.size, k, none⟩ (.int .i64 (numP (reachP p) k : Int))).alloc (.cells #[.slice ai K.ins.length ci, .int .i64 K.fin, .int .i64 K.a, .int .i64 K.to, .int .i64 K.els] 40) := ⟨_, rfl⟩
        have hBX := heap_of_alloc _ _ _ hW9
        rw [show (wr.setCell ⟨W2.heap.size, k, none⟩ (.int .i64 (numP (reachP p) k : Int))).heap.size = wr.heap.size by simp] at hBX
        have hBX := Lib.hid hBX
        have HN9 : Hid (OwnI W9 W2.heap.size (.slice (some ⟨W2.heap.size, 0, none⟩) p.blks.length p.blks.length) (nuZ (reachP p) p.blks.length (k + 1))) := by rw [hW9]; exact OwnI.grown' HN8.out (below_alloc _ _)
        have HM9 : Hid (BkM w W2.heap.size W2 W9 (.slice az (numP (reachP p) k) cz) L) := by rw [hW9]; exact HM8.out.grow (below_alloc _ _)
        rw [← hW9]
        clear hW9 hst HN8 HM8 hck hfz c0 c1 c2 c3 c4 HN HM HN2
        obtain ⟨z0, z1, z2, z3, z4, lb⟩ := cl5 hBX.out
        have hone := Lib.hid (bk_ones (.slice ai K.ins.length ci) ⟨_, _, _, rfl⟩ K.fin K.a K.to K.els)
        go_wp2_with (at_builtin; refine appG 35 40 info_bk Tryd.underlying35 rfl (by decide) (by decide) [.slice ai K.ins.length ci, .int .i64 K.fin, .int .i64 K.a, .int .i64 K.to, .int .i64 K.els] rfl hone.out (HM9.out.grow (below_alloc _ _)).own rfl rfl rfl rfl (cell_newX _ _ _ _ (by simp)) (by have := HLk.out; omega) (by have := (HM9.out.grow (below_alloc W9 (.cells #[.slice ai K.ins.length ci, .int .i64 K.fin, .int .i64 K.a, .int .i64 K.to, .int .i64 K.els] 40))); have h7 := this.below.size; have h8 := this.bl.2; omega) ?_; intro v6 w6 O6 G6 D6)
        have HM6 := Lib.hid ((HM9.out.grow (below_alloc _ _)).app (x := K) HVI.out O6 G6)
        have HN6 : Hid (OwnI w6 W2.heap.size (.slice (some ⟨W2.heap.size, 0, none⟩) p.blks.length p.blks.length) (nuZ (reachP p) p.blks.length (k + 1))) := World.ownsRow.kept (OwnI.grown' HN9.out (below_alloc _ _)) G6 (rows_apart HN9.out HM9.out.own (by decide))
        have HE6 : Hid ((L ++ [(K, Value.slice ai K.ins.length ci)]).map Prod.fst = (rIdx (reachP p) (k + 1)).map (bkAt p)) := by show _ = _; rw [HE2.out, List.map_append, HE.out]; rfl
        obtain ⟨a6, c6, rfl⟩ := HM6.out.sl rfl
        exact ⟨⟨k + 1, _, _, rfl, rfl, by omega, HM6, HE6, HN6⟩, by simp [intOf]; omega⟩
    · obtain rfl : k = p.blks.length := by omega
      have g1 : decide ((p.blks.length : Int) < (p.blks.length : Int)) = false := decide_eq_false (by omega)
      have g2 : decide (p.blks.length < p.blks.length) = false := decide_eq_false (by omega)
      obtain ⟨W3, rfl⟩ : ∃ W3 : World, W3 = wr := ⟨_, rfl⟩
      have hgm := numP_le (reachP p) p.blks.length
      go_wp2_with fail
      go_loopw [40, 8, 9] (fun i _ _ wr => ∃ k : Nat, i = .int .i64 (k : Int) ∧ k ≤ numP (reachP p) p.blks.length ∧ Hid (BkM w W2.heap.size W2 wr (.slice az (numP (reachP p) p.blks.length) cz) (mapN (pnB (reachP p)) L k)) ∧ Hid (OwnI wr W2.heap.size (.slice (some ⟨W2.heap.size, 0, none⟩) p.blks.length p.blks.length) (nuZ (reachP p) p.blks.length p.blks.length))) (fun i _ _ _ => numP (reachP p) p.blks.length - (intOf i).toNat)
      case atStart => exact ⟨0, rfl, Nat.zero_le _, by rw [mapN_0]; exact HM, HN⟩
      case round =>
        clear HM HN
        obtain ⟨k, rfl, hk, HM, HN⟩ := hrel
        have H0q := Lib.hid ((HM.out.below.block _ l0w).trans H0.out)
        have H1q := Lib.hid ((HM.out.below.block _ l1w).trans H1.out)
        by_cases hlt : k < numP (reachP p) p.blks.length
        · have g1 : decide ((k : Int) < (numP (reachP p) p.blks.length : Int)) = true := decide_eq_true (by omega)
          have g2 : decide (k < numP (reachP p) p.blks.length) = true := decide_eq_true hlt
          have hkL : k < L.length := by have := HLk.out; omega
          have hk4 : k < (mapN (pnB (reachP p)) L k).length := by rw [mapN_len]; exact hkL
          obtain ⟨g, rfl⟩ : ∃ g, az = some ⟨g, 0, none⟩ := own_ptrG HM.out.own (by omega)
          have hgB : W2.heap.size ≤ g ∧ g < wr.heap.size := own_lt HM.out.own rfl
          have HC := HM.out.cell hk4
          rw [mapN_at (pnB (reachP p)) L k hkL] at HC
          obtain ⟨i, hiN, hir, HX1⟩ := rIdx_elem HE.out hkL
          have hms := Lib.hid (mapN_succ (pnB (reachP p)) L k hkL)
          have hma := Lib.hid (mapN_at (pnB (reachP p)) L k hkL)
          have hj1 := hJ.to1 i hiN
          have hj2 := hJ.to2 i hiN
          have hr1 := reach_to1 hJ hiN hir
          have hr2 := reach_to2 hJ hiN hir
          have hf3 := hF i hiN
          have hin : RdIns w (L.getD k default).2 (bkAt p i).ins := by
            rw [← HX1, ← hma.out]
            exact HM.out.ins _ (by simp [List.getD, hk4])
          obtain ⟨ai, ci, evi, -, -⟩ := RdIns.sl hin
          clear hin
          obtain ⟨X1, X2, hX⟩ : ∃ X1 X2, L.getD k default = (X1, X2) := ⟨_, _, rfl⟩
          rw [hX] at HC HX1 hms hma evi
          dsimp only at HC HX1 evi hms
          subst HX1
          rw [evi] at HC
          generalize bkAt p i = K at *
          obtain ⟨c0, c1, c2, c3, c4'⟩ := HC
          clear hX evi
          have zf := HM.out.fz
          have zf3 := zf (k * 5 + 3)
          have zf4 := zf (k * 5 + 4)
          clear zf
          have HNC : Hid (∀ i, i < p.blks.length → (reachP p).getD i false = true → wr.cell? ⟨W2.heap.size, i, none⟩ = some (.int .i64 (numP (reachP p) i : Int))) := fun i hi hr => by
            have := (OwnI.cellAt HN.out).2.2.2.2.1 i hi
            rw [nuZ_at hi hr] at this
            exact this
          have hgne : g ≠ W2.heap.size := by
            have := rows_apart HM.out.own HN.out (by decide)
            rcases this with h | h
            · cases h
            · intro e; subst e; exact h rfl
          have hgne' : W2.heap.size ≠ g := fun e => hgne e.symm
          have hap := Lib.hid (rows_apart HN.out HM.out.own (by decide))
          by_cases f1 : K.fin = 1
          · have hj1 := hj1 f1
            obtain ⟨tn, htn⟩ : ∃ tn : Nat, K.to = (tn : Int) := ⟨K.to.toNat, by omega⟩
            have hr1 := hr1 f1
            rw [htn, Int.toNat_natCast] at hr1
            have q1 : (K.fin != 3) = true := by rw [f1]; rfl
            have q2 : (K.fin == 2) = false := by rw [f1]; rfl
            have q3 : (K.fin == 3) = false := by rw [f1]; rfl
            have hth : Hid (pnB (reachP p) K = (⟨K.ins, K.fin, K.a, (numP (reachP p) tn : Int), K.els⟩ : Bk)) := by show _ = _; unfold pnB; rw [if_pos f1, htn]; rfl
            have t1 := HNC.out tn (by omega) hr1
            have hb1 : (tn : Int) < p.blks.length := by omega
            have hb2 : tn < p.blks.length := by omega
            rw [htn] at c3
            clear f1 hj1 hj2 htn HNC hr1 hr2 hf3 hir
            have HP := Lib.hid (HM.out.put hk4 3 (by decide) (.int .i64 (numP (reachP p) tn : Int)) ((⟨K.ins, K.fin, K.a, (numP (reachP p) tn : Int), K.els⟩ : Bk), X2) (by rw [hma.out]; rfl) (by rw [hma.out]) (by rw [hma.out]))
            rw [← hth.out, ← hms.out] at HP
            clear hth hms hma
            have HN2 : Hid (OwnI (wr.setCell ⟨g, k * 5 + 3, none⟩ (.int .i64 (numP (reachP p) tn : Int))) W2.heap.size (.slice (some ⟨W2.heap.size, 0, none⟩) p.blks.length p.blks.length) (nuZ (reachP p) p.blks.length p.blks.length)) := World.ownsRow.kept HN.out (grown_set wr g (k * 5 + 3) _) hap.out
            generalize numP (reachP p) tn = te at *
            go_wp2_with fail
            exact ⟨⟨k + 1, rfl, by omega, HP, HN2⟩, by simp [intOf]; omega⟩
          · by_cases f2 : K.fin = 2
            · have hj2 := hj2 f2
              obtain ⟨tn, htn⟩ : ∃ tn : Nat, K.to = (tn : Int) := ⟨K.to.toNat, by omega⟩
              obtain ⟨en, hen⟩ : ∃ en : Nat, K.els = (en : Int) := ⟨K.els.toNat, by omega⟩
              have hr2 := hr2 f2
              rw [htn, hen, Int.toNat_natCast, Int.toNat_natCast] at hr2
              have q1 : (K.fin != 3) = true := by rw [f2]; rfl
              have q2 : (K.fin == 2) = true := by rw [f2]; rfl
              have q3 : (K.fin == 3) = false := by rw [f2]; rfl
              have hth : Hid (pnB (reachP p) K = (⟨K.ins, K.fin, K.a, (numP (reachP p) tn : Int), (numP (reachP p) en : Int)⟩ : Bk)) := by show _ = _; unfold pnB; rw [if_neg f1, if_pos f2, htn, hen]; rfl
              have t1 := HNC.out tn (by omega) hr2.1
              have e1 := HNC.out en (by omega) hr2.2
              have hb1 : (tn : Int) < p.blks.length := by omega
              have hb2 : tn < p.blks.length := by omega
              have hb3 : (en : Int) < p.blks.length := by omega
              have hb4 : en < p.blks.length := by omega
              rw [htn] at c3
              rw [hen] at c4'
              clear f1 f2 hj1 hj2 htn hen HNC hr1 hr2 hf3 hir
              have HP := Lib.hid ((HM.out.put hk4 3 (by decide) (.int .i64 (numP (reachP p) tn : Int)) (⟨K.ins, K.fin, K.a, (numP (reachP p) tn : Int), K.els⟩, X2) (by rw [hma.out]; rfl) (by rw [hma.out]) (by rw [hma.out])).put' hk4 4 (by decide) (.int .i64 (numP (reachP p) en : Int)) (⟨K.ins, K.fin, K.a, (numP (reachP p) tn : Int), (numP (reachP p) en : Int)⟩, X2) rfl rfl rfl)
              rw [← hth.out, ← hms.out] at HP
              clear hth hms hma
              have HN2 : Hid (OwnI ((wr.setCell ⟨g, k * 5 + 3, none⟩ (.int .i64 (numP (reachP p) tn : Int))).setCell ⟨g, k * 5 + 4, none⟩ (.int .i64 (numP (reachP p) en : Int))) W2.heap.size (.slice (some ⟨W2.heap.size, 0, none⟩) p.blks.length p.blks.length) (nuZ (reachP p) p.blks.length p.blks.length)) := World.ownsRow.kept (World.ownsRow.kept HN.out (grown_set wr g (k * 5 + 3) _) hap.out) (grown_set _ g (k * 5 + 4) _) hap.out
              generalize numP (reachP p) tn = te at *
              generalize numP (reachP p) en = ee at *
              go_wp2_with fail
              exact ⟨⟨k + 1, rfl, by omega, HP, HN2⟩, by simp [intOf]; omega⟩
            · have f3 : K.fin = 3 := by omega
              have q1 : (K.fin != 3) = false := by rw [f3]; rfl
              have q2 : (K.fin == 2) = false := by rw [f3]; rfl
              have q3 : (K.fin == 3) = true := by rw [f3]; rfl
              have hth : Hid (pnB (reachP p) K = K) := by show _ = _; unfold pnB; rw [if_neg f1, if_neg f2]
              have HP : Hid (BkM w W2.heap.size W2 wr (.slice (some ⟨g, 0, none⟩) (numP (reachP p) p.blks.length) cz) (mapN (pnB (reachP p)) L (k + 1))) := by
                show BkM _ _ _ _ _ _
                rw [hms.out, hth.out, ← hma.out, set_selfD hk4]
                exact HM.out
              clear f1 f2 f3 hj1 hj2 HNC hth hms hma hr1 hr2 hf3 hir
              go_wp2_with fail
              exact ⟨⟨k + 1, rfl, by omega, HP, HN⟩, by simp [intOf]; omega⟩
        · obtain rfl : k = numP (reachP p) p.blks.length := by omega
          have g1 : decide ((numP (reachP p) p.blks.length : Int) < (numP (reachP p) p.blks.length : Int)) = false := decide_eq_false (by omega)
          have g2 : decide (numP (reachP p) p.blks.length < numP (reachP p) p.blks.length) = false := decide_eq_false (by omega)
          obtain ⟨y0, y1, y2, y3, y4, y5, l6⟩ := cl6 H0q.out
          have yf5 := Lib.frozen_of_heap H0q.out 5
          obtain ⟨z0, z1, z2, z3, z4, z5, l7⟩ := cl6 H1q.out
          have zf := Lib.frozen_of_heap H1q.out
          have zf0 := zf 0
          have zf1 := zf 1
          have zf2 := zf 2
          have zf3 := zf 3
          have zf4 := zf 4
          have zf5 := zf 5
          clear zf
          go_wp2_with fail
          obtain ⟨hrd, hbf⟩ := HM.out.fin7 (b := w.heap.size + 1) (b' := w.heap.size) (j' := 5) l1w l0w (by omega) (Nat.le_refl _) (.slice az (numP (reachP p) p.blks.length) cz) (.string nm) (.bool p.void) (.int .i64 p.params) (.int .i64 p.regs) (.slice ao p.objs.length co) (.slice az (numP (reachP p) p.blks.length) cz)
          rw [← HLk.out, mapN_all, HE.out, List.map_map, HLk.out] at hrd
          exact bodyPost_ret (v := .agg #[.string nm, .bool p.void, .int .i64 p.params, .int .i64 p.regs, .slice ao p.objs.length co, .slice az (numP (reachP p) p.blks.length) cz]) (by simp [results, Tryd.results31, go_sem, z0, z1, z2, z3, z4, z5, l7]) rfl ⟨_, rfl, ⟨nm, _, _, rfl, HO.out.ext (Ext.below hbf), hrd⟩, hbf⟩
end Go.Proofs.YtnnhobbabcfogaaDoor
