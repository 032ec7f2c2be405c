/-
  The blocks that are reached alone: plain, and the document's way walked.
-/
import Derived.Test.YtnnhobbabcfogaaDoorZShapeThreads27
import Derived.Test.YtnnhobbabcfogaaDoorZShapeThreads30
import Derived.Test.YtnnhobbabcfogaaDoorZShapeThreads29
set_option linter.all false
namespace Go.Proofs.YtnnhobbabcfogaaDoor
open Go.ChangeShapes Go.WideShapes Go.ChangeAt Go.RowKit Go.Maps
set_option maxHeartbeats 4000000
set_option linter.unusedVariables false
set_option maxRecDepth 100000

/-- how many of the first so many are reached -/
def numP (r : List Bool) (i : Nat) : Nat := ((r.take i).filter id).length
theorem numP_succ (r : List Bool) (i : Nat) (h : i < r.length) : numP r (i + 1) = numP r i + (if r.getD i false = true then 1 else 0) := by
  unfold numP
  rw [List.take_succ_eq_append_getElem h, List.filter_append, List.length_append]
  have e : r.getD i false = r[i] := by simp [List.getD, h]
  rw [e]
  cases r[i] <;> rfl
theorem numP_le (r : List Bool) (i : Nat) : numP r i ≤ i := Nat.le_trans (List.length_filter_le _ _) (List.length_take_le _ _)
def pnB (r : List Bool) (b : Bk) : Bk :=
  if b.fin = 1 then ⟨b.ins, b.fin, b.a, (numP r b.to.toNat : Int), b.els⟩
  else if b.fin = 2 then ⟨b.ins, b.fin, b.a, (numP r b.to.toNat : Int), (numP r b.els.toNat : Int)⟩ else b
/-- those that are reached -/
def rIdx (r : List Bool) (k : Nat) : List Nat := (List.range k).filter fun i => r.getD i false
theorem rIdx_yes {r : List Bool} {k : Nat} (h : r.getD k false = true) : rIdx r (k + 1) = rIdx r k ++ [k] := by
  unfold rIdx
  rw [List.range_succ, List.filter_append, List.filter_cons, h]; rfl
theorem rIdx_no {r : List Bool} {k : Nat} (h : r.getD k false = false) : rIdx r (k + 1) = rIdx r k := by
  unfold rIdx
  rw [List.range_succ, List.filter_append, List.filter_cons, h]; simp
theorem rIdx_len (r : List Bool) : ∀ k, k ≤ r.length → (rIdx r k).length = numP r k
  | 0, _ => by simp [rIdx, numP]
  | k + 1, h => by
    rw [numP_succ r k h]
    cases hb : r.getD k false
    · rw [rIdx_no hb, rIdx_len r k (by omega)]; simp
    · rw [rIdx_yes hb, List.length_append, rIdx_len r k (by omega)]; simp
def pnP (p : Pr) : Pr := { p with blks := (rIdx (reachP p) p.blks.length).map fun i => pnB (reachP p) (bkAt p i) }
theorem reach_out {p : Pr} {n : Nat} (hn : n < p.blks.length) (h : (reachP p).getD n false = true) {t : Int} (ht : t ∈ outsP p n) : (reachP p).getD t.toNat false = true := by
  have hp : 0 < p.blks.length := by omega
  have htr := outsP_mem ht
  rw [reachP_get p n hn, hasL_iff] at h
  rw [reachP_get p t.toNat (by omega), hasL_iff, show ((t.toNat : Nat) : Int) = t by omega]
  obtain ⟨a, b, -⟩ := wkD_all p hp
  have h1 := a.out _ h t (by simpa using ht)
  rcases wkD_two p hp t with e | e
  · exact absurd e h1
  · exact (wkD_mem p hp t).2 ⟨htr.1, htr.2, e⟩
theorem reach_to1 {p : Pr} (hJ : JmpOk p) {n : Nat} (hn : n < p.blks.length) (h : (reachP p).getD n false = true) (hf : (bkAt p n).fin = 1) : (reachP p).getD (bkAt p n).to.toNat false = true := by
  have := hJ.to1 n hn hf
  refine reach_out hn h ?_
  unfold outsP outsB
  rw [List.mem_filter]
  unfold bkAt at hf this ⊢
  generalize p.blks.getD n default = K at *
  rw [if_pos (.inl hf)]
  refine ⟨by simp, ?_⟩
  rw [decide_eq_true this.1, decide_eq_true this.2]; rfl
theorem reach_to2 {p : Pr} (hJ : JmpOk p) {n : Nat} (hn : n < p.blks.length) (h : (reachP p).getD n false = true) (hf : (bkAt p n).fin = 2) : (reachP p).getD (bkAt p n).to.toNat false = true ∧ (reachP p).getD (bkAt p n).els.toNat false = true := by
  have h2 := hJ.to2 n hn hf
  have key : ∀ t, (t = (bkAt p n).to ∨ t = (bkAt p n).els) → t ∈ outsP p n := fun t ht => by
    unfold outsP outsB
    rw [List.mem_filter]
    unfold bkAt at hf h2 ht
    generalize p.blks.getD n default = K at *
    refine ⟨?_, by rcases ht with rfl | rfl <;> simp <;> omega⟩
    by_cases e : K.to = K.els
    · rw [if_pos (.inr ⟨hf, e⟩)]
      rcases ht with rfl | rfl
      · simp
      · simp [e]
    · rw [if_neg (by omega), if_pos hf]
      rcases ht with rfl | rfl <;> simp
  exact ⟨reach_out hn h (key _ (.inl rfl)), reach_out hn h (key _ (.inr rfl))⟩
def numL (r : List Bool) (k : Nat) : List Int := (List.range k).map fun i => (numP r i : Int)
theorem numL_succ (r : List Bool) (k : Nat) : numL r (k + 1) = numL r k ++ [(numP r k : Int)] := by unfold numL; rw [List.range_succ, List.map_append]; rfl
theorem numL_len (r : List Bool) (k : Nat) : (numL r k).length = k := by simp [numL]
theorem numL_at (r : List Bool) (k i : Nat) (h : i < k) : (numL r k).getD i 0 = (numP r i : Int) := by simp [numL, List.getD, h]
theorem ownI_sl {w : World} {B k : Nat} {v : Value} {l : List Int} (h : OwnI w B v l) (hk : l.length = k) : ∃ a c, v = .slice a k c := by
  obtain ⟨a, c, e, -⟩ := RdI.sl' h.rd
  rw [hk] at e
  exact ⟨a, c, e⟩
theorem rprune_c (p : Pr) (v : Value) (w : World) (hP : PrV w v p) (hJ : JmpOk p) (hl : p.blks.length ≤ 1000) :
    Calls Tryd.prog 32 #[v] w fun e w' => ∃ v', e = .returned v' ∧ PrV w' v' (pnP p) ∧ Below w.heap.size w w' := by
  have HRE : Hid (∀ w', Ext w w' → Calls Tryd.prog 56 #[v] w' fun e w'' => ∃ g, e = .returned (.slice (some ⟨g, 0, none⟩) p.blks.length p.blks.length) ∧ w'.heap.size ≤ g ∧ RowB w'' g p.blks.length p.blks.length (reachP p) ∧ Below w'.heap.size w' w'') := fun w' he => rreach_c p v w' (hP.ext he) hl
  obtain ⟨nm, vo, vb, rfl, ho, hvb⟩ := hP
  have ho' := ho
  obtain ⟨ao, co, rfl, -⟩ := ho'
  have hvb' := hvb
  obtain ⟨ab, cb, rfl, h1, h2, -⟩ := hvb'
  unfold maxLen at h2
  have HBk := Lib.hid (RdBks.at hvb).2
  have HO := Lib.hid ho
  clear hvb ho
  have hrl := reachP_len p
  obtain ⟨W0, hW0⟩ : ∃ W0, W0 = (w.alloc (.cells #[.string nm, .bool p.void, .int .i64 p.params, .int .i64 p.regs, .slice ao p.objs.length co, .slice ab p.blks.length cb] 37)).alloc (.cells #[.string { data := #[] }, .bool false, .int .i64 0, .int .i64 0, .slice none 0 0, .slice none 0 0] 37) := ⟨_, rfl⟩
  have hW0' : W0 = allocs w [.cells #[.string nm, .bool p.void, .int .i64 p.params, .int .i64 p.regs, .slice ao p.objs.length co, .slice ab p.blks.length cb] 37, .cells #[.string { data := #[] }, .bool false, .int .i64 0, .int .i64 0, .slice none 0 0, .slice none 0 0] 37] := hW0
  have B0 : Hid (Below w.heap.size w W0) := by rw [hW0']; exact allocs_below _ _
  have H0 : Hid (W0.heap[w.heap.size]? = some (.cells #[.string nm, .bool p.void, .int .i64 p.params, .int .i64 p.regs, .slice ao p.objs.length co, .slice ab p.blks.length cb] 37 (0, 0))) := by rw [hW0']; exact allocs_heap _ w 0 (by simp)
  have H1 : Hid (W0.heap[w.heap.size + 1]? = some (.cells #[.string { data := #[] }, .bool false, .int .i64 0, .int .i64 0, .slice none 0 0, .slice none 0 0] 37 (0, 0))) := by rw [hW0']; exact allocs_heap _ w 1 (by simp)
  have l0w : w.heap.size < W0.heap.size := (Array.getElem?_eq_some_iff.1 H0.out).1
  have l1w : w.heap.size + 1 < W0.heap.size := (Array.getElem?_eq_some_iff.1 H1.out).1
  go_enter Tryd.func32, Tryd.ntmps32
  go_upto_region 1 with (fail)
  rw [← hW0]
  clear hW0 hW0'
  obtain ⟨y0, y1, y2, y3, y4, y5, -⟩ := cl6 H0.out
  go_wp2_with fail
  refine (HRE.out W0 (Ext.below B0.out)).mono ?_
  rintro e W2 ⟨gr, rfl, hgr, hrow, hb2⟩
  have H0 := Lib.hid ((hb2.block _ l0w).trans H0.out)
  have H1 := Lib.hid ((hb2.block _ l1w).trans H1.out)
  have B2 := Lib.hid (B0.out.trans (hb2.mono B0.out.size))
  have HR := Lib.hid hrow.cellAt
  have l0w : w.heap.size < W2.heap.size := (Array.getElem?_eq_some_iff.1 H0.out).1
  have l1w : w.heap.size + 1 < W2.heap.size := (Array.getElem?_eq_some_iff.1 H1.out).1
  have lgr := HR.out.2.2.2.2.2.2
  clear hb2 B0 hrow y0 y1 y2 y3 y4 y5 hgr
  go_wp2_with fail
  go_loopw [4, 5, 6] (fun sv sn i wr => ∃ (k : Nat) (sl : Value), i = .int .i64 (k : Int) ∧ sn = .int .i64 (numP (reachP p) k : Int) ∧ sv = sl ∧ k ≤ p.blks.length ∧ Hid (Own W2 W2.heap.size wr sl (numL (reachP p) k))) (fun _ _ i _ => p.blks.length - (intOf i).toNat)
  case atStart => exact ⟨0, _, rfl, rfl, rfl, Nat.zero_le _, Own.nil (Nat.le_refl _)⟩
  case round =>
    obtain ⟨k, sl, rfl, rfl, rfl, hk, HN⟩ := hrel
    obtain ⟨an, cn, rfl⟩ := ownI_sl HN.out.own (numL_len _ _)
    have hnp := numP_le (reachP p) k
    by_cases hlt : k < p.blks.length
    · have g1 : decide ((k : Int) < (p.blks.length : Int)) = true := decide_eq_true (by omega)
      have g2 : decide (k < p.blks.length) = true := decide_eq_true hlt
      have hns := Lib.hid (numL_succ (reachP p) k)
      have hps := numP_succ (reachP p) k (by omega)
      cases hrk : (reachP p).getD k false
      · rw [hrk] at hps
        simp only [Bool.false_eq_true, if_false, Nat.add_zero] at hps
        have hps := Lib.hid hps
        have xr := HR.out.2.2.2.2.1 k hlt
        rw [hrk] at xr
        clear hrk
        go_wp2_with (at_builtin; refine app1 HN.out rfl rfl rfl rfl (by first | rfl | simp) (by rw [numL_len]; omega) ?_; intro v5 w5 O1; have xr := (O1.below.cell (p := ⟨gr, k, none⟩) lgr).trans xr)
        rw [← hns.out] at O1
        exact ⟨⟨k + 1, _, rfl, by rw [hps.out], rfl, by omega, O1⟩, by simp [intOf]; omega⟩
      · rw [hrk] at hps
        simp only [if_true] at hps
        have hps := Lib.hid hps
        have xr := HR.out.2.2.2.2.1 k hlt
        rw [hrk] at xr
        clear hrk
        go_wp2_with (at_builtin; refine app1 HN.out rfl rfl rfl rfl (by first | rfl | simp) (by rw [numL_len]; omega) ?_; intro v5 w5 O1; have xr := (O1.below.cell (p := ⟨gr, k, none⟩) lgr).trans xr)
        rw [← hns.out] at O1
        exact ⟨⟨k + 1, _, rfl, by rw [hps.out]; simp, rfl, by omega, O1⟩, by simp [intOf]; omega⟩
    · obtain rfl : k = p.blks.length := by omega
      have g1 : decide ((p.blks.length : Int) < (p.blks.length : Int)) = false := decide_eq_false (by omega)
      have g2 : decide (p.blks.length < p.blks.length) = false := decide_eq_false (by omega)
      obtain ⟨W3, rfl⟩ : ∃ W3 : World, W3 = wr := ⟨_, rfl⟩
      have H0 := Lib.hid ((HN.out.below.block _ l0w).trans H0.out)
      have H1 := Lib.hid ((HN.out.below.block _ l1w).trans H1.out)
      have B3 := Lib.hid (B2.out.trans (HN.out.below.mono B2.out.size))
      have HRC : Hid (∀ i, i < p.blks.length → W3.cell? ⟨gr, i, none⟩ = some (.bool ((reachP p).getD i false))) := fun i hi => (HN.out.below.cell (p := ⟨gr, i, none⟩) lgr).trans (HR.out.2.2.2.2.1 i hi)
      have l0w : w.heap.size < W3.heap.size := (Array.getElem?_eq_some_iff.1 H0.out).1
      have l1w : w.heap.size + 1 < W3.heap.size := (Array.getElem?_eq_some_iff.1 H1.out).1
      have lgr : gr < W3.heap.size := Nat.lt_of_lt_of_le lgr HN.out.below.size
      have HNI := Lib.hid HN.out.own
      clear HN
      go_wp2_with fail
      go_loopw [7, 8] (fun sv i wr => ∃ (k : Nat) (L : List (Bk × Value)) (sl : Value), i = .int .i64 (k : Int) ∧ sv = sl ∧ k ≤ p.blks.length ∧ Hid (BkL w W3 wr sl L ((rIdx (reachP p) k).map fun i => pnB (reachP p) (bkAt p i)))) (fun _ i _ => p.blks.length - (intOf i).toNat)
      case atStart => exact ⟨0, [], _, rfl, rfl, Nat.zero_le _, BkL.nil B3.out⟩
      case round =>
        obtain ⟨k, L, sl, rfl, rfl, hk, HL⟩ := hrel
        obtain ⟨az, cz, rfl⟩ := HL.out.sl (k := numP (reachP p) k) (by rw [List.length_map, rIdx_len _ _ (by rw [reachP_len]; omega)])
        have BB := Lib.hid HL.out.below
        have H0r := Lib.hid ((BB.out.block _ l0w).trans H0.out)
        have H1r := Lib.hid ((BB.out.block _ l1w).trans H1.out)
        obtain ⟨y0, y1, y2, y3, y4, y5, l0⟩ := cl6 H0r.out
        by_cases hlt : k < p.blks.length
        · have g1 : decide ((k : Int) < (p.blks.length : Int)) = true := decide_eq_true (by omega)
          have g2 : decide (k < p.blks.length) = true := decide_eq_true hlt
          obtain ⟨b, o, vi, rfl, hvi, c0, c1, c2, c3, c4⟩ := HBk.out k hlt
          have hE : Ext w wr := (Ext.below B3.out).trans (Ext.below BB.out)
          replace c0 := hE _ _ c0
          replace c1 := hE _ _ c1
          replace c2 := hE _ _ c2
          replace c3 := hE _ _ c3
          replace c4 := hE _ _ c4
          have xr := (BB.out.cell (p := ⟨gr, k, none⟩) lgr).trans (HRC.out k hlt)
          have hj1 := hJ.to1 k hlt
          have hj2 := hJ.to2 k hlt
          obtain ⟨gn, rfl⟩ := own_ptr HNI.out (.inl (by rw [numL_len]; omega))
          have hgn : W2.heap.size ≤ gn ∧ gn < W3.heap.size := own_lt HNI.out rfl
          have lgn : gn < wr.heap.size := Nat.lt_of_lt_of_le hgn.2 BB.out.size
          have lgw : gr < wr.heap.size := Nat.lt_of_lt_of_le lgr BB.out.size
          have HNC : Hid (∀ i, i < p.blks.length → wr.cell? ⟨gn, i, none⟩ = some (.int .i64 (numP (reachP p) i : Int))) := fun i hi => by
            have := (OwnI.cellAt HNI.out).2.2.2.2.1 i hi
            rw [numL_at _ _ _ hi] at this
            exact (BB.out.cell (p := ⟨gn, i, none⟩) hgn.2).trans this
          have HKE : Hid (p.blks.getD k default = bkAt p k) := rfl
          rw [HKE.out] at hvi c1 c2 c3 c4
          have hth0 := Lib.hid (rfl : pnB (reachP p) (bkAt p k) = pnB (reachP p) (bkAt p k))
          clear HKE
          generalize hKK : bkAt p k = K at hvi c1 c2 c3 c4 hj1 hj2
          have HKK := Lib.hid hKK
          clear hKK hth0 hE
          have HVI := Lib.hid hvi
          obtain ⟨ai, ci, rfl, -, -⟩ := RdIns.sl hvi
          clear hvi
          by_cases f1 : K.fin = 1
          · have hj1 := hj1 f1
            obtain ⟨tn, htn⟩ : ∃ tn : Nat, K.to = (tn : Int) := ⟨K.to.toNat, by omega⟩
            have q1 : (K.fin == 1) = true := by rw [f1]; rfl
            have q2 : (K.fin == 2) = false := by rw [f1]; rfl
            have hth : Hid (pnB (reachP p) (bkAt p k) = ⟨K.ins, K.fin, K.a, (numP (reachP p) tn : Int), K.els⟩) := by show _ = _; rw [HKK.out]; unfold pnB; rw [if_pos f1, htn]; rfl
            have t1 := HNC.out tn (by omega)
            have hb1 : (tn : Int) < p.blks.length := by omega
            have hb2 : tn < p.blks.length := by omega
            rw [htn] at c3
            clear f1 hj1 hj2 htn HNC
            generalize numP (reachP p) tn = te at *
            cases hrk : (reachP p).getD k false
            · rw [hrk] at xr
              have HL6 : Hid (BkL w W3 (wr.alloc (.cells #[.slice ai K.ins.length ci, .int .i64 K.fin, .int .i64 K.a, .int .i64 (te : Int), .int .i64 K.els] 40)) (.slice az (numP (reachP p) k) cz) L ((rIdx (reachP p) (k + 1)).map fun i => pnB (reachP p) (bkAt p i))) := by
                show BkL _ _ _ _ _ _
                rw [rIdx_no hrk]; exact HL.out.grow (below_alloc _ _)
              clear hrk
              go_wp2_with fail
              exact ⟨⟨k + 1, L, _, rfl, rfl, by omega, HL6⟩, by simp [intOf]; omega⟩
            · rw [hrk] at xr
              have hrb := Lib.hid hrk
              clear hrk
              have hone := Lib.hid (bk_ones (.slice ai K.ins.length ci) ⟨_, _, _, rfl⟩ K.fin K.a (te : Int) K.els)
              have HLL := Lib.hid (HL.out.grow (below_alloc wr (.cells #[.slice ai K.ins.length ci, .int .i64 K.fin, .int .i64 K.a, .int .i64 (te : Int), .int .i64 K.els] 40)))
              go_wp2_with (at_builtin; refine appG 35 40 info_bk Tryd.underlying35 rfl (by decide) (by decide) [.slice ai K.ins.length ci, .int .i64 K.fin, .int .i64 K.a, .int .i64 (te : Int), .int .i64 K.els] rfl hone.out (HLL.out.grow (below_alloc _ _)).own rfl rfl rfl rfl (cell_newX _ _ _ _ (by simp)) (by have := HLL.out.len; rw [List.length_map, rIdx_len _ _ (by rw [reachP_len]; omega)] at this; have := numP_le (reachP p) k; omega) ((HLL.out.grow (below_alloc _ _)).below.size) ?_; intro v6 w6 O6 G6 D6)
              have HL6 := Lib.hid ((HLL.out.grow (below_alloc _ _)).app (x := ⟨K.ins, K.fin, K.a, (te : Int), K.els⟩) HVI.out O6 G6)
              rw [← hth.out] at HL6
              have HL6 : Hid (BkL w W3 w6 v6 (L ++ [(pnB (reachP p) (bkAt p k), .slice ai K.ins.length ci)]) ((rIdx (reachP p) (k + 1)).map fun i => pnB (reachP p) (bkAt p i))) := by
                show BkL _ _ _ _ _ _
                rw [rIdx_yes hrb.out, List.map_append]; exact HL6.out
              obtain ⟨a6, c6, rfl⟩ := HL6.out.sl (k := numP (reachP p) (k + 1)) (by rw [List.length_map, rIdx_len _ _ (by rw [reachP_len]; omega)])
              exact ⟨⟨k + 1, _, _, rfl, rfl, by omega, HL6⟩, by simp [intOf]; omega⟩
          · by_cases f2 : K.fin = 2
            · have hj2 := hj2 f2
              obtain ⟨tn, htn⟩ : ∃ tn : Nat, K.to = (tn : Int) := ⟨K.to.toNat, by omega⟩
              obtain ⟨en, hen⟩ : ∃ en : Nat, K.els = (en : Int) := ⟨K.els.toNat, by omega⟩
              have q1 : (K.fin == 1) = false := by rw [f2]; rfl
              have q2 : (K.fin == 2) = true := by rw [f2]; rfl
              have hth : Hid (pnB (reachP p) (bkAt p k) = ⟨K.ins, K.fin, K.a, (numP (reachP p) tn : Int), (numP (reachP p) en : Int)⟩) := by show _ = _; rw [HKK.out]; unfold pnB; rw [if_neg f1, if_pos f2, htn, hen]; rfl
              have t1 := HNC.out tn (by omega)
              have e1 := HNC.out en (by omega)
              have hb1 : (tn : Int) < p.blks.length := by omega
              have hb2 : tn < p.blks.length := by omega
              have hb3 : (en : Int) < p.blks.length := by omega
              have hb4 : en < p.blks.length := by omega
              rw [htn] at c3
              rw [hen] at c4
              clear f1 f2 hj1 hj2 htn hen HNC
              generalize numP (reachP p) tn = te at *
              generalize numP (reachP p) en = ee at *
              cases hrk : (reachP p).getD k false
              · rw [hrk] at xr
                have HL6 : Hid (BkL w W3 (wr.alloc (.cells #[.slice ai K.ins.length ci, .int .i64 K.fin, .int .i64 K.a, .int .i64 (te : Int), .int .i64 (ee : Int)] 40)) (.slice az (numP (reachP p) k) cz) L ((rIdx (reachP p) (k + 1)).map fun i => pnB (reachP p) (bkAt p i))) := by
                  show BkL _ _ _ _ _ _
                  rw [rIdx_no hrk]; exact HL.out.grow (below_alloc _ _)
                clear hrk
                go_wp2_with fail
                exact ⟨⟨k + 1, L, _, rfl, rfl, by omega, HL6⟩, by simp [intOf]; omega⟩
              · rw [hrk] at xr
                have hrb := Lib.hid hrk
                clear hrk
                have hone := Lib.hid (bk_ones (.slice ai K.ins.length ci) ⟨_, _, _, rfl⟩ K.fin K.a (te : Int) (ee : Int))
                have HLL := Lib.hid (HL.out.grow (below_alloc wr (.cells #[.slice ai K.ins.length ci, .int .i64 K.fin, .int .i64 K.a, .int .i64 (te : Int), .int .i64 (ee : Int)] 40)))
                go_wp2_with (at_builtin; refine appG 35 40 info_bk Tryd.underlying35 rfl (by decide) (by decide) [.slice ai K.ins.length ci, .int .i64 K.fin, .int .i64 K.a, .int .i64 (te : Int), .int .i64 (ee : Int)] rfl hone.out (HLL.out.grow (below_alloc _ _)).own rfl rfl rfl rfl (cell_newX _ _ _ _ (by simp)) (by have := HLL.out.len; rw [List.length_map, rIdx_len _ _ (by rw [reachP_len]; omega)] at this; have := numP_le (reachP p) k; omega) ((HLL.out.grow (below_alloc _ _)).below.size) ?_; intro v6 w6 O6 G6 D6)
                have HL6 := Lib.hid ((HLL.out.grow (below_alloc _ _)).app (x := ⟨K.ins, K.fin, K.a, (te : Int), (ee : Int)⟩) HVI.out O6 G6)
                rw [← hth.out] at HL6
                have HL6 : Hid (BkL w W3 w6 v6 (L ++ [(pnB (reachP p) (bkAt p k), .slice ai K.ins.length ci)]) ((rIdx (reachP p) (k + 1)).map fun i => pnB (reachP p) (bkAt p i))) := by
                  show BkL _ _ _ _ _ _
                  rw [rIdx_yes hrb.out, List.map_append]; exact HL6.out
                obtain ⟨a6, c6, rfl⟩ := HL6.out.sl (k := numP (reachP p) (k + 1)) (by rw [List.length_map, rIdx_len _ _ (by rw [reachP_len]; omega)])
                exact ⟨⟨k + 1, _, _, rfl, rfl, by omega, HL6⟩, by simp [intOf]; omega⟩
            · have q1 : (K.fin == 1) = false := by simpa using f1
              have q2 : (K.fin == 2) = false := by simpa using f2
              have hth : Hid (pnB (reachP p) (bkAt p k) = ⟨K.ins, K.fin, K.a, K.to, K.els⟩) := by show _ = _; rw [HKK.out]; unfold pnB; rw [if_neg f1, if_neg f2]
              clear f1 f2 hj1 hj2 HNC
              cases hrk : (reachP p).getD k false
              · rw [hrk] at xr
                have HL6 : Hid (BkL w W3 (wr.alloc (.cells #[.slice ai K.ins.length ci, .int .i64 K.fin, .int .i64 K.a, .int .i64 K.to, .int .i64 K.els] 40)) (.slice az (numP (reachP p) k) cz) L ((rIdx (reachP p) (k + 1)).map fun i => pnB (reachP p) (bkAt p i))) := by
                  show BkL _ _ _ _ _ _
                  rw [rIdx_no hrk]; exact HL.out.grow (below_alloc _ _)
                clear hrk
                go_wp2_with fail
                exact ⟨⟨k + 1, L, _, rfl, rfl, by omega, HL6⟩, by simp [intOf]; omega⟩
              · rw [hrk] at xr
                have hrb := Lib.hid hrk
                clear hrk
                have hone := Lib.hid (bk_ones (.slice ai K.ins.length ci) ⟨_, _, _, rfl⟩ K.fin K.a K.to K.els)
                have HLL := Lib.hid (HL.out.grow (below_alloc wr (.cells #[.slice ai K.ins.length ci, .int .i64 K.fin, .int .i64 K.a, .int .i64 K.to, .int .i64 K.els] 40)))
                go_wp2_with (at_builtin; refine appG 35 40 info_bk Tryd.underlying35 rfl (by decide) (by decide) [.slice ai K.ins.length ci, .int .i64 K.fin, .int .i64 K.a, .int .i64 K.to, .int .i64 K.els] rfl hone.out (HLL.out.grow (below_alloc _ _)).own rfl rfl rfl rfl (cell_newX _ _ _ _ (by simp)) (by have := HLL.out.len; rw [List.length_map, rIdx_len _ _ (by rw [reachP_len]; omega)] at this; have := numP_le (reachP p) k; omega) ((HLL.out.grow (below_alloc _ _)).below.size) ?_; intro v6 w6 O6 G6 D6)
                have HL6 := Lib.hid ((HLL.out.grow (below_alloc _ _)).app (x := ⟨K.ins, K.fin, K.a, K.to, K.els⟩) HVI.out O6 G6)
                rw [← hth.out] at HL6
                have HL6 : Hid (BkL w W3 w6 v6 (L ++ [(pnB (reachP p) (bkAt p k), .slice ai K.ins.length ci)]) ((rIdx (reachP p) (k + 1)).map fun i => pnB (reachP p) (bkAt p i))) := by
                  show BkL _ _ _ _ _ _
                  rw [rIdx_yes hrb.out, List.map_append]; exact HL6.out
                obtain ⟨a6, c6, rfl⟩ := HL6.out.sl (k := numP (reachP p) (k + 1)) (by rw [List.length_map, rIdx_len _ _ (by rw [reachP_len]; omega)])
                exact ⟨⟨k + 1, _, _, rfl, rfl, by omega, HL6⟩, by simp [intOf]; omega⟩
        · obtain rfl : k = p.blks.length := by omega
          have g1 : decide ((p.blks.length : Int) < (p.blks.length : Int)) = false := decide_eq_false (by omega)
          have g2 : decide (p.blks.length < p.blks.length) = false := decide_eq_false (by omega)
          go_wp2_with fail
          refine (with_c nm p.void p.params p.regs ao ab az p.objs.length co p.blks.length cb _ cz wr).mono ?_
          rintro e w3 ⟨rfl, hb3⟩
          have H1r := Lib.hid ((hb3.block _ (Array.getElem?_eq_some_iff.1 H1r.out).1).trans H1r.out)
          have HL := Lib.hid (HL.out.grow hb3)
          clear hb3 y0 y1 y2 y3 y4 y5
          obtain ⟨y0, y1, y2, y3, y4, y5, l1⟩ := cl6 H1r.out
          have zf := Lib.frozen_of_heap H1r.out
          have zf0 := zf 0
          have zf1 := zf 1
          have zf2 := zf 2
          have zf3 := zf 3
          have zf4 := zf 4
          have zf5 := zf 5
          clear zf
          go_wp2_with fail
          obtain ⟨hrd, hbf⟩ := HL.out.fin (b := w.heap.size + 1) l1w (by omega) (.string nm) (.bool p.void) (.int .i64 p.params) (.int .i64 p.regs) (.slice ao p.objs.length co) (.slice az (numP (reachP p) p.blks.length) cz)
          exact bodyPost_ret (v := .agg #[.string nm, .bool p.void, .int .i64 p.params, .int .i64 p.regs, .slice ao p.objs.length co, .slice az (numP (reachP p) p.blks.length) cz]) (by simp [results, Tryd.results32, go_sem, y0, y1, y2, y3, y4, y5, l1]) rfl ⟨_, rfl, ⟨nm, _, _, rfl, HO.out.ext (Ext.below hbf), hrd⟩, hbf⟩
end Go.Proofs.YtnnhobbabcfogaaDoor
