/-
  Blocks taken in: the walk.
-/
import Derived.Test.YtnnhobbabcfogaaDoorZShapeThreads35
import Derived.Test.YtnnhobbabcfogaaDoorZShapeThreads10
set_option linter.all false
namespace Go.Proofs.YtnnhobbabcfogaaDoor
open Go.ChangeShapes Go.WideShapes Go.ChangeAt Go.RowKit Go.Maps
set_option maxHeartbeats 4000000
set_option linter.unusedVariables false
set_option maxRecDepth 100000

theorem keepBel {S : Nat → Prop} {w w' : World} (hb : Below w.heap.size w w') (h : ∀ b, S b → b < w.heap.size) : Keep S w w' := fun b o hs => hb.cell (p := ⟨b, o, none⟩) (h b hs)
theorem merge_c (p q : Pr) (F : Nat) (v : Value) (w : World) (hP : PrV w v p) (hq : mgP p F = some q) (hl : p.blks.length ≤ 1000) (h0 : 0 < p.blks.length) :
    Calls Tryd.prog 66 #[v] w fun e w' => ∃ v', e = .returned v' ∧ PrV w' v' q ∧ Below w.heap.size w w' := by
  have HRE : Hid (∀ w', Ext w w' → Calls Tryd.prog 55 #[v] w' fun e w'' => ∃ g, e = .returned (.slice (some ⟨g, 0, none⟩) p.blks.length p.blks.length) ∧ w'.heap.size ≤ g ∧ RowB w'' g p.blks.length p.blks.length (reachP p) ∧ Below w'.heap.size w' w'') := fun w' he => reach_c p v w' (hP.ext he) (by omega)
  have HLO : Hid (∀ w' gr, Ext w w' → RowB w' gr p.blks.length p.blks.length (reachP p) → Calls Tryd.prog 85 #[v, .slice (some ⟨gr, 0, none⟩) p.blks.length p.blks.length] w' fun e w'' => ∃ g, e = .returned (.slice (some ⟨g, 0, none⟩) p.blks.length p.blks.length) ∧ OwnI w'' w'.heap.size (.slice (some ⟨g, 0, none⟩) p.blks.length p.blks.length) (ldP p) ∧ Below w'.heap.size w' w'') := fun w' gr he hr => lone_c p v w' (hP.ext he) (by omega) gr hr
  obtain ⟨sf, hrun, hqe⟩ : ∃ sf, mgO (reachP p) (ldP p) F p.blks.length 0 ⟨p.blks, List.replicate p.blks.length false⟩ = some sf ∧ q = ⟨p.void, p.params, p.regs, p.objs, sf.bs⟩ := by
    unfold mgP at hq
    split at hq
    · cases hq
    · exact ⟨_, ‹_›, (Option.some.inj hq).symm⟩
  have hrun := Lib.hid hrun
  have hqe := Lib.hid hqe
  clear hq
  obtain ⟨nm, vo, vb, rfl, ho, hvb⟩ := hP
  have ho' := ho
  obtain ⟨ao, co, rfl, -⟩ := ho'
  have hvb' := hvb
  obtain ⟨ab, cb, rfl, h1, h2, -⟩ := hvb'
  unfold maxLen at h2
  have HVB := Lib.hid hvb
  have HO := Lib.hid ho
  clear hvb ho
  have hrl := reachP_len p
  obtain ⟨W0, hW0⟩ : ∃ W0, W0 = (w.alloc (.cells #[.string nm, .bool p.void, .int .i64 p.params, .int .i64 p.regs, .slice ao p.objs.length co, .slice ab p.blks.length cb] 37)).alloc (.cells #[.string { data := #[] }, .bool false, .int .i64 0, .int .i64 0, .slice none 0 0, .slice none 0 0] 37) := ⟨_, rfl⟩
  have hW0' : W0 = allocs w [.cells #[.string nm, .bool p.void, .int .i64 p.params, .int .i64 p.regs, .slice ao p.objs.length co, .slice ab p.blks.length cb] 37, .cells #[.string { data := #[] }, .bool false, .int .i64 0, .int .i64 0, .slice none 0 0, .slice none 0 0] 37] := hW0
  have B0 : Hid (Below w.heap.size w W0) := by rw [hW0']; exact allocs_below _ _
  have H0 : Hid (W0.heap[w.heap.size]? = some (.cells #[.string nm, .bool p.void, .int .i64 p.params, .int .i64 p.regs, .slice ao p.objs.length co, .slice ab p.blks.length cb] 37 (0, 0))) := by rw [hW0']; exact allocs_heap _ w 0 (by simp)
  have H1 : Hid (W0.heap[w.heap.size + 1]? = some (.cells #[.string { data := #[] }, .bool false, .int .i64 0, .int .i64 0, .slice none 0 0, .slice none 0 0] 37 (0, 0))) := by rw [hW0']; exact allocs_heap _ w 1 (by simp)
  have l0w : w.heap.size < W0.heap.size := (Array.getElem?_eq_some_iff.1 H0.out).1
  have l1w : w.heap.size + 1 < W0.heap.size := (Array.getElem?_eq_some_iff.1 H1.out).1
  have hmk := run_make_row' (P := Tryd.prog) 74 4 (.bool false) 1 Tryd.underlying74 info_bool rfl .i64 .i64 p.blks.length (by omega) (by omega)
  go_enter Tryd.func66, Tryd.ntmps66
  go_upto_region 1 with (fail)
  rw [← hW0]
  clear hW0 hW0'
  obtain ⟨y0, y1, y2, y3, y4, y5, -⟩ := cl6 H0.out
  go_wp2_with fail
  refine (HRE.out W0 (Ext.below B0.out)).mono ?_
  rintro e W2 ⟨gr, rfl, hgr, hrow, hb2⟩
  have H0 := Lib.hid ((hb2.block _ l0w).trans H0.out)
  have H1 := Lib.hid ((hb2.block _ l1w).trans H1.out)
  have B2 := Lib.hid (B0.out.trans (hb2.mono B0.out.size))
  have HR := Lib.hid hrow
  have l0w : w.heap.size < W2.heap.size := (Array.getElem?_eq_some_iff.1 H0.out).1
  have l1w : w.heap.size + 1 < W2.heap.size := (Array.getElem?_eq_some_iff.1 H1.out).1
  clear hb2 B0 hrow y0 y1 y2 y3 y4 y5 hgr
  obtain ⟨y0, y1, y2, y3, y4, y5, -⟩ := cl6 H0.out
  go_wp2_with fail
  refine (HLO.out W2 gr (Ext.below B2.out) HR.out).mono ?_
  rintro e W3 ⟨gl, rfl, hlead, hb3⟩
  have H0 := Lib.hid ((hb3.block _ l0w).trans H0.out)
  have H1 := Lib.hid ((hb3.block _ l1w).trans H1.out)
  have B3 := Lib.hid (B2.out.trans (hb3.mono B2.out.size))
  have HR := Lib.hid (HR.out.below hb3)
  have HL := Lib.hid hlead
  have l0w : w.heap.size < W3.heap.size := (Array.getElem?_eq_some_iff.1 H0.out).1
  have l1w : w.heap.size + 1 < W3.heap.size := (Array.getElem?_eq_some_iff.1 H1.out).1
  have lgr : gr < W3.heap.size := HR.out.cellAt.2.2.2.2.2.2
  have lgl := own_lt HL.out (v := .slice (some ⟨gl, 0, none⟩) p.blks.length p.blks.length) rfl
  clear hb3 B2 hlead y0 y1 y2 y3 y4 y5
  obtain ⟨y0, y1, y2, y3, y4, y5, -⟩ := cl6 H0.out
  go_upto_region 4 with (fail)
  clear hmk y0 y1 y2 y3 y4 y5
  obtain ⟨W4, hW4⟩ : ∃ W4, W4 = W3.alloc (.cells (madeCells #[.bool false] p.blks.length) 4) := ⟨_, rfl⟩
  have HGn : Hid (OwnB W4 W3.heap.size (.slice (some ⟨W3.heap.size, 0, none⟩) p.blks.length p.blks.length) (List.replicate p.blks.length false)) := by
    rw [hW4]
    have := madeB W3 p.blks.length (by unfold maxLen; omega)
    obtain ⟨hl, hh | ⟨g, cap, cur, e1, -, r⟩⟩ := this
    · exact absurd hh.1 (by simp)
    · have e2 := e1
      simp only [Value.slice.injEq, Option.some.injEq, Addr.mk.injEq] at e2
      exact ⟨hl, .inr ⟨g, cap, cur, e1, by omega, r⟩⟩
  have B4 : Hid (Below W3.heap.size W3 W4) := by rw [hW4]; exact below_alloc _ _
  rw [← hW4]
  clear hW4
  have H0 := Lib.hid ((B4.out.block _ l0w).trans H0.out)
  have H1 := Lib.hid ((B4.out.block _ l1w).trans H1.out)
  have HR := Lib.hid (HR.out.below B4.out)
  have HL := Lib.hid (OwnI.grown' HL.out B4.out)
  have BB := Lib.hid (B3.out.trans (B4.out.mono B3.out.size))
  have lg : W3.heap.size < W4.heap.size := (own_lt HGn.out rfl).2
  have l0v : w.heap.size < W4.heap.size := by omega
  have l1v : w.heap.size + 1 < W4.heap.size := by omega
  clear B3 B4
  obtain ⟨y0, y1, y2, y3, y4, y5, -⟩ := cl6 H0.out
  go_wp2_with fail
  refine (copyBkM HVB.out W4 (Ext.below BB.out) (by omega)).mono ?_
  rintro e W5 ⟨v5, L0, rfl, hL0, ho5, hi5, hb5⟩
  have hlL : L0.length = p.blks.length := by rw [← hL0]; simp
  obtain ⟨a5, c5, rfl⟩ : ∃ a5 c5, v5 = .slice a5 p.blks.length c5 := by
    obtain ⟨a, c, e, -⟩ := own_flat (α := Bk × Value) (f := bkCells) (by decide : 0 < 5) (fun _ => rfl) ho5
    exact ⟨a, c, by rw [← hlL]; exact e⟩
  obtain ⟨gb, rfl⟩ : ∃ g, a5 = some ⟨g, 0, none⟩ := own_ptrG ho5 (by omega)
  have H0 := Lib.hid ((hb5.block _ l0v).trans H0.out)
  have H1 := Lib.hid ((hb5.block _ l1v).trans H1.out)
  have HR := Lib.hid (HR.out.below hb5)
  have HL := Lib.hid (OwnI.grown' HL.out hb5)
  have HGn := Lib.hid (OwnB.below HGn.out hb5)
  have BB := Lib.hid (BB.out.trans (hb5.mono BB.out.size))
  have HL0 := Lib.hid hL0
  have HI := Lib.hid hi5
  have HOw := Lib.hid ho5
  have hs5 := hb5.size
  have l0v : w.heap.size < W5.heap.size := by omega
  have l1v : w.heap.size + 1 < W5.heap.size := by omega
  clear hL0 hi5 ho5 hb5 y0 y1 y2 y3 y4 y5
  obtain ⟨y0, y1, y2, y3, y4, y5, -⟩ := cl6 H0.out
  have zf5 := Lib.frozen_of_heap H0.out 5
  go_upto_region 5 with (fail)
  have hgrw : Hid (gr ≠ w.heap.size) := fun e => by
    obtain ⟨cu, hh⟩ := HR.out.heap
    have := H0.out
    rw [e, this] at hh
    simp only [Option.some.injEq, Obj.cells.injEq] at hh
    exact absurd hh.2.1 (by decide)
  have H0 : Hid ((W5.setCell ⟨w.heap.size, 5, none⟩ (.slice (some ⟨gb, 0, none⟩) p.blks.length c5)).heap[w.heap.size]? = some (.cells #[.string nm, .bool p.void, .int .i64 p.params, .int .i64 p.regs, .slice ao p.objs.length co, .slice (some ⟨gb, 0, none⟩) p.blks.length c5] 37 (0, 0))) := box_set H0.out 5 _
  have H1 : Hid ((W5.setCell ⟨w.heap.size, 5, none⟩ (.slice (some ⟨gb, 0, none⟩) p.blks.length c5)).heap[w.heap.size + 1]? = _) := (heap_setCell_other W5 ⟨w.heap.size, 5, none⟩ (w.heap.size + 1) _ (by simp)).trans H1.out
  have HRC : Hid (∀ i, i < p.blks.length → (W5.setCell ⟨w.heap.size, 5, none⟩ (.slice (some ⟨gb, 0, none⟩) p.blks.length c5)).cell? ⟨gr, i, none⟩ = some (.bool ((reachP p).getD i false))) := fun i hi => by
    exact (World.cell?_of_block (a := ⟨gr, i, none⟩) (heap_setCell_other W5 ⟨w.heap.size, 5, none⟩ gr _ hgrw.out)).trans (HR.out.cellAt.2.2.2.2.1 i hi)
  have HLC : Hid (∀ i, i < p.blks.length → (W5.setCell ⟨w.heap.size, 5, none⟩ (.slice (some ⟨gb, 0, none⟩) p.blks.length c5)).cell? ⟨gl, i, none⟩ = some (.int .i64 ((ldP p).getD i 0))) := fun i hi => by
    exact (World.cell?_of_block (a := ⟨gl, i, none⟩) (heap_setCell_other W5 ⟨w.heap.size, 5, none⟩ gl _ (by simp only; omega))).trans ((OwnI.cellAt HL.out).2.2.2.2.1 i hi)
  have HM : Hid (MgM w (W5.setCell ⟨w.heap.size, 5, none⟩ (.slice (some ⟨gb, 0, none⟩) p.blks.length c5)) (W5.setCell ⟨w.heap.size, 5, none⟩ (.slice (some ⟨gb, 0, none⟩) p.blks.length c5)) W3.heap.size gb W3.heap.size p.blks.length c5 L0 (List.replicate p.blks.length false)) :=
    ⟨own_setCell (ownLow HOw.out (by omega)) (by omega) 5 _, hlL, fun x hx => .inl (HI.out x hx), own_setCell HGn.out (by omega) 5 _, Below.refl _ _, BB.out.setCell (p := ⟨w.heap.size, 5, none⟩) (Nat.le_refl _) _, by omega, by simp; omega⟩
  have l0v : w.heap.size < (W5.setCell ⟨w.heap.size, 5, none⟩ (.slice (some ⟨gb, 0, none⟩) p.blks.length c5)).heap.size := by simpa using l0v
  have l1v : w.heap.size + 1 < (W5.setCell ⟨w.heap.size, 5, none⟩ (.slice (some ⟨gb, 0, none⟩) p.blks.length c5)).heap.size := by simpa using l1v
  clear HI HOw HGn HL HR BB y0 y1 y2 y3 y4 y5 zf5 hs5
  generalize W5.setCell ⟨w.heap.size, 5, none⟩ (.slice (some ⟨gb, 0, none⟩) p.blks.length c5) = W6 at *
  have hwB : w.heap.size < W3.heap.size := by omega
  have hwB1 : w.heap.size + 1 < W3.heap.size := by omega
  generalize W3.heap.size = gg at *
  obtain ⟨y0, y1, y2, y3, y4, y5, -⟩ := cl6 H0.out
  go_wp2_with fail
  clear y0 y1 y2 y3 y4 y5
  go_loopw [25, 6, 7] (fun i _ _ wr => ∃ (k : Nat) (s : Mg) (L : List (Bk × Value)), i = .int .i64 (k : Int) ∧ k ≤ p.blks.length ∧ Hid (mgO (reachP p) (ldP p) F (p.blks.length - k) k s = some sf) ∧ Hid (MgM w W6 wr gg gb gg p.blks.length c5 L s.gone) ∧ Hid (L.map Prod.fst = s.bs)) (fun i _ _ _ => p.blks.length - (intOf i).toNat)
  case atStart => exact ⟨0, ⟨p.blks, _⟩, L0, rfl, Nat.zero_le _, hrun, HM, HL0⟩
  case round =>
    clear HM hrun
    obtain ⟨k, s, L, rfl, hk, hO, HM, HE⟩ := hrel
    have H0q := Lib.hid ((HM.out.below.block _ hwB).trans H0.out)
    have H1q := Lib.hid ((HM.out.below.block _ hwB1).trans H1.out)
    by_cases hlt : k < p.blks.length
    · have g1 : decide ((k : Int) < (p.blks.length : Int)) = true := decide_eq_true (by omega)
      have g2 : decide (k < p.blks.length) = true := decide_eq_true hlt
      obtain ⟨s1, hst, hO1⟩ := mgO_go hO.out hlt
      have hO1 := Lib.hid hO1
      have hst := Lib.hid hst
      obtain ⟨y0, y1, y2, y3, y4, y5, lw6⟩ := cl6 H0q.out
      clear hO H0q H1q
      go_wp2_with fail
      clear y0 y1 y2 y3 y4 y5 lw6
      go_loopg [8] F (fun m _ wr => ∃ (f : Nat) (s : Mg) (L : List (Bk × Value)), Hid (m = f) ∧ Hid (mgI (reachP p) (ldP p) k f s = some s1) ∧ Hid (MgM w W6 wr gg gb gg p.blks.length c5 L s.gone) ∧ Hid (L.map Prod.fst = s.bs))
      case atStart => exact ⟨F, s, L, rfl, hst, HM, HE⟩
      case round =>
        clear HM HE hst
        obtain ⟨f, s2, L2, Hm, hst2, HM, HE⟩ := hrel
        have hst := hst2.out
        clear hst2
        cases f with
        | zero => exact absurd hst (by unfold mgI; simp)
        | succ f =>
        have hk2 : k < L2.length := by rw [HM.out.len]; exact hlt
        have HK : (L2.getD k default).1 = s2.bs.getD k default := by rw [← HE.out]; simp [List.getD, hk2]
        have hbl : s2.bs.length = p.blks.length := by rw [← HE.out]; simp [HM.out.len]
        have hgc := OwnB.cellAt HM.out.gone
        have xg := hgc.2.2.2.2.1 k hlt
        have HFG := Lib.hid hgc.2.2.2.2.2.1
        have lgg := hgc.2.2.2.2.2.2
        have xr := (HM.out.below.cell (p := ⟨gr, k, none⟩) (by simp only; have := HM.out.bl.2; omega)).trans (HRC.out k hlt)
        have HC := HM.out.cell hlt
        have lgb : gb < wr.heap.size := (own_lt HM.out.own rfl).2
        have lgrw : gr < wr.heap.size := World.block_lt_of_cell? wr _ xr
        obtain ⟨K, vk, hX⟩ : ∃ K vk, L2.getD k default = (K, vk) := ⟨_, _, rfl⟩
        unfold mgI at hst
        rw [← HK, hX] at hst
        rw [hX] at HC
        dsimp only at HC hst
        rw [hX] at HK
        dsimp only at HK
        have HX := Lib.hid hX
        have HKh := Lib.hid HK
        clear HK
        obtain ⟨c0, c1, c2, c3, c4⟩ := HC
        clear hX hgc
        cases hr : (reachP p).getD k false
        · rw [hr] at xr
          rw [if_pos hr] at hst
          have hO2 : Hid (mgO (reachP p) (ldP p) F (p.blks.length - (k + 1)) (k + 1) s2 = some sf) := by show _ = _; rw [Option.some.inj hst]; exact hO1.out
          clear hst hr
          go_wp2_with fail
          exact ⟨⟨k + 1, s2, L2, rfl, by omega, hO2, HM, HE⟩, by simp [intOf]; omega⟩
        · rw [hr] at xr
          rw [if_neg (by rw [hr]; simp)] at hst
          clear hr
          cases hgn : s2.gone.getD k false
          · rw [hgn] at xg
            rw [if_neg (by rw [hgn]; simp)] at hst
            clear hgn
            cases hf : (K.fin == 1)
            · rw [if_pos hf] at hst
              have hO2 : Hid (mgO (reachP p) (ldP p) F (p.blks.length - (k + 1)) (k + 1) s2 = some sf) := by show _ = _; rw [Option.some.inj hst]; exact hO1.out
              clear hst HKh
              go_wp2_with fail
              exact ⟨⟨k + 1, s2, L2, rfl, by omega, hO2, HM, HE⟩, by simp [intOf]; omega⟩
            · rw [if_neg (by rw [hf]; simp)] at hst
              cases hb : (decide (0 ≤ K.to) && decide (K.to < (s2.bs.length : Int)))
              · rw [if_pos hb] at hst
                cases hst
              · rw [if_neg (by rw [hb]; simp)] at hst
                have hb2 : 0 ≤ K.to ∧ K.to < (s2.bs.length : Int) := by simpa using hb
                obtain ⟨t, ht⟩ : ∃ t : Nat, K.to = (t : Int) := ⟨K.to.toNat, by omega⟩
                rw [ht] at hst c3 hb2
                rw [Int.toNat_natCast] at hst
                have htN : t < p.blks.length := by omega
                have Ht := Lib.hid ht
                clear hb hb2 ht
                have xl := (HM.out.below.cell (p := ⟨gl, t, none⟩) (by simp only; have := HM.out.bl.2; omega)).trans (HLC.out t htN)
                have lglw : gl < wr.heap.size := World.block_lt_of_cell? wr _ xl
                have b1 : (t : Int) < p.blks.length := by omega
                cases hn : ((t : Int) == (k : Int))
                · rw [if_neg (by rw [hn]; simp)] at hst
                  have hn2 : ((t : Int) != (k : Int)) = true := by simp [bne, hn]
                  have hn3 : t ≠ k := fun e => by rw [e] at hn; simp at hn
                  cases hz : ((t : Int) == 0)
                  · rw [if_neg (by rw [hz]; simp)] at hst
                    have hz2 : ((t : Int) != 0) = true := by simp [bne, hz]
                    generalize hld : (ldP p).getD t 0 = ld at *
                    clear hld
                    cases hl1 : (ld == 1)
                    · rw [if_pos hl1] at hst
                      have hO2 : Hid (mgO (reachP p) (ldP p) F (p.blks.length - (k + 1)) (k + 1) s2 = some sf) := by show _ = _; rw [Option.some.inj hst]; exact hO1.out
                      clear hst HKh
                      go_wp2_with fail
                      exact ⟨⟨k + 1, s2, L2, rfl, by omega, hO2, HM, HE⟩, by simp [intOf]; omega⟩
                    · rw [if_neg (by rw [hl1]; simp)] at hst
                      have hE : Ext w wr := Ext.below HM.out.ext
                      have htL : t < L2.length := by rw [HM.out.len]; exact htN
                      have hXt : (L2.getD t default).1 = s2.bs.getD t default := by rw [← HE.out]; simp [List.getD, htL]
                      have HT := HM.out.cell htN
                      have hik := HM.out.ins (L2.getD k default) (by simp [List.getD, hk2])
                      have hit := HM.out.ins (L2.getD t default) (by simp [List.getD, htL])
                      obtain ⟨X, vx, hX2⟩ : ∃ X vx, L2.getD t default = (X, vx) := ⟨_, _, rfl⟩
                      rw [← hXt, hX2] at hst
                      rw [HX.out] at hik
                      rw [hX2] at HT hXt hit
                      dsimp only at HT hst hXt hik hit
                      have HXt := Lib.hid hXt
                      have HX2 := Lib.hid hX2
                      clear hXt hX2
                      cases he1 : K.ins.isEmpty
                      · rw [if_neg (by rw [he1]; simp)] at hst
                        cases he2 : X.ins.isEmpty
                        · rw [if_neg (by rw [he2]; simp)] at hst
                          cases he3 : decide (K.ins.length + X.ins.length ≤ 1000000)
                          · rw [if_pos he3] at hst
                            cases hst
                          · rw [if_neg (by rw [he3]; simp)] at hst
                            have hst := Lib.hid hst
                            have hlen : K.ins.length + X.ins.length ≤ 1000000 := by simpa using he3
                            have HNK : Hid (K.ins ≠ []) := by intro e; rw [e] at he1; simp at he1
                            have HNX : Hid (X.ins ≠ []) := by intro e; rw [e] at he2; simp at he2
                            have hsk := hik.src HNK.out hE
                            have hsx := hit.src HNX.out hE
                            obtain ⟨adk, ck, -, rfl, -⟩ := hsk
                            obtain ⟨adx, cx, -, rfl, -⟩ := hsx
                            clear he1 he2 he3 hik hit
                            obtain ⟨d0, d1, d2, d3, d4⟩ := HT
                            have H0q := Lib.hid ((HM.out.below.block _ hwB).trans H0.out)
                            obtain ⟨y0, y1, y2, y3, y4, y5, lw6⟩ := cl6 H0q.out
                            go_wp2_with fail
                            refine wp_region_game (fun x => x = w.heap.size ∨ x = gb) (by kernel_rfl) ?_
                            show wpE _ _ _ _ _ _ _ wr.drew
                            refine E_mob2s [0, 1, 2, 3, 4, 5, 6, 7] _ _ _ _ (by kernel_rfl) ?_
                            simp only [List.map_cons, List.map_nil, List.getElem?_toArray, List.getElem?_cons_succ, List.getElem?_cons_zero, Option.getD_some, List.size_toArray, List.length_cons, List.length_nil, Nat.reduceAdd, Nat.reduceSub]
                            repeat (go_big_quiet_step (fail))
                            refine wpQuiet_nil ?_
                            refine E_loud1 8 _ rfl (by kernel_rfl) ?_
                            simp only [List.getElem_toArray, List.getElem_cons_succ, List.getElem_cons_zero]
                            go_wp2_with fail
                            refine ⟨keepBel (below_alloc _ _) (fun x hx => by rcases hx with rfl | rfl <;> simpa), ?_⟩
                            refine E_last 9 _ rfl (by kernel_rfl) ?_
                            simp only [List.getElem_toArray, List.getElem_cons_succ, List.getElem_cons_zero]
                            go_wp2_with fail
                            refine E_done (by kernel_rfl) ?_ _
                            obtain ⟨W7, hW7⟩ : ∃ W7, W7 = (wr.alloc (.cells #[.slice (some adx) X.ins.length cx, .int .i64 X.fin, .int .i64 X.a, .int .i64 X.to, .int .i64 X.els] 40)).drew := ⟨_, rfl⟩
                            have B7 : Below wr.heap.size wr W7 := by rw [hW7]; exact (below_alloc wr _).drew
                            have N7 : Hid (W7.heap[wr.heap.size]? = some (.cells #[.slice (some adx) X.ins.length cx, .int .i64 X.fin, .int .i64 X.a, .int .i64 X.to, .int .i64 X.els] 40 (0, 0))) := by rw [hW7]; exact heap_alloc_new wr _
                            rw [← hW7]
                            clear hW7
                            have M7 := Lib.hid (HM.out.grow B7)
                            have c3 := (B7.cell (p := ⟨gb, k * 5 + 3, none⟩) lgb).trans c3
                            have xt := (OwnB.cellAt M7.out.gone).2.2.2.2.1 t htN
                            have ft := (OwnB.cellAt M7.out.gone).2.2.2.2.2.1 t
                            have lnx : wr.heap.size < W7.heap.size := (Array.getElem?_eq_some_iff.1 N7.out).1
                            clear B7 y0 y1 y2 y3 y4 y5 c0 c1 c2 d0 d1 d2 d3 d4 xg xr xl HM H0q lw6
                            have lgb : gb < W7.heap.size := by omega
                            have lgg : gg < W7.heap.size := by omega
                            generalize wr.heap.size = nx at *
                            go_upto_region 12 with (fail)
                            have M8 := Lib.hid (M7.out.mark t true)
                            have N8 : Hid ((W7.setCell ⟨gg, t, none⟩ (.bool true)).heap[nx]? = _) := (heap_setCell_other W7 ⟨gg, t, none⟩ nx _ (by simp only; omega)).trans N7.out
                            have lgb : gb < (W7.setCell ⟨gg, t, none⟩ (.bool true)).heap.size := by simp; omega
                            have lnx : nx < (W7.setCell ⟨gg, t, none⟩ (.bool true)).heap.size := by simp; omega
                            clear M7 N7 xt ft c3
                            generalize W7.setCell ⟨gg, t, none⟩ (.bool true) = W8 at *
                            have C8 := M8.out.cell hlt
                            rw [HX.out] at C8
                            obtain ⟨c0, -, -, -, -⟩ := C8
                            have f0 := M8.out.fz (k * 5)
                            obtain ⟨z0, z1, z2, z3, z4, -⟩ := cl5 N8.out
                            refine wp_region_game (fun x => x = gb ∨ x = nx) (by kernel_rfl) ?_
                            show wpE _ _ _ _ _ _ _ W8.drew
                            refine E_mob2s [0, 1, 2, 3, 4, 5, 6] _ _ _ _ (by kernel_rfl) ?_
                            simp only [List.map_cons, List.map_nil, List.getElem?_toArray, List.getElem?_cons_succ, List.getElem?_cons_zero, Option.getD_some, List.size_toArray, List.length_cons, List.length_nil, Nat.reduceAdd, Nat.reduceSub]
                            repeat (go_big_quiet_step (fail))
                            refine wpQuiet_nil ?_
                            refine E_loud1 7 _ rfl (by kernel_rfl) ?_
                            simp only [List.getElem_toArray, List.getElem_cons_succ, List.getElem_cons_zero]
                            go_wp2_with fail
                            refine ⟨keepBel (below_alloc _ _) (fun x hx => by rcases hx with rfl | rfl <;> simpa), ?_⟩
                            have hmk8 : (L2.getD k default) ∈ L2 := by simp [List.getD, hk2]
                            have hmt8 : (L2.getD t default) ∈ L2 := by simp [List.getD, htL]
                            have ik8 := M8.out.ins _ hmk8
                            have it8 := M8.out.ins _ hmt8
                            rw [HX.out] at ik8
                            rw [HX2.out] at it8
                            have B9 : Below W8.heap.size W8 (W8.alloc (.cells #[.slice (some adk) K.ins.length ck, .slice (some adx) X.ins.length cx] 38)).drew := (below_alloc W8 _).drew
                            have SK9 := (ik8.src HNK.out (Ext.below M8.out.ext)).keep (Ext.below B9)
                            have SX9 := (it8.src HNX.out (Ext.below M8.out.ext)).keep (Ext.below B9)
                            have hgg9 : (W8.alloc (.cells #[.slice (some adk) K.ins.length ck, .slice (some adx) X.ins.length cx] 38)).drew.heap[W8.heap.size]? = some (.cells #[.slice (some adk) K.ins.length ck, .slice (some adx) X.ins.length cx] 38 (0, 0)) := heap_alloc_new W8 _
                            have HC9 : Hid (Calls Tryd.prog 86 #[.slice (some ⟨W8.heap.size, 0, none⟩) 2 2] (W8.alloc (.cells #[.slice (some adk) K.ins.length ck, .slice (some adx) X.ins.length cx] 38)).drew fun e w' => ∃ v', ∃ L : List (In × Value), e = .returned v' ∧ L.map Prod.fst = K.ins ++ X.ins ∧ w'.ownsRow (W8.alloc (.cells #[.slice (some adk) K.ins.length ck, .slice (some adx) X.ins.length cx] 38)).drew.heap.size 45 11 v' L.length (L.flatMap inCells) ∧ (∀ x ∈ L, RdI w x.2 x.1.args) ∧ Below (W8.alloc (.cells #[.slice (some adk) K.ins.length ck, .slice (some adx) X.ins.length cx] 38)).drew.heap.size (W8.alloc (.cells #[.slice (some adk) K.ins.length ck, .slice (some adx) X.ins.length cx] 38)).drew w') := concat_c _ _ K.ins X.ins W8.heap.size w _ hgg9 SK9 SX9 hlen
                            have HB9 := Lib.hid B9
                            clear ik8 it8 hmk8 hmt8 SK9 SX9 hgg9 B9
                            refine E_loud1 8 _ rfl (by kernel_rfl) ?_
                            simp only [List.getElem_toArray, List.getElem_cons_succ, List.getElem_cons_zero]
                            go_wp2_with fail
                            refine HC9.out.mono ?_
                            rintro e W10 ⟨v10, Lc, rfl, hLc, hoc, hac, hb10⟩
                            obtain ⟨ac, cc, rfl⟩ : ∃ ac cc, v10 = .slice ac Lc.length cc := own_slice hoc
                            have B10 : Below W8.heap.size W8 W10 := HB9.out.trans (hb10.mono HB9.out.size)
                            have IQ : InsQ w W10 (.slice ac Lc.length cc) (K.ins ++ X.ins) := .inr ⟨Lc, hLc, hac, ownBase hoc⟩
                            have HIQ := Lib.hid IQ
                            have HB10 := Lib.hid B10
                            go_wp2_with fail
                            refine ⟨keepBel hb10 (fun x hx => by have h8 := HB9.out.size; rcases hx with rfl | rfl <;> omega), ?_⟩
                            refine E_mob2s [9, 10] _ _ _ _ (by kernel_rfl) ?_
                            simp only [List.map_cons, List.map_nil, List.getElem?_toArray, List.getElem?_cons_succ, List.getElem?_cons_zero, Option.getD_some, List.size_toArray, List.length_cons, List.length_nil, Nat.reduceAdd, Nat.reduceSub]
                            repeat (go_big_quiet_step (fail))
                            refine wpQuiet_nil ?_
                            have M10 := Lib.hid (M8.out.grow B10)
                            have N10 : Hid (W10.heap[nx]? = _) := (B10.block nx lnx).trans N8.out
                            have lgb : gb < W10.heap.size := by have := B10.size; omega
                            have lnx : nx < W10.heap.size := by have := B10.size; omega
                            clear M8 N8 HB9 HC9 hb10 hoc hac B10 IQ z0 z1 z2 z3 z4 c0 f0
                            have C10 := M10.out.cell hlt
                            rw [HX.out] at C10
                            obtain ⟨c0, -, -, -, -⟩ := C10
                            have f0 := M10.out.fz (k * 5)
                            refine E_last 11 _ rfl (by kernel_rfl) ?_
                            simp only [List.getElem_toArray, List.getElem_cons_succ, List.getElem_cons_zero]
                            go_wp2_with fail
                            refine E_done (by kernel_rfl) ?_ _
                            go_upto_region 13 with (fail)
                            have M11 : Hid (MgM w W6 (W10.setCell ⟨gb, k * 5, none⟩ (.slice ac Lc.length cc)) gg gb gg p.blks.length c5 (L2.set k (⟨K.ins ++ X.ins, K.fin, K.a, K.to, K.els⟩, .slice ac Lc.length cc)) (s2.gone.set t true)) :=
                              M10.out.put hk2 0 (by decide) (.slice ac Lc.length cc) (⟨K.ins ++ X.ins, K.fin, K.a, K.to, K.els⟩, .slice ac Lc.length cc) (by rw [HX.out]; rfl) HIQ.out
                            have N11 : Hid ((W10.setCell ⟨gb, k * 5, none⟩ (.slice ac Lc.length cc)).heap[nx]? = _) := (heap_setCell_other W10 ⟨gb, k * 5, none⟩ nx _ (by simp only; omega)).trans N10.out
                            have lgb : gb < (W10.setCell ⟨gb, k * 5, none⟩ (.slice ac Lc.length cc)).heap.size := by simp; omega
                            have hnb : gb ≠ nx := by omega
                            clear M10 N10 c0 f0 HIQ HB10
                            generalize W10.setCell ⟨gb, k * 5, none⟩ (.slice ac Lc.length cc) = W11 at *
                            have C11 := M11.out.cell hlt
                            have e11 : (L2.set k (⟨K.ins ++ X.ins, K.fin, K.a, K.to, K.els⟩, .slice ac Lc.length cc)).getD k default = ((⟨K.ins ++ X.ins, K.fin, K.a, K.to, K.els⟩ : Bk), Value.slice ac Lc.length cc) := by simp [List.getD, hk2]
                            rw [e11] at C11
                            clear e11
                            obtain ⟨-, c1, c2, c3, c4⟩ := C11
                            dsimp only at c1 c2 c3 c4
                            have f1 := M11.out.fz (k * 5 + 1)
                            have f2 := M11.out.fz (k * 5 + 2)
                            have f3 := M11.out.fz (k * 5 + 3)
                            have f4 := M11.out.fz (k * 5 + 4)
                            obtain ⟨z0, z1, z2, z3, z4, lnx⟩ := cl5 N11.out
                            have hnb2 : nx ≠ gb := fun e => hnb e.symm
                            have hKS : Hid (∀ x : Nat, x = nx → x ≠ gb) := fun x hx => by rw [hx]; exact hnb2
                            refine wp_region_game (fun x => x = nx) (by kernel_rfl) ?_
                            show wpE _ _ _ _ _ _ _ W11.drew
                            refine E_mob2s [0, 1, 2, 3, 4, 5, 6, 7, 8, 9, 10, 11, 12, 13] _ _ _ _ (by kernel_rfl) ?_
                            simp only [List.map_cons, List.map_nil, List.getElem?_toArray, List.getElem?_cons_succ, List.getElem?_cons_zero, Option.getD_some, List.size_toArray, List.length_cons, List.length_nil, Nat.reduceAdd, Nat.reduceSub]
                            repeat (go_big_quiet_step (fail))
                            refine wpQuiet_nil ?_
                            refine E_loud1 14 _ rfl (by kernel_rfl) ?_
                            simp only [List.getElem_toArray, List.getElem_cons_succ, List.getElem_cons_zero]
                            go_wp2_with fail
                            refine ⟨keepSet hKS.out, ?_⟩
                            refine E_mob2s [15, 16] _ _ _ _ (by kernel_rfl) ?_
                            simp only [List.map_cons, List.map_nil, List.getElem?_toArray, List.getElem?_cons_succ, List.getElem?_cons_zero, Option.getD_some, List.size_toArray, List.length_cons, List.length_nil, Nat.reduceAdd, Nat.reduceSub]
                            repeat (go_big_quiet_step (fail))
                            refine wpQuiet_nil ?_
                            refine E_loud1 17 _ rfl (by kernel_rfl) ?_
                            simp only [List.getElem_toArray, List.getElem_cons_succ, List.getElem_cons_zero]
                            go_wp2_with fail
                            refine ⟨keepSet hKS.out, ?_⟩
                            refine E_mob2s [18, 19] _ _ _ _ (by kernel_rfl) ?_
                            simp only [List.map_cons, List.map_nil, List.getElem?_toArray, List.getElem?_cons_succ, List.getElem?_cons_zero, Option.getD_some, List.size_toArray, List.length_cons, List.length_nil, Nat.reduceAdd, Nat.reduceSub]
                            repeat (go_big_quiet_step (fail))
                            refine wpQuiet_nil ?_
                            refine E_loud1 20 _ rfl (by kernel_rfl) ?_
                            simp only [List.getElem_toArray, List.getElem_cons_succ, List.getElem_cons_zero]
                            go_wp2_with fail
                            refine ⟨keepSet hKS.out, ?_⟩
                            refine E_mob2s [21, 22] _ _ _ _ (by kernel_rfl) ?_
                            simp only [List.map_cons, List.map_nil, List.getElem?_toArray, List.getElem?_cons_succ, List.getElem?_cons_zero, Option.getD_some, List.size_toArray, List.length_cons, List.length_nil, Nat.reduceAdd, Nat.reduceSub]
                            repeat (go_big_quiet_step (fail))
                            refine wpQuiet_nil ?_
                            refine E_last 23 _ rfl (by kernel_rfl) ?_
                            simp only [List.getElem_toArray, List.getElem_cons_succ, List.getElem_cons_zero]
                            go_wp2_with fail
                            refine E_done (by kernel_rfl) ?_ _
                            have M15 : Hid (MgM w W6 ((((W11.setCell ⟨gb, k * 5 + 1, none⟩ (.int .i64 X.fin)).setCell ⟨gb, k * 5 + 2, none⟩ (.int .i64 X.a)).setCell ⟨gb, k * 5 + 3, none⟩ (.int .i64 X.to)).setCell ⟨gb, k * 5 + 4, none⟩ (.int .i64 X.els)).drew gg gb gg p.blks.length c5 (L2.set k (mgB K X, .slice ac Lc.length cc)) (s2.gone.set t true)) :=
                              ((((M11.out.put3 hk2 1 (by decide) (.int .i64 X.fin) (⟨K.ins ++ X.ins, X.fin, K.a, K.to, K.els⟩, .slice ac Lc.length cc) rfl rfl rfl).put3 hk2 2 (by decide) (.int .i64 X.a) (⟨K.ins ++ X.ins, X.fin, X.a, K.to, K.els⟩, .slice ac Lc.length cc) rfl rfl rfl).put3 hk2 3 (by decide) (.int .i64 X.to) (⟨K.ins ++ X.ins, X.fin, X.a, X.to, K.els⟩, .slice ac Lc.length cc) rfl rfl rfl).put3 hk2 4 (by decide) (.int .i64 X.els) (mgB K X, .slice ac Lc.length cc) rfl rfl rfl).grow (Below.refl _ _).drew
                            have hE15 : Hid ((L2.set k (mgB K X, .slice ac Lc.length cc)).map Prod.fst = (mgS s2 k t).bs) := by
                              show _ = s2.bs.set k (mgB (s2.bs.getD k default) (s2.bs.getD t default))
                              rw [List.map_set, HE.out, ← HKh.out, ← HXt.out]
                            generalize ((((W11.setCell ⟨gb, k * 5 + 1, none⟩ (.int .i64 X.fin)).setCell ⟨gb, k * 5 + 2, none⟩ (.int .i64 X.a)).setCell ⟨gb, k * 5 + 3, none⟩ (.int .i64 X.to)).setCell ⟨gb, k * 5 + 4, none⟩ (.int .i64 X.els)).drew = W15 at *
                            go_wp2_with fail
                            go_roundg f
                            case rel => exact ⟨f, mgS s2 k t, L2.set k (mgB K X, .slice ac Lc.length cc), rfl, hst, M15, hE15⟩
                            case measure => rw [Hm.out]; omega
                        · rw [if_pos he2] at hst
                          cases hst
                      · rw [if_pos he1] at hst
                        cases hst
                  · rw [if_pos hz] at hst
                    have hz2 : ((t : Int) != 0) = false := by simp [bne, hz]
                    have hO2 : Hid (mgO (reachP p) (ldP p) F (p.blks.length - (k + 1)) (k + 1) s2 = some sf) := by show _ = _; rw [Option.some.inj hst]; exact hO1.out
                    clear hst HKh
                    go_wp2_with fail
                    exact ⟨⟨k + 1, s2, L2, rfl, by omega, hO2, HM, HE⟩, by simp [intOf]; omega⟩
                · rw [if_pos hn] at hst
                  have hn2 : ((t : Int) != (k : Int)) = false := by simp [bne, hn]
                  have hO2 : Hid (mgO (reachP p) (ldP p) F (p.blks.length - (k + 1)) (k + 1) s2 = some sf) := by show _ = _; rw [Option.some.inj hst]; exact hO1.out
                  clear hst HKh
                  go_wp2_with fail
                  exact ⟨⟨k + 1, s2, L2, rfl, by omega, hO2, HM, HE⟩, by simp [intOf]; omega⟩
          · rw [hgn] at xg
            rw [if_pos hgn] at hst
            have hO2 : Hid (mgO (reachP p) (ldP p) F (p.blks.length - (k + 1)) (k + 1) s2 = some sf) := by show _ = _; rw [Option.some.inj hst]; exact hO1.out
            clear hst hgn
            go_wp2_with fail
            exact ⟨⟨k + 1, s2, L2, rfl, by omega, hO2, HM, HE⟩, by simp [intOf]; omega⟩
    · obtain rfl : k = p.blks.length := by omega
      have g1 : decide ((p.blks.length : Int) < (p.blks.length : Int)) = false := decide_eq_false (by omega)
      have g2 : decide (p.blks.length < p.blks.length) = false := decide_eq_false (by omega)
      have hfin := hO.out
      rw [Nat.sub_self] at hfin
      have hfe : Hid (s = sf) := Option.some.inj hfin
      clear hfin hO
      obtain ⟨y0, y1, y2, y3, y4, y5, l6⟩ := cl6 H0q.out
      obtain ⟨z0, z1, z2, z3, z4, z5, l7⟩ := cl6 H1q.out
      have zf := Lib.frozen_of_heap H1q.out
      have zf0 := zf 0
      have zf1 := zf 1
      have zf2 := zf 2
      have zf3 := zf 3
      have zf4 := zf 4
      have zf5 := zf 5
      clear zf
      go_wp2_with fail
      obtain ⟨hrd, hbf⟩ := HM.out.fin (b := w.heap.size + 1) hwB1 (by omega) H1q.out (.string nm) (.bool p.void) (.int .i64 p.params) (.int .i64 p.regs) (.slice ao p.objs.length co) (.slice (some ⟨gb, 0, none⟩) p.blks.length c5)
      rw [HE.out, hfe.out] at hrd
      rw [hqe.out]
      exact bodyPost_ret (v := .agg #[.string nm, .bool p.void, .int .i64 p.params, .int .i64 p.regs, .slice ao p.objs.length co, .slice (some ⟨gb, 0, none⟩) p.blks.length c5]) (by simp [results, Tryd.results66, go_sem, z0, z1, z2, z3, z4, z5, l7]) rfl ⟨_, rfl, ⟨nm, _, _, rfl, HO.out.ext (Ext.below hbf), hrd⟩, hbf⟩
end Go.Proofs.YtnnhobbabcfogaaDoor
