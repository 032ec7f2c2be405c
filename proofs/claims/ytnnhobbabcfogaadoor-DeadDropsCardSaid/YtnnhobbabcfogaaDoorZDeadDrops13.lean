/-
 Contract of the reference's Live.
-/
import Derived.Test.YtnnhobbabcfogaaDoorZDeadDrops12
set_option linter.all false
namespace Go.Proofs.YtnnhobbabcfogaaDoor
open Go.ChangeShapes Go.WideShapes Go.ChangeAt Go.RowKit
set_option maxHeartbeats 2000000
set_option maxRecDepth 20000

theorem rlive_c (p : Pr) (V : Value) (n k0 : Nat) (r : Int) (w : World) (hP : PrV w V p) (hlen : p.blks.length ≤ 1000) (hin : ∀ k, k < p.blks.length → (p.blks.getD k default).ins.length ≤ 1000)
  (harg : ∀ k, k < p.blks.length → ∀ j, j < (p.blks.getD k default).ins.length → ((p.blks.getD k default).ins.getD j default).args.length ≤ 1000) (hn : n < p.blks.length) (hk0 : k0 ≤ (p.blks.getD n default).ins.length) :
  Calls Tryd.prog 77 #[V, .int .i64 (n : Int), .int .i64 (k0 : Int), .int .i64 r] w fun e w' => e = .returned (.bool (liveP p n k0 r)) ∧ Below w.heap.size w w' := by
 have EO : Hid (∀ (k : Nat) w', Ext w w' → k < p.blks.length → Calls Tryd.prog 88 #[V, .int .i64 (k : Int)] w' (RetI w' (outsP p k))) := fun k w' hb hk =>
  routsP_c p V k w' (hP.ext hb) hk (by omega)
 obtain ⟨nm, vo, vb, rfl, -, a, c, rfl, hc1, hc2, hcell⟩ := hP
 have EW : Hid (∀ (k k0 : Nat) w', Ext w w' → k < p.blks.length → k0 ≤ (p.blks.getD k default).ins.length → ∀ vi, RdIns w vi (p.blks.getD k default).ins →
   Calls Tryd.prog 100 #[.agg #[vi, .int .i64 (p.blks.getD k default).fin, .int .i64 (p.blks.getD k default).a, .int .i64 (p.blks.getD k default).to, .int .i64 (p.blks.getD k default).els], .int .i64 (k0 : Int), .int .i64 r] w' fun e w'' => e = .returned (.int .i64 (withinB (p.blks.getD k default) k0 r)) ∧ Below w'.heap.size w' w'') :=
  fun k k0 w' he hk hk0 vi hvi => rwithin_c _ _ k0 r w' ⟨vi, rfl, hvi.ext he⟩ hk0 (Nat.le_trans (hin k hk) (by decide)) (harg k hk)
 have hC : Hid (∀ k, k < p.blks.length → ∃ b o, a = some ⟨b, o, none⟩ ∧ b < w.heap.size ∧ ∃ vi, RdIns w vi (p.blks.getD k default).ins ∧ w.cell? ⟨b, o + k * 5, none⟩ = some vi ∧ w.cell? ⟨b, o + k * 5 + 1, none⟩ = some (.int .i64 (p.blks.getD k default).fin) ∧ w.cell? ⟨b, o + k * 5 + 2, none⟩ = some (.int .i64 (p.blks.getD k default).a) ∧
   w.cell? ⟨b, o + k * 5 + 3, none⟩ = some (.int .i64 (p.blks.getD k default).to) ∧ w.cell? ⟨b, o + k * 5 + 4, none⟩ = some (.int .i64 (p.blks.getD k default).els)) := fun k hk => by
  obtain ⟨b, o, e, ⟨vi, c0, hvi⟩, c1, c2, c3, c4⟩ := hcell k hk
  simp only [Nat.add_zero] at c0
  exact ⟨b, o, e, World.block_lt_of_cell? w _ c0, vi, hvi, c0, c1, c2, c3, c4⟩
 clear hcell
 obtain ⟨b, o, rfl, hbw, vi, hvi, c0, c1, c2, c3, c4⟩ := hC.out n hn
 have EWn : Hid (∀ w', Ext w w' → Calls Tryd.prog 100 #[.agg #[vi, .int .i64 (p.blks.getD n default).fin, .int .i64 (p.blks.getD n default).a, .int .i64 (p.blks.getD n default).to, .int .i64 (p.blks.getD n default).els], .int .i64 (k0 : Int), .int .i64 r] w' fun e w'' => e = .returned (.int .i64 (withinB (p.blks.getD n default) k0 r)) ∧ Below w'.heap.size w' w'') := fun w' he => EW.out n k0 w' he hn hk0 vi hvi
 have HL : Hid (liveP p n k0 r = if 0 < withinB (p.blks.getD n default) k0 r then decide (withinB (p.blks.getD n default) k0 r = 1) else lvQ p r (2 + 3 * p.blks.length) (List.replicate p.blks.length false) (outsP p n)) := rfl
 generalize withinB (p.blks.getD n default) k0 r = x0 at *
 generalize hBK : p.blks.getD n default = BK at c1 c2 c3 c4 EWn
 clear hBK hvi
 go_enter Tryd.func77, Tryd.ntmps77
 by_cases hx : 0 < x0
 ·have HL2 : Hid (liveP p n k0 r = decide (x0 = 1)) := HL.out.trans (if_pos hx)
  clear HL EW EO hC
  go_wp2_with (go_at_call 100; refine (EWn.out _ (Ext.alloc w _)).mono ?_; rintro e w1 ⟨rfl, hb1⟩)
  go_ret
  exact ⟨ret_b (by rw [HL2.out]; rfl), (below_alloc w _).trans (hb1.mono (by simp))⟩
 ·have HL2 : Hid (liveP p n k0 r = lvQ p r (2 + 3 * p.blks.length) (List.replicate p.blks.length false) (outsP p n)) := HL.out.trans (if_neg hx)
  have hx' : decide (0 < x0) = false := decide_eq_false hx
  have hmk := run_make_row' (P := Tryd.prog) 74 4 (.bool false) 1 Tryd.underlying74 info_bool rfl .i64 .i64 p.blks.length (by omega) (by omega)
  clear HL
  have HX : Hid (∀ w', Below (w.heap.size + 1) (w.alloc (.cells #[.string nm, .bool p.void, .int .i64 p.params, .int .i64 p.regs, vo, .slice (some ⟨b, o, none⟩) p.blks.length c] 37)) w' → ∀ j, j < 6 → w'.cell? ⟨w.heap.size, j, none⟩ = #[Value.string nm, .bool p.void, .int .i64 p.params, .int .i64 p.regs, vo, .slice (some ⟨b, o, none⟩) p.blks.length c][j]?) :=
   fun w' hb j hj => (hb.cell (p := ⟨w.heap.size, j, none⟩) (Nat.lt_succ_self _)).trans (cell_of_heap (heap_alloc_new w _) j)
  have HE : Hid (∀ w', Below (w.heap.size + 1) (w.alloc (.cells #[.string nm, .bool p.void, .int .i64 p.params, .int .i64 p.regs, vo, .slice (some ⟨b, o, none⟩) p.blks.length c] 37)) w' → Ext w w') := fun w' hb => (Ext.alloc w _).trans (Ext.below (hb.mono (by simp)))
  have hs0 : (w.alloc (.cells #[.string nm, .bool p.void, .int .i64 p.params, .int .i64 p.regs, vo, .slice (some ⟨b, o, none⟩) p.blks.length c] 37)).heap.size = w.heap.size + 1 := by simp
  obtain ⟨W0, hW0⟩ : ∃ W0, W0 = w.alloc (.cells #[.string nm, .bool p.void, .int .i64 p.params, .int .i64 p.regs, vo, .slice (some ⟨b, o, none⟩) p.blks.length c] 37) := ⟨_, rfl⟩
  have hW0' := Lib.hid hW0
  clear hW0
  rw [← hW0'.out] at HX HE hs0
  go_wp2_with (first | (go_at_call 100; refine (EWn.out _ (Ext.alloc w _)).mono ?_; rintro e w1 ⟨rfl, hb1⟩; rw [← hW0'.out] at hb1; have hB1 := Lib.hid (hb1.mono (Nat.le_of_eq hs0.symm)); clear hb1; have y0 := HX.out _ hB1.out 0 (by decide); have y1 := HX.out _ hB1.out 1 (by decide); have y2 := HX.out _ hB1.out 2 (by decide); have y3 := HX.out _ hB1.out 3 (by decide); have y4 := HX.out _ hB1.out 4 (by decide); have y5 := HX.out _ hB1.out 5 (by decide); simp at y0 y1 y2 y3 y4 y5; have hz1 : w.heap.size < w1.heap.size := by have := hB1.out.size; omega))
  have hBm : Hid (Below (w.heap.size + 1) W0 (w1.alloc (.cells (madeCells #[.bool false] p.blks.length) 4))) := hB1.out.alloc (by omega) _
  refine (EO.out n _ (HE.out _ hBm.out) hn).mono ?_
  rintro e w2 ⟨v2, rfl, ho2, hb2⟩
  have LQ0 : Hid (LQ W0 w2 w1.heap.size (w1.heap.size + 1) p.blks.length (List.replicate p.blks.length false) v2 (outsP p n)) := by
   refine ⟨?_, (madeB w1 p.blks.length (by unfold maxLen; omega)).below hb2, by simpa using ho2, by omega, Nat.lt_succ_self _, by have := hb2.size; simpa using this⟩
   rw [hs0]
   exact hBm.out.trans (hb2.mono (by simp; omega))
  clear hBm hb2 ho2 hB1 y0 y1 y2 y3 y4 y5 hmk c0 c1 c2 c3 c4 EWn hz1
  have LV0 := Lib.hid (LvQ.start p r n)
  have HR := HL2
  generalize lvQ p r (2 + 3 * p.blks.length) (List.replicate p.blks.length false) (outsP p n) = R at LV0 HR
  generalize w1.heap.size = gs at LQ0 ⊢
  generalize outsP p n = q0 at LQ0 LV0
  go_wp2_with fail
  go_loopg [11, 12] (2 + 3 * p.blks.length) (fun m tv i wr => ∃ (k : Nat) (todo : List Int) (seen : List Bool), i = .int .i64 (k : Int) ∧ Hid (LvQ p r R m seen todo k) ∧ Hid (LQ W0 wr gs (gs + 1) p.blks.length seen tv todo))
  case atStart => exact ⟨0, _, _, rfl, LV0, LQ0⟩
  case round =>
   clear LV0 LQ0
   obtain ⟨k, todo, seen, rfl, I, M⟩ := hrel
   obtain ⟨ad, cp, rfl, ht1, ht2, ht3⟩ := OwnI.rd M.out.own
   have hroom : todo.length ≤ 10000 := by have := I.out.room; omega
   by_cases hlt : k < todo.length
   ·obtain ⟨b3, o3, rfl, hc3⟩ := ht3 k hlt
    simp only [Nat.mul_one, Nat.add_zero] at hc3
    obtain ⟨f', -, htk, -⟩ := I.out.cons hlt
    have I1 := I.out.old hlt
    have I2 := I.out.yes hlt
    have I3 := I.out.more hlt
    have I4 := I.out.stop hlt
    generalize todo.getD k 0 = t at *
    obtain ⟨tk, rfl⟩ := Int.eq_ofNat_of_zero_le htk.1
    have htk' : tk < p.blks.length := by omega
    rw [Int.toNat_natCast] at I1 I2 I3 I4
    obtain ⟨-, -, -, -, hcells, hfr, hgs⟩ := OwnB.cellAt M.out.row
    have hcs := hcells tk htk'
    have hfs := hfr tk
    clear hcells hfr ht3
    cases hs : seen.getD tk false
    ·rw [hs] at hcs
     clear I1
     have hBr : Hid (Below (w.heap.size + 1) W0 wr) := by have := M.out.below; rwa [hs0] at this
     have HEr := Lib.hid (HE.out wr hBr.out)
     obtain ⟨b', o', e', hb', vi', hvi', d0, d1, d2, d3, d4⟩ := hC.out tk htk'
     simp only [Option.some.injEq, Addr.mk.injEq] at e'
     obtain ⟨rfl, rfl, -⟩ := e'
     replace d0 := HEr.out _ _ d0
     replace d1 := HEr.out _ _ d1
     replace d2 := HEr.out _ _ d2
     replace d3 := HEr.out _ _ d3
     replace d4 := HEr.out _ _ d4
     have M1 := Lib.hid (M.out.set tk)
     have hg0 := M.out.g0
     have hg1 : w.heap.size ≠ gs := by omega
     have hg2 : b ≠ gs := by omega
     have hg3 : b3 ≠ gs := by have := (OwnI.rf M.out.own).2 _ _ _ rfl; simp only at this; omega
     have y0 := HX.out wr hBr.out 0 (by decide)
     have y1 := HX.out wr hBr.out 1 (by decide)
     have y2 := HX.out wr hBr.out 2 (by decide)
     have y3 := HX.out wr hBr.out 3 (by decide)
     have y4 := HX.out wr hBr.out 4 (by decide)
     have y5 := HX.out wr hBr.out 5 (by decide)
     simp at y0 y1 y2 y3 y4 y5
     have EWt : Hid (∀ w', Below (w.heap.size + 1) W0 w' → Calls Tryd.prog 100 #[.agg #[vi', .int .i64 (p.blks.getD tk default).fin, .int .i64 (p.blks.getD tk default).a, .int .i64 (p.blks.getD tk default).to, .int .i64 (p.blks.getD tk default).els], .int .i64 0, .int .i64 r] w' fun e w'' => e = .returned (.int .i64 (withinB (p.blks.getD tk default) 0 r)) ∧ Below w'.heap.size w' w'') := fun w' he => EW.out tk 0 w' (HE.out w' he) htk' (Nat.zero_le _) vi' hvi'
     have hB1 : Hid (Below (w.heap.size + 1) W0 (wr.setCell ⟨gs, tk, none⟩ (.bool true))) := by have := M1.out.below; rwa [hs0] at this
     have hzz : Hid (w.heap.size + 1 ≤ wr.heap.size) := by have := M.out.Bw; show _ ≤ _; omega
     have I2 := I2 hs
     have I3 := I3 hs
     have I4 := I4 hs
     generalize withinB (p.blks.getD tk default) 0 r = x at I2 I3 I4 EWt
     generalize p.blks.getD tk default = BK at d1 d2 d3 d4 EWt
     clear hs hvi' M
     by_cases hx1 : x = 1
     ·subst hx1
      have HF : Hid (R = true) := I2 rfl
      clear I2 I3 I4
      go_wp2_with (go_at_call 100; refine (EWt.out _ hB1.out).mono ?_; rintro e w4 ⟨rfl, hb4⟩; have hb4 := Lib.hid hb4)
      go_ret
      refine ⟨ret_b (by rw [HR.out, HF.out]), ?_⟩
      have h0 : Below w.heap.size w W0 := by rw [hW0'.out]; exact below_alloc w _
      exact (h0.trans (hB1.out.mono (by omega))).trans (hb4.out.mono (by simp; have := hzz.out; omega))
     ·have hx1' : (x == 1) = false := beq_eq_false_iff_ne.2 hx1
      by_cases hx0 : x = 0
      ·subst hx0
       obtain ⟨f1, hf1, J⟩ := I3 rfl
       have J := Lib.hid J
       clear I2 I3 I4
       have hs4 : w.heap.size + 1 ≤ wr.heap.size := hzz.out
       go_wp2_with (go_at_call 100; refine (EWt.out _ hB1.out).mono ?_; rintro e w4 ⟨rfl, hb4⟩; have M2 := Lib.hid (M1.out.grow hb4); have hB4 : Hid (Below (w.heap.size + 1) W0 w4) := hB1.out.trans (hb4.mono (by simp; omega)); clear hb4; have z0 := HX.out w4 hB4.out 0 (by decide); have z1 := HX.out w4 hB4.out 1 (by decide); have z2 := HX.out w4 hB4.out 2 (by decide); have z3 := HX.out w4 hB4.out 3 (by decide); have z4 := HX.out w4 hB4.out 4 (by decide); have z5 := HX.out w4 hB4.out 5 (by decide); simp at z0 z1 z2 z3 z4 z5)
       refine (EO.out tk _ (HE.out _ hB4.out) htk').mono ?_
       rintro e w5 ⟨v5, rfl, ho5, hb5⟩
       have M3 := Lib.hid (M2.out.grow hb5)
       have HA5 := Lib.hid (M2.out.outs ho5.rf)
       obtain ⟨a5, c5, rfl, hl5, hm5, -⟩ := ho5.rd
       have hL2 := outsP_len p tk
       clear M1 M2 ho5 hb5 z0 z1 z2 z3 z4 z5 y0 y1 y2 y3 y4 y5 d0 d1 d2 d3 d4 hc3 hcs hfs
       generalize outsP p tk = L at *
       generalize seen.set tk true = seen' at *
       go_wp2_with fail
       go_loopw [11, 16] (fun tv' i wy => ∃ j : Nat, j ≤ L.length ∧ i = .int .i64 (j : Int) ∧ Hid (LQ W0 wy gs (gs + 1) p.blks.length seen' tv' (todo ++ L.take j)) ∧ Hid (OutsAt wy (gs + 1) tv' (.slice none 0 0) (.slice none 0 0) (.slice a5 L.length c5) L)) (fun _ i _ => L.length - (intOf i).toNat)
       case atStart => exact ⟨0, Nat.zero_le _, rfl, by rw [List.take_zero, List.append_nil]; exact M3, HA5⟩
       case round =>
        clear M3 HA5
        obtain ⟨j, hj, rfl, M4, HA⟩ := hrel
        by_cases hjl : j < L.length
        ·obtain ⟨a6, c6, e6, -, -, hcell6⟩ := id HA.out
         simp only [Value.slice.injEq] at e6
         obtain ⟨rfl, -, rfl⟩ := e6
         obtain ⟨b6, o6, rfl, -, -, -, -, hc6⟩ := hcell6 j hjl
         have HT := Lib.hid (take_snoc L j hjl)
         have hll : Hid ((todo ++ L.take j).length ≤ 1000000000) := by show _ ≤ _; simp; omega
         have hb6 := World.block_lt_of_cell? _ _ hc6
         clear hcell6
         generalize L.getD j 0 = x at *
         have M5 := Lib.hid (M4.out.grow (below_alloc wr (.cells #[.int .i64 x] 3)))
         have HA2 := Lib.hid (HA.out.kept (World.grownBy_alloc wr (.cells #[.int .i64 x] 3) none) (fun b e => by cases e) (.refl _ _) (.refl _ _) (.refl _ _))
         go_wp2_with (at_builtin; refine appI (n := x) M5.out.own rfl rfl rfl rfl (by simp) hll.out M5.out.Bw ?_; intro v7 w7 h7 hg7 ha7)
         have M6 := Lib.hid (M5.out.app hg7 h7)
         have HA3 := Lib.hid (HA2.out.kept hg7 (fun b e => .inl e) (row_or ha7) (.refl _ _) (.refl _ _))
         clear h7 hg7 ha7 M5 HA2
         go_roundw
         case rel => exact ⟨j + 1, by omega, by go_num, by rw [HT.out, ← List.append_assoc]; exact M6, HA3⟩
         case measure => simp [intOf]; omega
        ·obtain rfl : j = L.length := by omega
         rw [List.take_length] at M4
         go_wp2_with fail
         go_roundg f1
         case rel => exact ⟨k + 1, _, seen', by go_num, J, M4⟩
         case measure => exact hf1
      ·have hx0' : (x == 0) = false := beq_eq_false_iff_ne.2 hx0
       obtain ⟨f1, hf1, J⟩ := I4 hx1 hx0
       have J := Lib.hid J
       clear I2 I3 I4
       go_wp2_with (go_at_call 100; refine (EWt.out _ hB1.out).mono ?_; rintro e w4 ⟨rfl, hb4⟩; have M2 := Lib.hid (M1.out.grow hb4); clear hb4)
       go_roundg f1
       case rel => exact ⟨k + 1, todo, seen.set tk true, by go_num, J, M2⟩
       case measure => exact hf1
    ·rw [hs] at hcs
     obtain ⟨f1, hf1, J⟩ := I1 hs
     have J := Lib.hid J
     clear I1 I2 I3 I4 hs
     go_wp2_with fail
     go_roundg f1
     case rel => exact ⟨k + 1, todo, seen, by go_num, J, M⟩
     case measure => exact hf1
   ·have HF : Hid (R = false) := I.out.done hlt
    have HB : Hid (Below w.heap.size w wr) := by
     have := M.out.below
     rw [hs0] at this
     have h0 : Below w.heap.size w W0 := by rw [hW0'.out]; exact below_alloc w _
     exact h0.trans (this.mono (by omega))
    clear ht3
    go_wp2_with fail
    go_ret
    exact ⟨ret_b (by rw [HR.out, HF.out]), HB.out⟩
end Go.Proofs.YtnnhobbabcfogaaDoor
