/-
 The walk of flow.Live.
-/
import Derived.Test.YtchoiankeohonaaGreatDoorZInlineAll28
import Derived.Deep.CutRange
import Derived.Deep.Cut
import Derived.Deep.CutBlock
set_option linter.all false
namespace Go.Proofs.YtchoiankeohonaaGreatDoor
open Go.ChangeShapes Go.WideShapes Go.ChangeAt Go.RowKit
set_option maxHeartbeats 4000000
set_option maxRecDepth 20000

/-- what Live hands back: the tables behind the last marking, which found nothing new -/
def LivePost (p : Pr) (w : World) (e : Ending) (w' : World) : Prop := ∃ (k : Nat) (vi vo : Value) (gi go : Nat → Nat), e = .returned (.tuple #[vi, vo]) ∧ (lvN p k).grew = false ∧ LvMem w p.blks.length (regsN p) vi vo gi go (lvN p k).li (lvN p k).lo w'
theorem live_c (p : Pr) (V : Value) (w : World) (hv : PrV w V p) (hlen : p.blks.length ≤ 1000) (hins : ∀ n, n < p.blks.length → (p.blks.getD n default).ins.length ≤ 1000 ∧ ∀ k, k < (p.blks.getD n default).ins.length → ((p.blks.getD n default).ins.getD k default).args.length ≤ 1000) (hreg : p.regs ≤ 10000) (hreg' : I64 p.regs) :
  Calls Tryz.prog 54 #[V] w (LivePost p w) := by
 have HP := Lib.hid hv
 have HI := Lib.hid hins
 clear hins
 obtain ⟨nm, vo, vb, rfl, hvo, ad, c, rfl, hc1, hc2, hcell⟩ := hv
 unfold I64 at hreg'
 have HC := Lib.hid hcell
 clear hcell
 go_enter Tryz.func54, Tryz.ntmps54
 go_upto_region 1 with (fail)
 go_cut [4] from 14 to 16 (fun v wx => v = .int .i64 (regsN p : Int) ∧ wx = w.alloc (.cells #[.string nm, .bool p.void, .int .i64 p.params, .int .i64 p.regs, vo, .slice ad p.blks.length c] 35))
 case first =>
  go_wp2
  all_goals
   go_meet
   case rel => exact ⟨by unfold regsN; go_num, rfl⟩
 case rest =>
  obtain ⟨rfl, rfl⟩ := hcut
  have hR : regsN p ≤ 10000 := by unfold regsN; omega
  obtain ⟨R, hRe⟩ : ∃ R, regsN p = R := ⟨_, rfl⟩
  have HRe := Lib.hid hRe
  rw [hRe] at hR ⊢
  clear hRe
  obtain ⟨W0, hW0⟩ : ∃ W0, W0 = w.alloc (.cells #[.string nm, .bool p.void, .int .i64 p.params, .int .i64 p.regs, vo, .slice ad p.blks.length c] 35) := ⟨_, rfl⟩
  have q5 : W0.cell? ⟨w.heap.size, 5, none⟩ = some (.slice ad p.blks.length c) := by rw [hW0, cell_of_heap (heap_alloc_new w _)]; rfl
  have HQ : Hid (∀ j : Nat, j < 6 → W0.cell? ⟨w.heap.size, j, none⟩ = #[Value.string nm, .bool p.void, .int .i64 p.params, .int .i64 p.regs, vo, .slice ad p.blks.length c][j]?) := fun j _ => by rw [hW0]; exact cell_of_heap (heap_alloc_new w _) j
  have hz : w.heap.size < W0.heap.size := by rw [hW0]; simp
  have HX : Hid (Ext w W0) := by rw [hW0]; exact Ext.alloc w _
  have HB : Hid (Below w.heap.size w W0) := by rw [hW0]; exact below_alloc w _
  rw [← hW0]
  clear hW0
  have hmk := run_make_row' (P := Tryz.prog) 113 4 (.bool false) 1 Tryz.underlying113 info_bool rfl .i64 .i64 R (by omega) (by omega)
  go_upto_block 0 with (fail)
  go_cut [2, 3] from 20 to 32 (fun vi vo wx => ∃ gi go : Nat → Nat, LvMem W0 p.blks.length R vi vo gi go (List.replicate p.blks.length (List.replicate R false)) (List.replicate p.blks.length (List.replicate R false)) wx)
  case first =>
   go_wp2_with fail
   go_loopw [2, 3, 20] (fun vi vo i wr => ∃ (k : Nat) (gi go : Nat → Nat), k ≤ p.blks.length ∧ i = .int .i64 k ∧ Hid (LvMem W0 k R vi vo gi go (List.replicate k (List.replicate R false)) (List.replicate k (List.replicate R false)) wr) ∧ Hid (k = 0 → vo = .slice none 0 0))
    (fun _ _ i _ => p.blks.length - (intOf i).toNat)
   case atStart => exact ⟨0, fun _ => 0, fun _ => 0, Nat.zero_le _, rfl, ⟨Below.refl _ _, World.ownsRow_nil _ _ _ _, World.ownsRow_nil _ _ _ _, fun k hk => by omega, fun k hk => by omega, fun k hk => by omega, fun k hk => by omega, fun j k hj => by omega, fun j k hj => by omega, fun j k hj => by omega⟩, fun _ => rfl⟩
   case round =>
    obtain ⟨k, gi, go, hk, rfl, M, hn0⟩ := hrel
    by_cases hlt : k < p.blks.length
    ·have hap : Hid (Apart2 u3 ((List.range k).map fun k => rowV (gi k) R R) ((List.range k).map fun k => rowV (go k) R R)) := by
      by_cases h0 : k = 0
      ·exact .inl ⟨by rw [h0]; rfl, hn0.out h0⟩
      ·obtain ⟨k', rfl⟩ : ∃ k', k = k' + 1 := ⟨k - 1, by omega⟩
       refine .inr ⟨rowV (gi 0) R R, rowV (go 0) R R, (List.range k').map fun k => rowV (gi (k + 1)) R R, (List.range k').map fun k => rowV (go (k + 1)) R R, by simp [List.range_succ_eq_map, Function.comp_def], by simp [List.range_succ_eq_map, Function.comp_def], fun e => ?_⟩
       simp only [rowV, Value.slice.injEq, Option.some.injEq, Addr.mk.injEq] at e
       exact M.out.dX 0 0 (by omega) (by omega) e.1.1
     go_upto_block 1 with (fail)
     go_cut [2, 3] from 22 to 31 (fun vi' vo' w' => ∃ gA gB, TwoEnd wr W0.heap.size u2 u3 ((List.range k).map fun k => rowV (gi k) R R) ((List.range k).map fun k => rowV (go k) R R) R w' vi' vo' gA gB)
     case first =>
      have hT := TwoSt.start (R := R) M.out.tabI M.out.tabO undef undef undef undef undef
      go_wp2_with fail
      refine wp_region_game (fun _ => False) (by kernel_rfl) ?_
      show wpE _ _ _ _ _ _ _ wr.drew
      generalize wr.drew = w0 at hT ⊢
      refine E_mob 0 _ rfl (by kernel_rfl) ?_
      simp only [List.getElem_toArray, List.getElem_cons_succ, List.getElem_cons_zero]
      go_big_quiet_step (fail)
      refine wpQuiet_nil ?_
      refine E_mob 1 _ rfl (by kernel_rfl) ?_
      simp only [List.getElem_toArray, List.getElem_cons_succ, List.getElem_cons_zero]
      go_big_quiet_step (fail)
      refine wpQuiet_nil ?_
      refine E_mob 5 _ rfl (by kernel_rfl) ?_
      simp only [List.getElem_toArray, List.getElem_cons_succ, List.getElem_cons_zero]
      go_big_quiet_step (fail)
      refine wpQuiet_nil ?_
      refine E_mob 6 _ rfl (by kernel_rfl) ?_
      simp only [List.getElem_toArray, List.getElem_cons_succ, List.getElem_cons_zero]
      go_big_quiet_step (fail)
      refine wpQuiet_nil ?_
      refine E_loud2 2 7 _ _ rfl rfl (by kernel_rfl) ?_ ?_
      ·simp only [List.getElem_toArray, List.getElem_cons_succ, List.getElem_cons_zero]
       go_wp2_with fail
       refine ⟨fun _ _ h => h.elim, ?_⟩
       replace hT := hT.makeA (by unfold maxLen; omega) undef
       generalize World.alloc w0 _ = w1 at hT ⊢
       refine E_loud2 3 7 _ _ rfl rfl (by kernel_rfl) ?_ ?_
       ·simp only [List.getElem_toArray, List.getElem_cons_succ, List.getElem_cons_zero]
        go_wp2_with fail
        refine ⟨fun _ _ h => h.elim, ?_⟩
        replace hT := hT.boxA (k := w1.heap.size) rfl
        generalize World.alloc w1 _ = w2 at hT ⊢
        refine E_loud2 4 7 _ _ rfl rfl (by kernel_rfl) ?_ ?_
        ·simp only [List.getElem_toArray, List.getElem_cons_succ, List.getElem_cons_zero]
         obtain ⟨hca, hoa, hta⟩ := hT.useA
         refine appT hta rfl rfl rfl rfl hca hoa (by simp; omega) (Nat.le_trans M.out.below.size hT.size) ?_
         intro vA w3 htA hgA
         go_wp2_with fail
         refine ⟨fun _ _ h => h.elim, ?_⟩
         replace hT := hT.appA hap.out htA hgA
         clear hca hoa hta htA hgA
         refine E_loud1 7 _ rfl (by kernel_rfl) ?_
         simp only [List.getElem_toArray, List.getElem_cons_succ, List.getElem_cons_zero]
         go_wp2_with fail
         refine ⟨fun _ _ h => h.elim, ?_⟩
         replace hT := hT.makeB (by unfold maxLen; omega) undef
         generalize World.alloc w3 _ = w4 at hT ⊢
         refine E_loud1 8 _ rfl (by kernel_rfl) ?_
         simp only [List.getElem_toArray, List.getElem_cons_succ, List.getElem_cons_zero]
         go_wp2_with fail
         refine ⟨fun _ _ h => h.elim, ?_⟩
         replace hT := hT.boxB (k := w4.heap.size) rfl
         generalize World.alloc w4 _ = w5 at hT ⊢
         refine E_loud1 9 _ rfl (by kernel_rfl) ?_
         simp only [List.getElem_toArray, List.getElem_cons_succ, List.getElem_cons_zero]
         obtain ⟨hcb, hob⟩ := hT.useB
         refine appT hT.tabO rfl rfl rfl rfl hcb hob (by simp; omega) (Nat.le_trans M.out.below.size hT.size) ?_
         intro vB w6 htB hgB
         go_wp2_with fail
         refine ⟨fun _ _ h => h.elim, ?_⟩
         have hE := hT.appB hap.out htB hgB
         clear hcb hob htB hgB hT
         refine E_mob 10 _ rfl (by kernel_rfl) ?_
         simp only [List.getElem_toArray, List.getElem_cons_succ, List.getElem_cons_zero]
         go_big_quiet_step (fail)
         refine wpQuiet_nil ?_
         refine E_mob 11 _ rfl (by kernel_rfl) ?_
         simp only [List.getElem_toArray, List.getElem_cons_succ, List.getElem_cons_zero]
         go_big_quiet_step (fail)
         refine wpQuiet_nil ?_
         refine E_done (by kernel_rfl) ?_ _
         (go_wp2_with fail; go_meet; exact hE)
        ·simp only [List.getElem_toArray, List.getElem_cons_succ, List.getElem_cons_zero]
         go_wp2_with fail
         refine ⟨fun _ _ h => h.elim, ?_⟩
         replace hT := hT.makeB (by unfold maxLen; omega) undef
         generalize World.alloc w2 _ = w7 at hT ⊢
         refine E_loud2 4 8 _ _ rfl rfl (by kernel_rfl) ?_ ?_
         ·simp only [List.getElem_toArray, List.getElem_cons_succ, List.getElem_cons_zero]
          obtain ⟨hca, hoa, hta⟩ := hT.useA
          refine appT hta rfl rfl rfl rfl hca hoa (by simp; omega) (Nat.le_trans M.out.below.size hT.size) ?_
          intro vA w8 htA hgA
          go_wp2_with fail
          refine ⟨fun _ _ h => h.elim, ?_⟩
          replace hT := hT.appA hap.out htA hgA
          clear hca hoa hta htA hgA
          refine E_loud1 8 _ rfl (by kernel_rfl) ?_
          simp only [List.getElem_toArray, List.getElem_cons_succ, List.getElem_cons_zero]
          go_wp2_with fail
          refine ⟨fun _ _ h => h.elim, ?_⟩
          replace hT := hT.boxB (k := w8.heap.size) rfl
          generalize World.alloc w8 _ = w9 at hT ⊢
          refine E_loud1 9 _ rfl (by kernel_rfl) ?_
          simp only [List.getElem_toArray, List.getElem_cons_succ, List.getElem_cons_zero]
          obtain ⟨hcb, hob⟩ := hT.useB
          refine appT hT.tabO rfl rfl rfl rfl hcb hob (by simp; omega) (Nat.le_trans M.out.below.size hT.size) ?_
          intro vB w10 htB hgB
          go_wp2_with fail
          refine ⟨fun _ _ h => h.elim, ?_⟩
          have hE := hT.appB hap.out htB hgB
          clear hcb hob htB hgB hT
          refine E_mob 10 _ rfl (by kernel_rfl) ?_
          simp only [List.getElem_toArray, List.getElem_cons_succ, List.getElem_cons_zero]
          go_big_quiet_step (fail)
          refine wpQuiet_nil ?_
          refine E_mob 11 _ rfl (by kernel_rfl) ?_
          simp only [List.getElem_toArray, List.getElem_cons_succ, List.getElem_cons_zero]
          go_big_quiet_step (fail)
          refine wpQuiet_nil ?_
          refine E_done (by kernel_rfl) ?_ _
          (go_wp2_with fail; go_meet; exact hE)
         ·simp only [List.getElem_toArray, List.getElem_cons_succ, List.getElem_cons_zero]
          go_wp2_with fail
          refine ⟨fun _ _ h => h.elim, ?_⟩
          replace hT := hT.boxB (k := w7.heap.size) rfl
          generalize World.alloc w7 _ = w11 at hT ⊢
          refine E_loud1 4 _ rfl (by kernel_rfl) ?_
          simp only [List.getElem_toArray, List.getElem_cons_succ, List.getElem_cons_zero]
          obtain ⟨hca, hoa, hta⟩ := hT.useA
          refine appT hta rfl rfl rfl rfl hca hoa (by simp; omega) (Nat.le_trans M.out.below.size hT.size) ?_
          intro vA w12 htA hgA
          go_wp2_with fail
          refine ⟨fun _ _ h => h.elim, ?_⟩
          replace hT := hT.appA hap.out htA hgA
          clear hca hoa hta htA hgA
          refine E_loud1 9 _ rfl (by kernel_rfl) ?_
          simp only [List.getElem_toArray, List.getElem_cons_succ, List.getElem_cons_zero]
          obtain ⟨hcb, hob⟩ := hT.useB
          refine appT hT.tabO rfl rfl rfl rfl hcb hob (by simp; omega) (Nat.le_trans M.out.below.size hT.size) ?_
          intro vB w13 htB hgB
          go_wp2_with fail
          refine ⟨fun _ _ h => h.elim, ?_⟩
          have hE := hT.appB hap.out htB hgB
          clear hcb hob htB hgB hT
          refine E_mob 10 _ rfl (by kernel_rfl) ?_
          simp only [List.getElem_toArray, List.getElem_cons_succ, List.getElem_cons_zero]
          go_big_quiet_step (fail)
          refine wpQuiet_nil ?_
          refine E_mob 11 _ rfl (by kernel_rfl) ?_
          simp only [List.getElem_toArray, List.getElem_cons_succ, List.getElem_cons_zero]
          go_big_quiet_step (fail)
          refine wpQuiet_nil ?_
          refine E_done (by kernel_rfl) ?_ _
          (go_wp2_with fail; go_meet; exact hE)
       ·simp only [List.getElem_toArray, List.getElem_cons_succ, List.getElem_cons_zero]
        go_wp2_with fail
        refine ⟨fun _ _ h => h.elim, ?_⟩
        replace hT := hT.makeB (by unfold maxLen; omega) undef
        generalize World.alloc w1 _ = w14 at hT ⊢
        refine E_loud2 3 8 _ _ rfl rfl (by kernel_rfl) ?_ ?_
        ·simp only [List.getElem_toArray, List.getElem_cons_succ, List.getElem_cons_zero]
         go_wp2_with fail
         refine ⟨fun _ _ h => h.elim, ?_⟩
         replace hT := hT.boxA (k := w14.heap.size) rfl
         generalize World.alloc w14 _ = w15 at hT ⊢
         refine E_loud2 4 8 _ _ rfl rfl (by kernel_rfl) ?_ ?_
         ·simp only [List.getElem_toArray, List.getElem_cons_succ, List.getElem_cons_zero]
          obtain ⟨hca, hoa, hta⟩ := hT.useA
          refine appT hta rfl rfl rfl rfl hca hoa (by simp; omega) (Nat.le_trans M.out.below.size hT.size) ?_
          intro vA w16 htA hgA
          go_wp2_with fail
          refine ⟨fun _ _ h => h.elim, ?_⟩
          replace hT := hT.appA hap.out htA hgA
          clear hca hoa hta htA hgA
          refine E_loud1 8 _ rfl (by kernel_rfl) ?_
          simp only [List.getElem_toArray, List.getElem_cons_succ, List.getElem_cons_zero]
          go_wp2_with fail
          refine ⟨fun _ _ h => h.elim, ?_⟩
          replace hT := hT.boxB (k := w16.heap.size) rfl
          generalize World.alloc w16 _ = w17 at hT ⊢
          refine E_loud1 9 _ rfl (by kernel_rfl) ?_
          simp only [List.getElem_toArray, List.getElem_cons_succ, List.getElem_cons_zero]
          obtain ⟨hcb, hob⟩ := hT.useB
          refine appT hT.tabO rfl rfl rfl rfl hcb hob (by simp; omega) (Nat.le_trans M.out.below.size hT.size) ?_
          intro vB w18 htB hgB
          go_wp2_with fail
          refine ⟨fun _ _ h => h.elim, ?_⟩
          have hE := hT.appB hap.out htB hgB
          clear hcb hob htB hgB hT
          refine E_mob 10 _ rfl (by kernel_rfl) ?_
          simp only [List.getElem_toArray, List.getElem_cons_succ, List.getElem_cons_zero]
          go_big_quiet_step (fail)
          refine wpQuiet_nil ?_
          refine E_mob 11 _ rfl (by kernel_rfl) ?_
          simp only [List.getElem_toArray, List.getElem_cons_succ, List.getElem_cons_zero]
          go_big_quiet_step (fail)
          refine wpQuiet_nil ?_
          refine E_done (by kernel_rfl) ?_ _
          (go_wp2_with fail; go_meet; exact hE)
         ·simp only [List.getElem_toArray, List.getElem_cons_succ, List.getElem_cons_zero]
          go_wp2_with fail
          refine ⟨fun _ _ h => h.elim, ?_⟩
          replace hT := hT.boxB (k := w15.heap.size) rfl
          generalize World.alloc w15 _ = w19 at hT ⊢
          refine E_loud1 4 _ rfl (by kernel_rfl) ?_
          simp only [List.getElem_toArray, List.getElem_cons_succ, List.getElem_cons_zero]
          obtain ⟨hca, hoa, hta⟩ := hT.useA
          refine appT hta rfl rfl rfl rfl hca hoa (by simp; omega) (Nat.le_trans M.out.below.size hT.size) ?_
          intro vA w20 htA hgA
          go_wp2_with fail
          refine ⟨fun _ _ h => h.elim, ?_⟩
          replace hT := hT.appA hap.out htA hgA
          clear hca hoa hta htA hgA
          refine E_loud1 9 _ rfl (by kernel_rfl) ?_
          simp only [List.getElem_toArray, List.getElem_cons_succ, List.getElem_cons_zero]
          obtain ⟨hcb, hob⟩ := hT.useB
          refine appT hT.tabO rfl rfl rfl rfl hcb hob (by simp; omega) (Nat.le_trans M.out.below.size hT.size) ?_
          intro vB w21 htB hgB
          go_wp2_with fail
          refine ⟨fun _ _ h => h.elim, ?_⟩
          have hE := hT.appB hap.out htB hgB
          clear hcb hob htB hgB hT
          refine E_mob 10 _ rfl (by kernel_rfl) ?_
          simp only [List.getElem_toArray, List.getElem_cons_succ, List.getElem_cons_zero]
          go_big_quiet_step (fail)
          refine wpQuiet_nil ?_
          refine E_mob 11 _ rfl (by kernel_rfl) ?_
          simp only [List.getElem_toArray, List.getElem_cons_succ, List.getElem_cons_zero]
          go_big_quiet_step (fail)
          refine wpQuiet_nil ?_
          refine E_done (by kernel_rfl) ?_ _
          (go_wp2_with fail; go_meet; exact hE)
        ·simp only [List.getElem_toArray, List.getElem_cons_succ, List.getElem_cons_zero]
         go_wp2_with fail
         refine ⟨fun _ _ h => h.elim, ?_⟩
         replace hT := hT.boxB (k := w14.heap.size) rfl
         generalize World.alloc w14 _ = w22 at hT ⊢
         refine E_loud1 3 _ rfl (by kernel_rfl) ?_
         simp only [List.getElem_toArray, List.getElem_cons_succ, List.getElem_cons_zero]
         go_wp2_with fail
         refine ⟨fun _ _ h => h.elim, ?_⟩
         replace hT := hT.boxA (k := w22.heap.size) rfl
         generalize World.alloc w22 _ = w23 at hT ⊢
         refine E_loud1 4 _ rfl (by kernel_rfl) ?_
         simp only [List.getElem_toArray, List.getElem_cons_succ, List.getElem_cons_zero]
         obtain ⟨hca, hoa, hta⟩ := hT.useA
         refine appT hta rfl rfl rfl rfl hca hoa (by simp; omega) (Nat.le_trans M.out.below.size hT.size) ?_
         intro vA w24 htA hgA
         go_wp2_with fail
         refine ⟨fun _ _ h => h.elim, ?_⟩
         replace hT := hT.appA hap.out htA hgA
         clear hca hoa hta htA hgA
         refine E_loud1 9 _ rfl (by kernel_rfl) ?_
         simp only [List.getElem_toArray, List.getElem_cons_succ, List.getElem_cons_zero]
         obtain ⟨hcb, hob⟩ := hT.useB
         refine appT hT.tabO rfl rfl rfl rfl hcb hob (by simp; omega) (Nat.le_trans M.out.below.size hT.size) ?_
         intro vB w25 htB hgB
         go_wp2_with fail
         refine ⟨fun _ _ h => h.elim, ?_⟩
         have hE := hT.appB hap.out htB hgB
         clear hcb hob htB hgB hT
         refine E_mob 10 _ rfl (by kernel_rfl) ?_
         simp only [List.getElem_toArray, List.getElem_cons_succ, List.getElem_cons_zero]
         go_big_quiet_step (fail)
         refine wpQuiet_nil ?_
         refine E_mob 11 _ rfl (by kernel_rfl) ?_
         simp only [List.getElem_toArray, List.getElem_cons_succ, List.getElem_cons_zero]
         go_big_quiet_step (fail)
         refine wpQuiet_nil ?_
         refine E_done (by kernel_rfl) ?_ _
         (go_wp2_with fail; go_meet; exact hE)
      ·simp only [List.getElem_toArray, List.getElem_cons_succ, List.getElem_cons_zero]
       go_wp2_with fail
       refine ⟨fun _ _ h => h.elim, ?_⟩
       replace hT := hT.makeB (by unfold maxLen; omega) undef
       generalize World.alloc w0 _ = w26 at hT ⊢
       refine E_loud2 2 8 _ _ rfl rfl (by kernel_rfl) ?_ ?_
       ·simp only [List.getElem_toArray, List.getElem_cons_succ, List.getElem_cons_zero]
        go_wp2_with fail
        refine ⟨fun _ _ h => h.elim, ?_⟩
        replace hT := hT.makeA (by unfold maxLen; omega) undef
        generalize World.alloc w26 _ = w27 at hT ⊢
        refine E_loud2 3 8 _ _ rfl rfl (by kernel_rfl) ?_ ?_
        ·simp only [List.getElem_toArray, List.getElem_cons_succ, List.getElem_cons_zero]
         go_wp2_with fail
         refine ⟨fun _ _ h => h.elim, ?_⟩
         replace hT := hT.boxA (k := w27.heap.size) rfl
         generalize World.alloc w27 _ = w28 at hT ⊢
         refine E_loud2 4 8 _ _ rfl rfl (by kernel_rfl) ?_ ?_
         ·simp only [List.getElem_toArray, List.getElem_cons_succ, List.getElem_cons_zero]
          obtain ⟨hca, hoa, hta⟩ := hT.useA
          refine appT hta rfl rfl rfl rfl hca hoa (by simp; omega) (Nat.le_trans M.out.below.size hT.size) ?_
          intro vA w29 htA hgA
          go_wp2_with fail
          refine ⟨fun _ _ h => h.elim, ?_⟩
          replace hT := hT.appA hap.out htA hgA
          clear hca hoa hta htA hgA
          refine E_loud1 8 _ rfl (by kernel_rfl) ?_
          simp only [List.getElem_toArray, List.getElem_cons_succ, List.getElem_cons_zero]
          go_wp2_with fail
          refine ⟨fun _ _ h => h.elim, ?_⟩
          replace hT := hT.boxB (k := w29.heap.size) rfl
          generalize World.alloc w29 _ = w30 at hT ⊢
          refine E_loud1 9 _ rfl (by kernel_rfl) ?_
          simp only [List.getElem_toArray, List.getElem_cons_succ, List.getElem_cons_zero]
          obtain ⟨hcb, hob⟩ := hT.useB
          refine appT hT.tabO rfl rfl rfl rfl hcb hob (by simp; omega) (Nat.le_trans M.out.below.size hT.size) ?_
          intro vB w31 htB hgB
          go_wp2_with fail
          refine ⟨fun _ _ h => h.elim, ?_⟩
          have hE := hT.appB hap.out htB hgB
          clear hcb hob htB hgB hT
          refine E_mob 10 _ rfl (by kernel_rfl) ?_
          simp only [List.getElem_toArray, List.getElem_cons_succ, List.getElem_cons_zero]
          go_big_quiet_step (fail)
          refine wpQuiet_nil ?_
          refine E_mob 11 _ rfl (by kernel_rfl) ?_
          simp only [List.getElem_toArray, List.getElem_cons_succ, List.getElem_cons_zero]
          go_big_quiet_step (fail)
          refine wpQuiet_nil ?_
          refine E_done (by kernel_rfl) ?_ _
          (go_wp2_with fail; go_meet; exact hE)
         ·simp only [List.getElem_toArray, List.getElem_cons_succ, List.getElem_cons_zero]
          go_wp2_with fail
          refine ⟨fun _ _ h => h.elim, ?_⟩
          replace hT := hT.boxB (k := w28.heap.size) rfl
          generalize World.alloc w28 _ = w32 at hT ⊢
          refine E_loud1 4 _ rfl (by kernel_rfl) ?_
          simp only [List.getElem_toArray, List.getElem_cons_succ, List.getElem_cons_zero]
          obtain ⟨hca, hoa, hta⟩ := hT.useA
          refine appT hta rfl rfl rfl rfl hca hoa (by simp; omega) (Nat.le_trans M.out.below.size hT.size) ?_
          intro vA w33 htA hgA
          go_wp2_with fail
          refine ⟨fun _ _ h => h.elim, ?_⟩
          replace hT := hT.appA hap.out htA hgA
          clear hca hoa hta htA hgA
          refine E_loud1 9 _ rfl (by kernel_rfl) ?_
          simp only [List.getElem_toArray, List.getElem_cons_succ, List.getElem_cons_zero]
          obtain ⟨hcb, hob⟩ := hT.useB
          refine appT hT.tabO rfl rfl rfl rfl hcb hob (by simp; omega) (Nat.le_trans M.out.below.size hT.size) ?_
          intro vB w34 htB hgB
          go_wp2_with fail
          refine ⟨fun _ _ h => h.elim, ?_⟩
          have hE := hT.appB hap.out htB hgB
          clear hcb hob htB hgB hT
          refine E_mob 10 _ rfl (by kernel_rfl) ?_
          simp only [List.getElem_toArray, List.getElem_cons_succ, List.getElem_cons_zero]
          go_big_quiet_step (fail)
          refine wpQuiet_nil ?_
          refine E_mob 11 _ rfl (by kernel_rfl) ?_
          simp only [List.getElem_toArray, List.getElem_cons_succ, List.getElem_cons_zero]
          go_big_quiet_step (fail)
          refine wpQuiet_nil ?_
          refine E_done (by kernel_rfl) ?_ _
          (go_wp2_with fail; go_meet; exact hE)
        ·simp only [List.getElem_toArray, List.getElem_cons_succ, List.getElem_cons_zero]
         go_wp2_with fail
         refine ⟨fun _ _ h => h.elim, ?_⟩
         replace hT := hT.boxB (k := w27.heap.size) rfl
         generalize World.alloc w27 _ = w35 at hT ⊢
         refine E_loud1 3 _ rfl (by kernel_rfl) ?_
         simp only [List.getElem_toArray, List.getElem_cons_succ, List.getElem_cons_zero]
         go_wp2_with fail
         refine ⟨fun _ _ h => h.elim, ?_⟩
         replace hT := hT.boxA (k := w35.heap.size) rfl
         generalize World.alloc w35 _ = w36 at hT ⊢
         refine E_loud1 4 _ rfl (by kernel_rfl) ?_
         simp only [List.getElem_toArray, List.getElem_cons_succ, List.getElem_cons_zero]
         obtain ⟨hca, hoa, hta⟩ := hT.useA
         refine appT hta rfl rfl rfl rfl hca hoa (by simp; omega) (Nat.le_trans M.out.below.size hT.size) ?_
         intro vA w37 htA hgA
         go_wp2_with fail
         refine ⟨fun _ _ h => h.elim, ?_⟩
         replace hT := hT.appA hap.out htA hgA
         clear hca hoa hta htA hgA
         refine E_loud1 9 _ rfl (by kernel_rfl) ?_
         simp only [List.getElem_toArray, List.getElem_cons_succ, List.getElem_cons_zero]
         obtain ⟨hcb, hob⟩ := hT.useB
         refine appT hT.tabO rfl rfl rfl rfl hcb hob (by simp; omega) (Nat.le_trans M.out.below.size hT.size) ?_
         intro vB w38 htB hgB
         go_wp2_with fail
         refine ⟨fun _ _ h => h.elim, ?_⟩
         have hE := hT.appB hap.out htB hgB
         clear hcb hob htB hgB hT
         refine E_mob 10 _ rfl (by kernel_rfl) ?_
         simp only [List.getElem_toArray, List.getElem_cons_succ, List.getElem_cons_zero]
         go_big_quiet_step (fail)
         refine wpQuiet_nil ?_
         refine E_mob 11 _ rfl (by kernel_rfl) ?_
         simp only [List.getElem_toArray, List.getElem_cons_succ, List.getElem_cons_zero]
         go_big_quiet_step (fail)
         refine wpQuiet_nil ?_
         refine E_done (by kernel_rfl) ?_ _
         (go_wp2_with fail; go_meet; exact hE)
       ·simp only [List.getElem_toArray, List.getElem_cons_succ, List.getElem_cons_zero]
        go_wp2_with fail
        refine ⟨fun _ _ h => h.elim, ?_⟩
        replace hT := hT.boxB (k := w26.heap.size) rfl
        generalize World.alloc w26 _ = w39 at hT ⊢
        refine E_loud1 2 _ rfl (by kernel_rfl) ?_
        simp only [List.getElem_toArray, List.getElem_cons_succ, List.getElem_cons_zero]
        go_wp2_with fail
        refine ⟨fun _ _ h => h.elim, ?_⟩
        replace hT := hT.makeA (by unfold maxLen; omega) undef
        generalize World.alloc w39 _ = w40 at hT ⊢
        refine E_loud1 3 _ rfl (by kernel_rfl) ?_
        simp only [List.getElem_toArray, List.getElem_cons_succ, List.getElem_cons_zero]
        go_wp2_with fail
        refine ⟨fun _ _ h => h.elim, ?_⟩
        replace hT := hT.boxA (k := w40.heap.size) rfl
        generalize World.alloc w40 _ = w41 at hT ⊢
        refine E_loud1 4 _ rfl (by kernel_rfl) ?_
        simp only [List.getElem_toArray, List.getElem_cons_succ, List.getElem_cons_zero]
        obtain ⟨hca, hoa, hta⟩ := hT.useA
        refine appT hta rfl rfl rfl rfl hca hoa (by simp; omega) (Nat.le_trans M.out.below.size hT.size) ?_
        intro vA w42 htA hgA
        go_wp2_with fail
        refine ⟨fun _ _ h => h.elim, ?_⟩
        replace hT := hT.appA hap.out htA hgA
        clear hca hoa hta htA hgA
        refine E_loud1 9 _ rfl (by kernel_rfl) ?_
        simp only [List.getElem_toArray, List.getElem_cons_succ, List.getElem_cons_zero]
        obtain ⟨hcb, hob⟩ := hT.useB
        refine appT hT.tabO rfl rfl rfl rfl hcb hob (by simp; omega) (Nat.le_trans M.out.below.size hT.size) ?_
        intro vB w43 htB hgB
        go_wp2_with fail
        refine ⟨fun _ _ h => h.elim, ?_⟩
        have hE := hT.appB hap.out htB hgB
        clear hcb hob htB hgB hT
        refine E_mob 10 _ rfl (by kernel_rfl) ?_
        simp only [List.getElem_toArray, List.getElem_cons_succ, List.getElem_cons_zero]
        go_big_quiet_step (fail)
        refine wpQuiet_nil ?_
        refine E_mob 11 _ rfl (by kernel_rfl) ?_
        simp only [List.getElem_toArray, List.getElem_cons_succ, List.getElem_cons_zero]
        go_big_quiet_step (fail)
        refine wpQuiet_nil ?_
        refine E_done (by kernel_rfl) ?_ _
        (go_wp2_with fail; go_meet; exact hE)
     case rest =>
      obtain ⟨gA, gB, E⟩ := hcut
      have M' := Lib.hid (M.out.push E rfl)
      clear E M hap
      go_wp2
      go_roundw
      case rel => exact ⟨k + 1, _, _, by omega, by go_num, M', fun h => by omega⟩
      case measure => first | (simp [intOf]; done) | (simp [intOf]; omega)
    ·obtain rfl : k = p.blks.length := by omega
     go_wp2_with fail
     go_meet
     case rel => exact ⟨gi, go, M.out⟩
  case rest =>
   obtain ⟨gi, go, M⟩ := hcut
   have M : Hid (LvMem W0 p.blks.length R u2 u3 gi go (tab0 p) (tabE p 0) wc) := by rw [tabE_0]; show LvMem _ _ _ _ _ _ _ (tab0 p) (tab0 p) _; unfold tab0; rw [HRe.out]; exact M
   have q5c : wc.cell? ⟨w.heap.size, 5, none⟩ = some (.slice ad p.blks.length c) := (M.out.below.cell (p := ⟨w.heap.size, 5, none⟩) hz).trans q5
   have HW0 : Hid (w.heap.size < wc.heap.size) := Nat.lt_of_lt_of_le hz M.out.below.size
   go_upto_block 2 with (fail)
   go_cut [36] from 33 to 47 (fun _ wx => LvMem W0 p.blks.length R u2 u3 gi go (tab0 p) (tabE p p.blks.length) wx)
   case first =>
    go_wp2_with fail
    go_loopw [36] (fun i wr => ∃ k : Nat, k ≤ p.blks.length ∧ i = .int .i64 k ∧ Hid (LvMem W0 p.blks.length R u2 u3 gi go (tab0 p) (tabE p k) wr)) (fun i _ => p.blks.length - (intOf i).toNat)
    case atStart => exact ⟨0, Nat.zero_le _, rfl, M⟩
    case round =>
     obtain ⟨k, hk, rfl, Mk⟩ := hrel
     by_cases hlt : k < p.blks.length
     ·obtain ⟨b, o, rfl, ⟨vi, c0, hvi⟩, c1, c2, c3, c4⟩ := HC.out k hlt
      have hX := HX.out.trans (Ext.below Mk.out.below)
      obtain ⟨ai, ci, rfl, -, -, -⟩ := id hvi
      replace c0 := hX _ _ c0
      replace c1 := hX _ _ c1
      replace c2 := hX _ _ c2
      replace c3 := hX _ _ c3
      replace c4 := hX _ _ c4
      replace hvi := Lib.hid (hvi.ext hX)
      simp only [Nat.add_zero] at c0
      have hbw : b < wr.heap.size := World.block_lt_of_cell? wr _ c0
      obtain ⟨t, cap, rfl, ht1, ht2, htc⟩ := Mk.out.atO hlt
      have htk := htc k hlt
      have htne : t ≠ go k := fun e => tab_ne_row Mk.out.tabO (Mk.out.rowO k hlt) (by simp [Value.ownBlock, e])
      have hgk : go k < wr.heap.size := (OwnB.cellAt (Mk.out.rowO k hlt)).2.2.2.2.2.2
      have htw : t < wr.heap.size := World.block_lt_of_cell? wr _ htk
      have hRow : Hid (RowB wr (go k) R R (List.replicate R false)) := by have := Mk.out.rowO k hlt; rw [tabE_get p k hlt, HRe.out] at this; exact this
      have hTE := Lib.hid (tabE_succ p k hlt)
      unfold rowV at htk
      clear htc hX
      generalize p.blks.getD k default = BK at *
      go_wp2_with fail
      obtain ⟨wq, hwq⟩ : ∃ wq, wq = (wr.alloc (.cells #[.slice ai BK.ins.length ci, .int .i64 BK.fin, .int .i64 BK.a, .int .i64 BK.to, .int .i64 BK.els] 51)).drew := ⟨_, rfl⟩
      have hbq : Below wr.heap.size wr wq := by rw [hwq]; exact (below_alloc _ _).drew
      have hbox : ∀ j : Nat, j < 5 → wq.cell? ⟨wr.heap.size, j, none⟩ = #[Value.slice ai BK.ins.length ci, .int .i64 BK.fin, .int .i64 BK.a, .int .i64 BK.to, .int .i64 BK.els][j]? := fun j _ => by rw [hwq]; exact cell_of_heap (heap_alloc_new wr _) j
      have hzq : wr.heap.size < wq.heap.size := by rw [hwq]; simp [World.drew]
      refine wp_region_game (fun b => b ≠ go k ∧ b < wq.heap.size) (by kernel_rfl) ?_
      show wpE _ _ _ _ _ _ _ (World.drew _)
      rw [← hwq]
      clear hwq
      have x0 := hbox 0 (by decide)
      have x1 := hbox 1 (by decide)
      have x2 := hbox 2 (by decide)
      have x3 := hbox 3 (by decide)
      have x4 := hbox 4 (by decide)
      simp at x0 x1 x2 x3 x4
      have htq := (hbq.cell (p := ⟨t, k, none⟩) htw).trans htk
      have htq' : t < wq.heap.size := by omega
      have hgb : wr.heap.size ≠ go k := by omega
      have EC : Hid (Calls Tryz.prog 70 #[.slice (some ⟨go k, 0, none⟩) R R, .agg #[.slice ai BK.ins.length ci, .int .i64 BK.fin, .int .i64 BK.a, .int .i64 BK.to, .int .i64 BK.els]] wq fun e w' => e = .returned (.tuple #[]) ∧ RowB w' (go k) R R (endedB (List.replicate R false) BK) ∧ But (go k) wq w') :=
       ended_c (go k) R R _ BK _ wq (hRow.out.below hbq) ⟨_, rfl, hvi.out.ext (Ext.below hbq)⟩
      have Mq := Lib.hid (Mk.out.grow hbq)
      clear hbox hbq htk c0 c1 c2 c3 c4 hvi hRow Mk
      refine E_mob 0 _ rfl (by kernel_rfl) ?_
      simp only [List.getElem_toArray, List.getElem_cons_succ, List.getElem_cons_zero]
      go_big_quiet_step (fail)
      refine wpQuiet_nil ?_
      refine E_mob 1 _ rfl (by kernel_rfl) ?_
      simp only [List.getElem_toArray, List.getElem_cons_succ, List.getElem_cons_zero]
      go_big_quiet_step (fail)
      refine wpQuiet_nil ?_
      refine E_mob 2 _ rfl (by kernel_rfl) ?_
      simp only [List.getElem_toArray, List.getElem_cons_succ, List.getElem_cons_zero]
      go_big_quiet_step (fail)
      refine wpQuiet_nil ?_
      refine E_mob 3 _ rfl (by kernel_rfl) ?_
      simp only [List.getElem_toArray, List.getElem_cons_succ, List.getElem_cons_zero]
      go_big_quiet_step (fail)
      refine wpQuiet_nil ?_
      refine E_mob 4 _ rfl (by kernel_rfl) ?_
      simp only [List.getElem_toArray, List.getElem_cons_succ, List.getElem_cons_zero]
      go_big_quiet_step (fail)
      refine wpQuiet_nil ?_
      refine E_loud1 5 _ rfl (by kernel_rfl) ?_
      simp only [List.getElem_toArray, List.getElem_cons_succ, List.getElem_cons_zero]
      go_wp2_with (go_at_call 70; refine EC.out.mono ?_; rintro e w2 ⟨rfl, hr2, hb2⟩)
      refine ⟨hb2.keep, ?_⟩
      refine E_done (by kernel_rfl) ?_ _
      have M2 : Hid (LvMem W0 p.blks.length R u2 (.slice (some ⟨t, 0, none⟩) p.blks.length cap) gi go (tab0 p) (tabE p (k + 1)) w2) := by
       rw [hTE.out, HRe.out]
       exact Mq.out.setO hlt hb2 hr2 (tabE_len p k)
      clear hr2 hb2 Mq EC
      go_wp2
      go_roundw
      case rel => exact ⟨k + 1, by omega, by go_num, M2⟩
      case measure => first | (simp [intOf]; done) | (simp [intOf]; omega)
     ·obtain rfl : k = p.blks.length := by omega
      go_wp2_with fail
      go_meet
      case rel => exact Mk.out
   case rest =>
    have M : Hid (LvMem W0 p.blks.length R u2 u3 gi go (lvN p 0).li (lvN p 0).lo wc) := hcut
    clear hcut
    go_wp2_with fail
    go_loopg [7] (fc (lvN p 0).li + 1) (fun m g wr => ∃ k : Nat, g = .bool (lvN p k).grew ∧ Hid (m = if (lvN p k).grew then fc (lvN p k).li + 1 else 0) ∧ Hid (LvMem W0 p.blks.length R u2 u3 gi go (lvN p k).li (lvN p k).lo wr))
    case atStart => exact ⟨0, rfl, rfl, M⟩
    case round =>
     obtain ⟨m, rfl, HM, Mm⟩ := hrel
     cases hg : (lvN p m).grew
     ·have hg' := Lib.hid hg
      have HMB := Mm.out.base HB.out
      clear HM Mm M
      go_wp2_with fail
      go_ret2
      exact ⟨m, u2, u3, gi, go, rfl, hg'.out, by rw [HRe.out]; exact HMB⟩
     ·have hg' := Lib.hid hg
      have q5r : wr.cell? ⟨w.heap.size, 5, none⟩ = some (.slice ad p.blks.length c) := (Mm.out.below.cell (p := ⟨w.heap.size, 5, none⟩) hz).trans q5
      have HOk := Lib.hid (lvN_ok p m)
      have HFc := Lib.hid (fc_pass p (lvN p m))
      have HLn : Hid ((lvN p m).li.length = p.blks.length) := (lvN_ok p m).lenI
      clear M
      go_wp2_with fail
      go_loopw [7, 8] (fun g i wr => ∃ (k : Nat) (s : Lv), k ≤ p.blks.length ∧ i = .int .i64 ((k : Int) - 1) ∧ g = .bool s.grew ∧ Hid (LvOk p.blks.length R s.li s.lo) ∧ Hid (passK p k s = pass p (lvN p m)) ∧ Hid (LvMem W0 p.blks.length R u2 u3 gi go s.li s.lo wr))
       (fun _ i _ => (intOf i + 1).toNat)
      case atStart => exact ⟨p.blks.length, ⟨(lvN p m).li, (lvN p m).lo, false⟩, Nat.le_refl _, rfl, rfl, by have := HOk.out; rwa [HRe.out] at this, rfl, Mm⟩
      case round =>
       obtain ⟨k, s, hk, rfl, rfl, HS, HPs, Ms⟩ := hrel
       by_cases hlt : 0 < k
       ·obtain ⟨j, rfl⟩ : ∃ j, k = j + 1 := ⟨k - 1, by omega⟩
        have hj : ((j + 1 : Nat) : Int) - 1 = (j : Int) := by omega
        rw [hj]
        clear hj
        have hjn : j < p.blks.length := by omega
        have EO : Hid (Calls Tryz.prog 71 #[.agg #[.string nm, .bool p.void, .int .i64 p.params, .int .i64 p.regs, vo, .slice ad p.blks.length c], .int .i64 (j : Int)] wr (RetR wr (outsP p j))) :=
         fouts_c p _ j wr (HP.out.ext (HX.out.trans (Ext.below Ms.out.below))) hjn (by omega)
        have HQr : ∀ j : Nat, j < 6 → wr.cell? ⟨w.heap.size, j, none⟩ = #[Value.string nm, .bool p.void, .int .i64 p.params, .int .i64 p.regs, vo, .slice ad p.blks.length c][j]? := fun j hj => (Ms.out.below.cell (p := ⟨w.heap.size, j, none⟩) hz).trans (HQ.out j hj)
        have r0 := HQr 0 (by decide)
        have r1 := HQr 1 (by decide)
        have r2 := HQr 2 (by decide)
        have r3 := HQr 3 (by decide)
        have r4 := HQr 4 (by decide)
        have r5 := HQr 5 (by decide)
        simp at r0 r1 r2 r3 r4 r5
        have hgj : go j < wr.heap.size := (OwnB.cellAt (Ms.out.rowO j hjn)).2.2.2.2.2.2
        clear HQr
        go_upto_block 8 with (go_at_call 71; refine EO.out.mono ?_; rintro e w1 ⟨v1, rfl, hr1, hb1⟩; have M1 := Lib.hid (Ms.out.grow hb1); clear hb1; have HF1 := Lib.hid hr1.2; obtain ⟨⟨a1, cp1, rfl, hl1, hl2, hcell⟩, -⟩ := hr1; have HC1 := Lib.hid hcell; clear hcell)
        have hl5 : (outsP p j).length ≤ 2 := Nat.le_trans (List.length_filter_le _ _) (outsB_len _)
        clear r0 r1 r2 r3 r4 r5
        go_cut [7] from 53 to 107 (fun g wx => g = .bool s.grew ∧ LvMem W0 p.blks.length R u2 u3 gi go s.li (s.lo.set j (outK s.li (s.lo.getD j []) (outsP p j))) wx)
        case first =>
         have HIn := Lib.hid (outsP_in p j)
         generalize outsP p j = L at *
         go_wp2_with fail
         go_loopw [61] (fun i wr => ∃ k : Nat, k ≤ L.length ∧ i = .int .i64 k ∧ Hid (LvMem W0 p.blks.length R u2 u3 gi go s.li (s.lo.set j (outK s.li (s.lo.getD j []) (L.take k))) wr) ∧ Hid (But (go j) w1 wr)) (fun i _ => L.length - (intOf i).toNat)
         case atStart =>
          refine ⟨0, Nat.zero_le _, rfl, ?_, But.refl _ _⟩
          have : s.lo.set j (outK s.li (s.lo.getD j []) (L.take 0)) = s.lo := by
           show s.lo.set j (s.lo.getD j []) = s.lo
           have := HS.out.lenO
           simp [List.getD, show j < s.lo.length by omega]
          rw [this]; exact M1
         case round =>
          obtain ⟨k, hk, rfl, Mk, HBk⟩ := hrel
          by_cases hlt : k < L.length
          ·obtain ⟨b1, o1, rfl, hcx⟩ := HC1.out k hlt
           have hb1g : go j < b1 := Nat.lt_of_lt_of_le hgj (HF1.out _ _ _ rfl)
           simp only [Nat.mul_one, Nat.add_zero] at hcx
           obtain ⟨hx0, hx1⟩ := HIn.out k hlt
           have HK1 := outK_succ s.li (s.lo.getD j []) L k hlt
           generalize L.getD k 0 = x at *
           obtain ⟨tn, rfl⟩ := Int.eq_ofNat_of_zero_le hx0
           have hcx' := HBk.out.ext _ _ (by show b1 ≠ go j; omega) hcx
           have htn : tn < p.blks.length := by omega
           rw [Int.toNat_natCast] at HK1
           have HK1 := Lib.hid HK1
           obtain ⟨t3, cap3, rfl, h31, h32, h33⟩ := Mk.out.atO hjn
           obtain ⟨t2, cap2, rfl, h21, h22, h23⟩ := Mk.out.atI hjn
           have k3 := h33 j hjn
           have k2 := h23 tn htn
           unfold rowV at k3 k2
           have n3 : t3 ≠ go j := fun e => tab_ne_row Mk.out.tabO (Mk.out.rowO j hjn) (by simp [Value.ownBlock, e])
           have n2 : t2 ≠ go j := fun e => tab_ne_row Mk.out.tabI (Mk.out.rowO j hjn) (by simp [Value.ownBlock, e])
           have s3 : t3 < wr.heap.size := World.block_lt_of_cell? wr _ k3
           have s2 : t2 < wr.heap.size := World.block_lt_of_cell? wr _ k2
           clear hcx h33 h23 HC1 HF1
           go_wp2_with fail
           have Mq : Hid (LvMem W0 p.blks.length R (.slice (some ⟨t2, 0, none⟩) p.blks.length cap2) (.slice (some ⟨t3, 0, none⟩) p.blks.length cap3) gi go s.li (s.lo.set j (outK s.li (s.lo.getD j []) (L.take k))) wr.drew) := Mk.out.grow (Below.drew (Below.refl _ _))
           have HBq : Hid (But (go j) w1 wr.drew) := HBk.out.trans (But.below (Below.drew (Below.refl _ _)))
           replace k3 : wr.drew.cell? ⟨t3, j, none⟩ = _ := k3
           replace k2 : wr.drew.cell? ⟨t2, tn, none⟩ = _ := k2
           replace s3 : t3 < wr.drew.heap.size := s3
           replace s2 : t2 < wr.drew.heap.size := s2
           refine wp_region_game (fun b => b ≠ go j ∧ b < wr.drew.heap.size) (by kernel_rfl) ?_
           show wpE _ _ _ _ _ _ _ wr.drew
           generalize wr.drew = wq at Mq HBq k3 k2 s3 s2 ⊢
           have EJ : Hid (Calls Tryz.prog 72 #[.slice (some ⟨go j, 0, none⟩) R R, .slice (some ⟨gi tn, 0, none⟩) R R] wq fun e w' => (∃ g, e = .returned (.bool g)) ∧ RowB w' (go j) R R (outK s.li (s.lo.getD j []) (L.take (k + 1))) ∧ But (go j) wq w') := by
            have hr1 := Mq.out.rowO j hjn
            rw [getD_set, if_pos ⟨rfl, by rw [HS.out.lenO]; exact hjn⟩] at hr1
            have := join_c (go j) (gi tn) R R R _ _ wq hr1 (Mq.out.rowI tn htn) (Mq.out.dX tn j htn hjn)
            rw [HK1.out]
            exact this.mono fun e w' h => ⟨⟨_, h.1⟩, h.2⟩
           clear Mk HBk HK1
           refine E_mob 0 _ rfl (by kernel_rfl) ?_
           simp only [List.getElem_toArray, List.getElem_cons_succ, List.getElem_cons_zero]
           go_big_quiet_step (fail)
           refine wpQuiet_nil ?_
           refine E_mob 1 _ rfl (by kernel_rfl) ?_
           simp only [List.getElem_toArray, List.getElem_cons_succ, List.getElem_cons_zero]
           go_big_quiet_step (fail)
           refine wpQuiet_nil ?_
           refine E_mob 2 _ rfl (by kernel_rfl) ?_
           simp only [List.getElem_toArray, List.getElem_cons_succ, List.getElem_cons_zero]
           go_big_quiet_step (fail)
           refine wpQuiet_nil ?_
           refine E_mob 3 _ rfl (by kernel_rfl) ?_
           simp only [List.getElem_toArray, List.getElem_cons_succ, List.getElem_cons_zero]
           go_big_quiet_step (fail)
           refine wpQuiet_nil ?_
           refine E_mob 4 _ rfl (by kernel_rfl) ?_
           simp only [List.getElem_toArray, List.getElem_cons_succ, List.getElem_cons_zero]
           go_big_quiet_step (fail)
           refine wpQuiet_nil ?_
           refine E_mob 5 _ rfl (by kernel_rfl) ?_
           simp only [List.getElem_toArray, List.getElem_cons_succ, List.getElem_cons_zero]
           go_big_quiet_step (fail)
           refine wpQuiet_nil ?_
           refine E_mob 6 _ rfl (by kernel_rfl) ?_
           simp only [List.getElem_toArray, List.getElem_cons_succ, List.getElem_cons_zero]
           go_big_quiet_step (fail)
           refine wpQuiet_nil ?_
           refine E_mob 7 _ rfl (by kernel_rfl) ?_
           simp only [List.getElem_toArray, List.getElem_cons_succ, List.getElem_cons_zero]
           go_big_quiet_step (fail)
           refine wpQuiet_nil ?_
           refine E_loud1 8 _ rfl (by kernel_rfl) ?_
           simp only [List.getElem_toArray, List.getElem_cons_succ, List.getElem_cons_zero]
           go_wp2_with (go_at_call 72; refine EJ.out.mono ?_; rintro e w2 ⟨⟨gg, rfl⟩, hr2, hb2⟩)
           refine ⟨hb2.keep, ?_⟩
           refine E_done (by kernel_rfl) ?_ _
           have M2 : Hid (LvMem W0 p.blks.length R (.slice (some ⟨t2, 0, none⟩) p.blks.length cap2) (.slice (some ⟨t3, 0, none⟩) p.blks.length cap3) gi go s.li (s.lo.set j (outK s.li (s.lo.getD j []) (L.take (k + 1)))) w2) := by
            have := Mq.out.setO hjn hb2 hr2 (by rw [List.length_set]; exact HS.out.lenO)
            rwa [List.set_set] at this
           have HB2 : Hid (But (go j) w1 w2) := HBq.out.trans hb2
           clear hr2 hb2 Mq HBq EJ k3 k2 s3 s2
           go_wp2
           go_roundw
           case rel => exact ⟨k + 1, by omega, by go_num, M2, HB2⟩
           case measure => first | (simp [intOf]; done) | (simp [intOf]; omega)
          ·obtain rfl : k = L.length := by omega
           go_wp2_with fail
           go_meet
           case rel => exact ⟨rfl, by have := Mk.out; rwa [List.take_length] at this⟩
        case rest =>
         obtain ⟨rfl, hM⟩ := hcut
         have hro := hM.rowO j hjn
         rw [getD_set, if_pos ⟨rfl, by rw [HS.out.lenO]; exact hjn⟩] at hro
         have HO1 : Hid (LvOk p.blks.length R s.li (s.lo.set j (outK s.li (s.lo.getD j []) (outsP p j)))) := HS.out.setO (by rw [outK_len]; exact HS.out.ro j hjn)
         have hol : (outK s.li (s.lo.getD j []) (outsP p j)).length ≤ 1000000 := by rw [outK_len, HS.out.ro j hjn]; omega
         have HPs' : Hid (passK p j (blkStep p j s) = pass p (lvN p m)) := HPs.out
         have HBs : Hid (blkStep p j s = ⟨s.li.set j (joinB (s.li.getD j []) (backK (outK s.li (s.lo.getD j []) (outsP p j)) (p.blks.getD j default).ins)), s.lo.set j (outK s.li (s.lo.getD j []) (outsP p j)), grewB (s.li.getD j []) (backK (outK s.li (s.lo.getD j []) (outsP p j)) (p.blks.getD j default).ins) (s.li.getD j []).length || s.grew⟩) := rfl
         generalize outK s.li (s.lo.getD j []) (outsP p j) = o1 at *
         obtain ⟨t3, cap3, rfl, h31, h32, h33⟩ := hM.atO hjn
         obtain ⟨t2, cap2, rfl, h21, h22, h23⟩ := hM.atI hjn
         have k3 := h33 j hjn
         unfold rowV at k3
         have ECl := Lib.hid (clone_c (go j) R R o1 wc hro hol)
         have hX := HX.out.trans (Ext.below hM.below)
         obtain ⟨b, o, rfl, ⟨vi, c0, hvi⟩, -, -, -, -⟩ := HC.out j hjn
         have HV0 : Hid (RdIns W0 vi (p.blks.getD j default).ins) := hvi.ext HX.out
         obtain ⟨ai, ci, rfl, hi1, hi2, -⟩ := id hvi
         replace c0 := hX _ _ c0
         simp only [Nat.add_zero] at c0
         have hbw : b < wc.heap.size := World.block_lt_of_cell? wc _ c0
         have q5c : wc.cell? ⟨w.heap.size, 5, none⟩ = some (.slice (some ⟨b, o, none⟩) p.blks.length c) := (hM.below.cell (p := ⟨w.heap.size, 5, none⟩) hz).trans q5
         have hzc : w.heap.size < wc.heap.size := Nat.lt_of_lt_of_le hz hM.below.size
         have HIj := Lib.hid (HI.out j hjn)
         have hil := (HI.out j hjn).1
         have hM := Lib.hid hM
         clear h33 h23 hvi hX hro hol
         generalize p.blks.getD j default = BK at *
         go_upto_block 10 with (go_at_call 73; refine ECl.out.mono ?_; rintro e w3 ⟨g', c', rfl, hg', hr3, hb3⟩; have M3 := Lib.hid (hM.out.grow hb3); obtain ⟨hc3, -⟩ := bcell' hb3; have HR3 := Lib.hid hr3; have HB3 := Lib.hid hb3; clear hb3 hr3)
         have hg0 : W0.heap.size ≤ g' := Nat.le_trans hM.out.below.size hg'
         have hgI : Hid (∀ k, k < p.blks.length → g' ≠ gi k) := fun k hk e => by have := (OwnB.cellAt (hM.out.rowI k hk)).2.2.2.2.2.2; omega
         have hgO : Hid (∀ k, k < p.blks.length → g' ≠ go k) := fun k hk e => by have := (OwnB.cellAt (hM.out.rowO k hk)).2.2.2.2.2.2; omega
         clear c0 k3 hc3
         go_cut [7] from 53 to 107 (fun g wx => g = .bool s.grew ∧ LvMem W0 p.blks.length R (.slice (some ⟨t2, 0, none⟩) p.blks.length cap2) (.slice (some ⟨t3, 0, none⟩) p.blks.length cap3) gi go s.li (s.lo.set j o1) wx ∧ RowB wx g' R c' (backK o1 BK.ins))
         case first =>
          generalize BK.ins = L at *
          go_wp2_with fail
          go_loopw [13] (fun i wr => ∃ k : Nat, k ≤ L.length ∧ i = .int .i64 ((k : Int) - 1) ∧ Hid (LvMem W0 p.blks.length R (.slice (some ⟨t2, 0, none⟩) p.blks.length cap2) (.slice (some ⟨t3, 0, none⟩) p.blks.length cap3) gi go s.li (s.lo.set j o1) wr) ∧ Hid (RowB wr g' R c' (backK o1 (L.drop k)))) (fun i _ => (intOf i + 1).toNat)
          case atStart => exact ⟨L.length, Nat.le_refl _, rfl, M3, by rw [List.drop_length]; exact HR3⟩
          case round =>
           obtain ⟨k, hk, rfl, Mk, Rk⟩ := hrel
           by_cases hlt : 0 < k
           ·obtain ⟨i, rfl⟩ : ∃ i, k = i + 1 := ⟨k - 1, by omega⟩
            have hi : ((i + 1 : Nat) : Int) - 1 = (i : Int) := by omega
            rw [hi]
            clear hi
            have hiL : i < L.length := by omega
            have hI := (HV0.out).at
            obtain ⟨b4, o4, va, rfl, hbw4, hva, d0, d1, d2, d3, d4, d5, d6, d7, d8, d9, d10⟩ := hI.2 i hiL
            have hX4 := Ext.below Mk.out.below
            have HI4 : Hid (InV W0 (.agg #[.int .i64 (L.getD i default).op, .int .i64 (L.getD i default).d, .int .i64 (L.getD i default).a, .int .i64 (L.getD i default).b, .int .i64 (L.getD i default).fn, .int .i64 (L.getD i default).obj, .int .i64 (L.getD i default).off, .int .i64 (L.getD i default).size, .int .u32 (L.getD i default).num, va, .bool (L.getD i default).log]) (L.getD i default)) := ⟨va, rfl, hva⟩
            have HA4 := Lib.hid (HIj.out.2 i hiL)
            have HK4 := Lib.hid (backK_cons o1 L i hiL)
            replace d0 := hX4 _ _ d0
            replace d1 := hX4 _ _ d1
            replace d2 := hX4 _ _ d2
            replace d3 := hX4 _ _ d3
            replace d4 := hX4 _ _ d4
            replace d5 := hX4 _ _ d5
            replace d6 := hX4 _ _ d6
            replace d7 := hX4 _ _ d7
            replace d8 := hX4 _ _ d8
            replace d9 := hX4 _ _ d9
            replace d10 := hX4 _ _ d10
            clear hI hva hX4 hbw4
            generalize L.getD i default = I4 at *
            have EB : Hid (Calls Tryz.prog 74 #[.slice (some ⟨g', 0, none⟩) R c', .agg #[.int .i64 I4.op, .int .i64 I4.d, .int .i64 I4.a, .int .i64 I4.b, .int .i64 I4.fn, .int .i64 I4.obj, .int .i64 I4.off, .int .i64 I4.size, .int .u32 I4.num, va, .bool I4.log]] wr fun e w' => e = .returned (.tuple #[]) ∧ RowB w' g' R c' (backK o1 (L.drop i)) ∧ But g' wr w') := by
             have := before_c W0 g' R c' _ I4 _ wr Mk.out.below hg0 Rk.out HI4.out HA4.out
             rw [HK4.out]
             exact this
            go_wp2_with (go_at_call 74; refine EB.out.mono ?_; rintro e w4 ⟨rfl, hr4, hb4⟩; have HR4 := Lib.hid hr4; have HB4 := Lib.hid hb4; clear hb4 hr4)
            have M4 : Hid (LvMem W0 p.blks.length R (.slice (some ⟨t2, 0, none⟩) p.blks.length cap2) (.slice (some ⟨t3, 0, none⟩) p.blks.length cap3) gi go s.li (s.lo.set j o1) w4) := Mk.out.other Rk.out hgI.out hgO.out HB4.out hg0
            clear d0 d1 d2 d3 d4 d5 d6 d7 d8 d9 d10 EB
            go_roundw
            case rel => exact ⟨i, by omega, by go_num, M4, HR4⟩
            case measure => first | (simp [intOf]; done) | (simp [intOf]; omega)
           ·obtain rfl : k = 0 := by omega
            go_wp2_with fail
            go_meet
            case rel => exact ⟨rfl, Mk.out, Rk.out⟩
         case rest =>
          obtain ⟨rfl, hM5, hR5⟩ := hcut
          obtain ⟨t2', cap2', e2, -, -, h23⟩ := hM5.atI hjn
          simp only [Value.slice.injEq, Option.some.injEq, Addr.mk.injEq] at e2
          obtain ⟨⟨rfl, -, -⟩, -, rfl⟩ := e2
          have k2 := h23 j hjn
          unfold rowV at k2
          have hjl := HS.out.ri j hjn
          have EJ := join_c (gi j) g' R R c' _ _ wc (hM5.rowI j hjn) hR5 (hgI.out j hjn)
          have M5 := Lib.hid hM5
          have HPs2 : Hid (passK p j (blkStep p j s) = pass p (lvN p m)) := HPs'
          have hLI : Hid (s.li.length = p.blks.length) := HS.out.lenI
          have HO2 : Hid (LvOk p.blks.length R (blkStep p j s).li (blkStep p j s).lo) := by rw [HBs.out]; exact HO1.out.setI (by rw [joinB_len]; exact hjl)
          clear h23 hM5 hR5 hjl
          obtain ⟨G, hG⟩ : ∃ G, grewB (s.li.getD j []) (backK o1 BK.ins) (s.li.getD j []).length = G := ⟨_, rfl⟩
          rw [hG] at EJ
          have HBs2 : Hid (blkStep p j s = ⟨s.li.set j (joinB (s.li.getD j []) (backK o1 BK.ins)), s.lo.set j o1, G || s.grew⟩) := by show _ = _; rw [HBs.out, hG]
          have EJ := Lib.hid EJ
          clear hG HBs
          cases G
          all_goals
           go_wp2_with (go_at_call 72; refine EJ.out.mono ?_; rintro e w6 ⟨rfl, hr6, hb6⟩; have HR6 := Lib.hid hr6; have HB6 := Lib.hid hb6; clear hb6 hr6)
           have M6 := Lib.hid (M5.out.setI hjn HB6.out HR6.out hLI.out)
           clear k2 EJ M5
           go_roundw
           case rel => exact ⟨j, blkStep p j s, by omega, by go_num, by rw [HBs2.out]; simp, HO2, HPs2, by rw [HBs2.out]; exact M6⟩
           case measure => first | (simp [intOf]; done) | (simp [intOf]; omega)
       ·obtain rfl : k = 0 := by omega
        have HP0 : Hid (s = lvN p (m + 1)) := HPs.out
        go_wp2_with fail
        go_roundg (if (lvN p (m + 1)).grew then fc (lvN p (m + 1)).li + 1 else 0)
        case rel => exact ⟨m + 1, by rw [HP0.out], rfl, by have := Ms.out; rwa [HP0.out] at this⟩
        case measure =>
         have h1 := HM.out
         rw [hg'.out] at h1
         simp only [if_true] at h1
         by_cases hgg : (lvN p (m + 1)).grew = true
         ·have := HFc.out HLn.out hgg
          rw [if_pos hgg]
          show fc (pass p (lvN p m)).li + 1 < _
          omega
         ·rw [if_neg hgg]; omega
end Go.Proofs.YtchoiankeohonaaGreatDoor
