/-
  FlowLives walked: which registers are live at the start and before the end of each block.
-/
import Derived.Test.YtegkbopibacfoaaH4
import Derived.Test.YtegkbopibacfoaaO
import Derived.Test.YtegkbopibacfoaaE2
set_option linter.all false
namespace Go.Proofs.Ytegkbopibacfoaa
open Go.ChangeShapes Go.WideShapes Go.ChangeAt Go.RowKit
set_option maxHeartbeats 2000000
set_option maxRecDepth 20000

theorem all_getD {α : Type} [Inhabited α] {f : α → Bool} {l : List α} (h : l.all f = true) {k : Nat} (hk : k < l.length) : f (l.getD k default) = true := by
  rw [List.all_eq_true] at h
  exact h _ (by simp [List.getD, hk])
theorem fewP_yes {p : Pr} (h : fewP p = true) : p.regs ≤ 30 ∧ p.blks.length ≤ 40 ∧ ∀ n, n < p.blks.length → (p.blks.getD n default).ins.length ≤ 60 ∧ ∀ k, k < (p.blks.getD n default).ins.length → ((p.blks.getD n default).ins.getD k default).args.length ≤ 12 := by
  unfold fewP at h
  rw [Bool.and_eq_true, decide_eq_true_eq] at h
  obtain ⟨h1, h2⟩ := h
  have h3 : prF p = true := by
    unfold fewM at h2
    simp only [Bool.and_eq_true, List.all_cons] at h2
    exact h2.2.2.2.1
  unfold prF at h3
  simp only [Bool.and_eq_true, decide_eq_true_eq] at h3
  obtain ⟨h4, -, h5⟩ := h3
  refine ⟨h1, h4, fun n hn => ?_⟩
  have h6 := all_getD h5 hn
  unfold blkF at h6
  simp only [Bool.and_eq_true, decide_eq_true_eq] at h6
  refine ⟨h6.1, fun k hk => ?_⟩
  have h7 := all_getD h6.2 hk
  unfold insF at h7
  simp only [Bool.and_eq_true, decide_eq_true_eq] at h7
  exact h7.2.2
theorem flowLives_no (p : Pr) (V : Value) (w : World) (hP : PrV w V p) (hf : fewP p = false) :
    Calls Try.prog 3 #[V] w fun e w' => e = .returned (.bool true) ∧ Below w.heap.size w w' := by
  have EF : Hid (∀ o, Calls Try.prog 11 #[V] (w.alloc o) fun e w' => e = .returned (.bool false) ∧ Below (w.alloc o).heap.size (w.alloc o) w') := fun o => by rw [← hf]; exact fewp_c p V _ (hP.ext (Ext.alloc w o))
  obtain ⟨nm, vo, vb, rfl, -, a, c, rfl, -, -, -⟩ := hP
  go_enter Try.func3, Try.ntmps3
  go_wp2_with (first | (go_at_call 11; refine (EF.out _).mono ?_; rintro e w1 ⟨rfl, hb1⟩; have hb1 := Lib.hid hb1) | (go_at_call 12; refine (awake16_c _).mono ?_; rintro e w2 ⟨rfl, hb2⟩; have hb2 := Lib.hid hb2))
  go_ret
  exact ⟨rfl, (below_alloc w _).trans ((hb1.out.trans (hb2.out.mono hb1.out.size)).mono (by simp))⟩
theorem flowLives_yes (p : Pr) (V : Value) (w : World) (hreg : I64 p.regs) (hP : PrV w V p) (hf : fewP p = true) :
    Calls Try.prog 3 #[V] w fun e w' => e = .returned (.bool true) ∧ Below w.heap.size w w' := by
  obtain ⟨f1, f2, f3⟩ := fewP_yes hf
  have EF : Hid (∀ o, Calls Try.prog 11 #[V] (w.alloc o) fun e w' => e = .returned (.bool true) ∧ Below (w.alloc o).heap.size (w.alloc o) w') := fun o => by rw [← hf]; exact fewp_c p V _ (hP.ext (Ext.alloc w o))
  have EL : Hid (∀ w', Ext w w' → Calls Try.prog 13 #[V] w' (LivePost p w')) := fun w' he => live_c p V w' (hP.ext he) (by omega) (fun n hn => ⟨by have := (f3 n hn).1; omega, fun k hk => by have := (f3 n hn).2 k hk; omega⟩) (by omega) hreg
  have ER : Hid (∀ (n k0 : Nat) (r : Int) w', Ext w w' → n < p.blks.length → k0 ≤ (p.blks.getD n default).ins.length → Calls Try.prog 14 #[V, .int .i64 (n : Int), .int .i64 (k0 : Int), .int .i64 r] w' fun e w'' => e = .returned (.bool (liveP p n k0 r)) ∧ Below w'.heap.size w' w'') :=
    fun n k0 r w' he hn hk => rlive_c p V n k0 r w' (hP.ext he) (by omega) (fun n hn => by have := (f3 n hn).1; omega) (fun n hn k hk => by have := (f3 n hn).2 k hk; omega) hn hk
  have ER0 : Hid (∀ (n : Nat) (r : Int) w', Ext w w' → n < p.blks.length → Calls Try.prog 14 #[V, .int .i64 (n : Int), .int .i64 0, .int .i64 r] w' fun e w'' => e = .returned (.bool (liveP p n 0 r)) ∧ Below w'.heap.size w' w'') :=
    fun n r w' he hn => ER.out n 0 r w' he hn (Nat.zero_le _)
  have HF3 : Hid (∀ n, n < p.blks.length → (p.blks.getD n default).ins.length ≤ 60) := fun n hn => (f3 n hn).1
  clear f3 hf
  have HP := Lib.hid hP
  obtain ⟨nm, vo, vb, rfl, -, hvb⟩ := hP
  have hvb' := hvb
  obtain ⟨a, c, rfl, hc1, hc2, -⟩ := hvb'
  have HBk := Lib.hid (RdBks.at hvb).2
  clear hvb
  unfold maxLen at hc2
  go_enter Try.func3, Try.ntmps3
  go_wp2_with fail
  obtain ⟨W0, hW0⟩ : ∃ W0, W0 = w.alloc (.cells #[.string nm, .bool p.void, .int .i64 p.params, .int .i64 p.regs, vo, .slice a p.blks.length c] 25) := ⟨_, rfl⟩
  have HBX : Hid (∀ w', Below (w.heap.size + 1) W0 w' → ∀ j : Nat, j < 6 → w'.cell? ⟨w.heap.size, j, none⟩ = #[Value.string nm, .bool p.void, .int .i64 p.params, .int .i64 p.regs, vo, .slice a p.blks.length c][j]?) := fun w' hb j _ => (hb.cell (p := ⟨w.heap.size, j, none⟩) (Nat.lt_succ_self _)).trans (by rw [hW0]; exact cell_of_heap (heap_alloc_new w _) j)
  have HE : Hid (∀ w', Below (w.heap.size + 1) W0 w' → Ext w w') := fun w' hb => (show Ext w W0 by rw [hW0]; exact Ext.alloc w _).trans (Ext.below (hb.mono (by rw [hW0]; simp)))
  have hz0 : W0.heap.size = w.heap.size + 1 := by rw [hW0]; simp
  have HR : Hid (∀ w', Below (w.heap.size + 1) W0 w' → Below w.heap.size w w') := fun w' hb => (show Below w.heap.size w W0 by rw [hW0]; exact below_alloc w _).trans (hb.mono (by omega))
  refine (EF.out _).mono ?_
  rintro e w1 ⟨rfl, hb1⟩
  rw [← hW0] at hb1
  clear hW0 EF
  have B1 : Hid (Below (w.heap.size + 1) W0 w1) := by rw [← hz0]; exact hb1
  clear hb1
  have x0 := HBX.out w1 B1.out 0 (by decide)
  have x1 := HBX.out w1 B1.out 1 (by decide)
  have x2 := HBX.out w1 B1.out 2 (by decide)
  have x3 := HBX.out w1 B1.out 3 (by decide)
  have x4 := HBX.out w1 B1.out 4 (by decide)
  have x5 := HBX.out w1 B1.out 5 (by decide)
  simp at x0 x1 x2 x3 x4 x5
  go_wp2_with fail
  refine (EL.out _ (HE.out w1 B1.out)).mono ?_
  rintro e w2 ⟨kk, vi, vt, gi, go, rfl, hgr, M⟩
  have M := Lib.hid M
  have HL : Hid (∀ n r : Nat, n < p.blks.length → r < regsN p → ((lvN p kk).li.getD n []).getD r false = liveP p n 0 r ∧ ((lvN p kk).lo.getD n []).getD r false = liveP p n (p.blks.getD n default).ins.length r) := fun n r hn hr => lv_live hgr hn hr
  clear hgr x0 x1 x2 x3 x4 x5
  have B2 : Hid (Below (w.heap.size + 1) W0 w2) := B1.out.trans (M.out.below.mono (by have := B1.out.size; omega))
  have x0 := HBX.out w2 B2.out 0 (by decide)
  have x1 := HBX.out w2 B2.out 1 (by decide)
  have x2 := HBX.out w2 B2.out 2 (by decide)
  have x3 := HBX.out w2 B2.out 3 (by decide)
  have x4 := HBX.out w2 B2.out 4 (by decide)
  have x5 := HBX.out w2 B2.out 5 (by decide)
  simp at x0 x1 x2 x3 x4 x5
  have hreg2 := hreg
  unfold I64 at hreg2
  by_cases hp0 : 0 < p.blks.length
  · obtain ⟨ti, ci, rfl, hi1, hi2, hti⟩ := M.out.atI hp0
    obtain ⟨tj, co, rfl, ho1, ho2, hto⟩ := M.out.atO hp0
    have HTI := Lib.hid hti
    have HTO := Lib.hid hto
    clear hti hto
    unfold maxLen at hi2 ho2
    have en : ((p.blks.length : Int) != (p.blks.length : Int)) = false := by simp
    go_wp2_with fail
    clear x0 x1 x2 x3 x4 x5 en
    have htl : ti < w2.heap.size := World.block_lt_of_cell? w2 _ (HTI.out 0 hp0)
    have htj : tj < w2.heap.size := World.block_lt_of_cell? w2 _ (HTO.out 0 hp0)
    have hzb : w.heap.size < w2.heap.size := by have := B2.out.size; omega
    have hR0 : regsN p ≤ 30 := by unfold regsN; omega
    go_loopw [5] (fun i wr => ∃ n : Nat, n ≤ p.blks.length ∧ i = .int .i64 (n : Int) ∧ Hid (Below w2.heap.size w2 wr)) (fun i _ => p.blks.length - (intOf i).toNat)
    case atStart => exact ⟨0, Nat.zero_le _, rfl, Below.refl _ _⟩
    case round =>
      obtain ⟨n, hn, rfl, hB⟩ := hrel
      by_cases hlt : n < p.blks.length
      · go_wp2_with fail
        have rI := M.out.rowI n hlt
        have rO := M.out.rowO n hlt
        have cI := HTI.out n hlt
        have cO := HTO.out n hlt
        have HLn : Hid (∀ r, r < regsN p → ((lvN p kk).li.getD n []).getD r false = liveP p n 0 r ∧ ((lvN p kk).lo.getD n []).getD r false = liveP p n (p.blks.getD n default).ins.length r) := fun r hr => HL.out n r hlt hr
        unfold rowV at cI cO
        generalize gi n = g1 at rI cI
        generalize go n = g2 at rO cO
        generalize (lvN p kk).li.getD n [] = l1 at rI HLn
        generalize (lvN p kk).lo.getD n [] = l2 at rO HLn
        have hg1 := rI.cellAt.2.2.2.2.2.2
        have hg2 := rO.cellAt.2.2.2.2.2.2
        have R1 := Lib.hid rI.cellAt.2.2.2.2.1
        have R2 := Lib.hid rO.cellAt.2.2.2.2.1
        clear rI rO
        have CI := Lib.hid cI
        have CO := Lib.hid cO
        clear cI cO
        obtain ⟨W1, hW1⟩ : ∃ W1, W1 = wr.drew := ⟨_, rfl⟩
        have hB1 : Hid (Below w2.heap.size w2 W1) := by rw [hW1]; exact hB.out.drew
        refine wp_region_game (fun b => b < w2.heap.size) (by kernel_rfl) ?_
        show wpE _ _ _ _ _ _ _ wr.drew
        rw [← hW1]
        clear hW1
        have BX : Hid (Below (w.heap.size + 1) W0 W1) := B2.out.trans (hB1.out.mono (by omega))
        have cI : W1.cell? ⟨ti, n, none⟩ = some (.slice (some ⟨g1, 0, none⟩) (regsN p) (regsN p)) := (hB1.out.cell (p := ⟨ti, n, none⟩) htl).trans CI.out
        have cO : W1.cell? ⟨tj, n, none⟩ = some (.slice (some ⟨g2, 0, none⟩) (regsN p) (regsN p)) := (hB1.out.cell (p := ⟨tj, n, none⟩) htj).trans CO.out
        have x3 := HBX.out W1 BX.out 3 (by decide)
        simp at x3
        by_cases hr0 : 0 ≤ p.regs
        · rw [show p.regs = (regsN p : Int) by unfold regsN; omega] at x3
          have enr : (((regsN p : Nat) : Int) != ((regsN p : Nat) : Int)) = false := by simp
          refine E_mob2 0 _ rfl (by kernel_rfl) ?_
          simp only [List.getElem_toArray, List.getElem_cons_succ, List.getElem_cons_zero]
          go_big_quiet_step (fail)
          refine wpQuiet_nil ?_
          refine E_mob2 1 _ rfl (by kernel_rfl) ?_
          simp only [List.getElem_toArray, List.getElem_cons_succ, List.getElem_cons_zero]
          go_big_quiet_step (fail)
          refine wpQuiet_nil ?_
          refine E_mob2 2 _ rfl (by kernel_rfl) ?_
          simp only [List.getElem_toArray, List.getElem_cons_succ, List.getElem_cons_zero]
          go_big_quiet_step (fail)
          refine wpQuiet_nil ?_
          refine E_mob2 3 _ rfl (by kernel_rfl) ?_
          simp only [List.getElem_toArray, List.getElem_cons_succ, List.getElem_cons_zero]
          go_big_quiet_step (fail)
          refine wpQuiet_nil ?_
          refine E_mob2 4 _ rfl (by kernel_rfl) ?_
          simp only [List.getElem_toArray, List.getElem_cons_succ, List.getElem_cons_zero]
          go_big_quiet_step (fail)
          refine wpQuiet_nil ?_
          refine E_mob2 5 _ rfl (by kernel_rfl) ?_
          simp only [List.getElem_toArray, List.getElem_cons_succ, List.getElem_cons_zero]
          go_big_quiet_step (fail)
          refine wpQuiet_nil ?_
          refine E_mob2 6 _ rfl (by kernel_rfl) ?_
          simp only [List.getElem_toArray, List.getElem_cons_succ, List.getElem_cons_zero]
          go_big_quiet_step (fail)
          refine wpQuiet_nil ?_
          refine E_mob2 7 _ rfl (by kernel_rfl) ?_
          simp only [List.getElem_toArray, List.getElem_cons_succ, List.getElem_cons_zero]
          go_big_quiet_step (fail)
          refine wpQuiet_nil ?_
          refine E_mob2 8 _ rfl (by kernel_rfl) ?_
          simp only [List.getElem_toArray, List.getElem_cons_succ, List.getElem_cons_zero]
          go_big_quiet_step (fail)
          refine wpQuiet_nil ?_
          refine E_mob2 9 _ rfl (by kernel_rfl) ?_
          simp only [List.getElem_toArray, List.getElem_cons_succ, List.getElem_cons_zero]
          go_big_quiet_step (fail)
          refine wpQuiet_nil ?_
          refine E_mob2 10 _ rfl (by kernel_rfl) ?_
          simp only [List.getElem_toArray, List.getElem_cons_succ, List.getElem_cons_zero]
          go_big_quiet_step (fail)
          refine wpQuiet_nil ?_
          refine E_mob2 11 _ rfl (by kernel_rfl) ?_
          simp only [List.getElem_toArray, List.getElem_cons_succ, List.getElem_cons_zero]
          go_big_quiet_step (fail)
          refine wpQuiet_nil ?_
          refine E_mob2 12 _ rfl (by kernel_rfl) ?_
          simp only [List.getElem_toArray, List.getElem_cons_succ, List.getElem_cons_zero]
          go_big_quiet_step (fail)
          refine wpQuiet_nil ?_
          refine E_mob2 13 _ rfl (by kernel_rfl) ?_
          simp only [List.getElem_toArray, List.getElem_cons_succ, List.getElem_cons_zero]
          go_big_quiet_step (fail)
          refine wpQuiet_nil ?_
          refine E_mob2 14 _ rfl (by kernel_rfl) ?_
          simp only [List.getElem_toArray, List.getElem_cons_succ, List.getElem_cons_zero]
          go_big_quiet_step (fail)
          refine wpQuiet_nil ?_
          refine E_mob2 15 _ rfl (by kernel_rfl) ?_
          simp only [List.getElem_toArray, List.getElem_cons_succ, List.getElem_cons_zero]
          go_big_quiet_step (fail)
          refine wpQuiet_nil ?_
          refine E_mob2 16 _ rfl (by kernel_rfl) ?_
          simp only [List.getElem_toArray, List.getElem_cons_succ, List.getElem_cons_zero]
          go_big_quiet_step (fail)
          refine wpQuiet_nil ?_
          refine E_mob2 17 _ rfl (by kernel_rfl) ?_
          simp only [List.getElem_toArray, List.getElem_cons_succ, List.getElem_cons_zero]
          go_big_quiet_step (fail)
          refine wpQuiet_nil ?_
          refine E_mob2 18 _ rfl (by kernel_rfl) ?_
          simp only [List.getElem_toArray, List.getElem_cons_succ, List.getElem_cons_zero]
          go_big_quiet_step (fail)
          refine wpQuiet_nil ?_
          refine E_mob2 19 _ rfl (by kernel_rfl) ?_
          simp only [List.getElem_toArray, List.getElem_cons_succ, List.getElem_cons_zero]
          go_big_quiet_step (fail)
          refine wpQuiet_nil ?_
          refine E_done (by kernel_rfl) ?_ _
          clear x3
          go_wp2_with fail
          clear cI cO BX hB enr
          obtain ⟨bb, ob, vi', rfl, hvi, c0, -⟩ := HBk.out n hlt
          have hbb : bb < w2.heap.size := World.block_lt_of_cell? w2 _ (HE.out w2 B2.out _ _ c0)
          have C0 := Lib.hid c0
          have hvi' := hvi
          obtain ⟨ai, ci', rfl, hii1, hii2, -⟩ := hvi'
          unfold maxLen at hii2
          clear hvi c0
          have ERn := Lib.hid (fun k0 r w' he => ER.out n k0 r w' he hlt)
          have ERz := Lib.hid (fun r w' he => ER0.out n r w' he hlt)
          generalize p.blks.getD n default = BK at HLn C0 hii1 ERn
          go_loopw [6] (fun i wr => ∃ r : Nat, r ≤ regsN p ∧ i = .int .i64 (r : Int) ∧ Hid (Below w2.heap.size w2 wr)) (fun i _ => regsN p - (intOf i).toNat)
          case atStart => exact ⟨0, Nat.zero_le _, rfl, hB1⟩
          case round =>
            clear hB1
            obtain ⟨r, hr, rfl, hB⟩ := hrel
            have cI : wr.cell? ⟨ti, n, none⟩ = some (.slice (some ⟨g1, 0, none⟩) (regsN p) (regsN p)) := (hB.out.cell (p := ⟨ti, n, none⟩) htl).trans CI.out
            by_cases hlr : r < regsN p
            · go_wp2_with fail
              clear cI
              obtain ⟨W3, hW3⟩ : ∃ W3, W3 = wr.drew := ⟨_, rfl⟩
              have hB3 : Hid (Below w2.heap.size w2 W3) := by rw [hW3]; exact hB.out.drew
              refine wp_region_game (fun b => b < w2.heap.size) (by kernel_rfl) ?_
              show wpE _ _ _ _ _ _ _ wr.drew
              rw [← hW3]
              clear hW3 hB
              have BX : Hid (Below (w.heap.size + 1) W0 W3) := B2.out.trans (hB3.out.mono (by omega))
              have cI : W3.cell? ⟨ti, n, none⟩ = some (.slice (some ⟨g1, 0, none⟩) (regsN p) (regsN p)) := (hB3.out.cell (p := ⟨ti, n, none⟩) htl).trans CI.out
              have r1 := (hB3.out.cell (p := ⟨g1, r, none⟩) hg1).trans (R1.out r hlr)
              rw [(HLn.out r hlr).1] at r1
              have x0 := HBX.out W3 BX.out 0 (by decide)
              have x1 := HBX.out W3 BX.out 1 (by decide)
              have x2 := HBX.out W3 BX.out 2 (by decide)
              have x3 := HBX.out W3 BX.out 3 (by decide)
              have x4 := HBX.out W3 BX.out 4 (by decide)
              have x5 := HBX.out W3 BX.out 5 (by decide)
              simp at x0 x1 x2 x3 x4 x5
              have hz3 : w2.heap.size ≤ W3.heap.size := hB3.out.size
              have hbx := bne_self_eq_false (a := liveP p n 0 (r : Int))
              have hby := bne_self_eq_false (a := liveP p n BK.ins.length (r : Int))
              refine E_mob2 0 _ rfl (by kernel_rfl) ?_
              simp only [List.getElem_toArray, List.getElem_cons_succ, List.getElem_cons_zero]
              go_big_quiet_step (fail)
              refine wpQuiet_nil ?_
              refine E_mob2 1 _ rfl (by kernel_rfl) ?_
              simp only [List.getElem_toArray, List.getElem_cons_succ, List.getElem_cons_zero]
              go_big_quiet_step (fail)
              refine wpQuiet_nil ?_
              refine E_mob2 2 _ rfl (by kernel_rfl) ?_
              simp only [List.getElem_toArray, List.getElem_cons_succ, List.getElem_cons_zero]
              go_big_quiet_step (fail)
              refine wpQuiet_nil ?_
              refine E_mob2 3 _ rfl (by kernel_rfl) ?_
              simp only [List.getElem_toArray, List.getElem_cons_succ, List.getElem_cons_zero]
              go_big_quiet_step (fail)
              refine wpQuiet_nil ?_
              refine E_mob2 4 _ rfl (by kernel_rfl) ?_
              simp only [List.getElem_toArray, List.getElem_cons_succ, List.getElem_cons_zero]
              go_big_quiet_step (fail)
              refine wpQuiet_nil ?_
              refine E_mob2 5 _ rfl (by kernel_rfl) ?_
              simp only [List.getElem_toArray, List.getElem_cons_succ, List.getElem_cons_zero]
              go_big_quiet_step (fail)
              refine wpQuiet_nil ?_
              refine E_mob2 6 _ rfl (by kernel_rfl) ?_
              simp only [List.getElem_toArray, List.getElem_cons_succ, List.getElem_cons_zero]
              go_big_quiet_step (fail)
              refine wpQuiet_nil ?_
              refine E_mob2 7 _ rfl (by kernel_rfl) ?_
              simp only [List.getElem_toArray, List.getElem_cons_succ, List.getElem_cons_zero]
              go_big_quiet_step (fail)
              refine wpQuiet_nil ?_
              refine E_mob2 8 _ rfl (by kernel_rfl) ?_
              simp only [List.getElem_toArray, List.getElem_cons_succ, List.getElem_cons_zero]
              go_big_quiet_step (fail)
              refine wpQuiet_nil ?_
              refine E_mob2 9 _ rfl (by kernel_rfl) ?_
              simp only [List.getElem_toArray, List.getElem_cons_succ, List.getElem_cons_zero]
              go_big_quiet_step (fail)
              refine wpQuiet_nil ?_
              refine E_loud1 10 _ rfl (by kernel_rfl) ?_
              simp only [List.getElem_toArray, List.getElem_cons_succ, List.getElem_cons_zero]
              go_wp2_with fail
              refine (ERz.out (r : Int) W3 (HE.out W3 BX.out)).mono ?_
              rintro e w4 ⟨rfl, hb4⟩
              have hb4 := Lib.hid hb4
              clear x0 x1 x2 x3 x4 x5 cI r1
              have hB4 : Hid (Below w2.heap.size w2 w4) := hB3.out.trans (hb4.out.mono hz3)
              have BX4 : Hid (Below (w.heap.size + 1) W0 w4) := B2.out.trans (hB4.out.mono (by omega))
              have cO : w4.cell? ⟨tj, n, none⟩ = some (.slice (some ⟨g2, 0, none⟩) (regsN p) (regsN p)) := (hB4.out.cell (p := ⟨tj, n, none⟩) htj).trans CO.out
              have r2 := (hB4.out.cell (p := ⟨g2, r, none⟩) hg2).trans (R2.out r hlr)
              rw [(HLn.out r hlr).2] at r2
              have c0 := HE.out w4 BX4.out _ _ C0.out
              have x0 := HBX.out w4 BX4.out 0 (by decide)
              have x1 := HBX.out w4 BX4.out 1 (by decide)
              have x2 := HBX.out w4 BX4.out 2 (by decide)
              have x3 := HBX.out w4 BX4.out 3 (by decide)
              have x4 := HBX.out w4 BX4.out 4 (by decide)
              have x5 := HBX.out w4 BX4.out 5 (by decide)
              simp at x0 x1 x2 x3 x4 x5
              go_wp2_with fail
              refine ⟨keep_below hb4.out (fun b hb => Nat.lt_of_lt_of_le hb hz3), ?_⟩
              refine E_mob2 11 _ rfl (by kernel_rfl) ?_
              simp only [List.getElem_toArray, List.getElem_cons_succ, List.getElem_cons_zero]
              go_big_quiet_step (fail)
              refine wpQuiet_nil ?_
              refine E_mob2 12 _ rfl (by kernel_rfl) ?_
              simp only [List.getElem_toArray, List.getElem_cons_succ, List.getElem_cons_zero]
              go_big_quiet_step (fail)
              refine wpQuiet_nil ?_
              refine E_mob2 13 _ rfl (by kernel_rfl) ?_
              simp only [List.getElem_toArray, List.getElem_cons_succ, List.getElem_cons_zero]
              go_big_quiet_step (fail)
              refine wpQuiet_nil ?_
              refine E_mob2 14 _ rfl (by kernel_rfl) ?_
              simp only [List.getElem_toArray, List.getElem_cons_succ, List.getElem_cons_zero]
              go_big_quiet_step (fail)
              refine wpQuiet_nil ?_
              refine E_mob2 15 _ rfl (by kernel_rfl) ?_
              simp only [List.getElem_toArray, List.getElem_cons_succ, List.getElem_cons_zero]
              go_big_quiet_step (fail)
              refine wpQuiet_nil ?_
              refine E_mob2 16 _ rfl (by kernel_rfl) ?_
              simp only [List.getElem_toArray, List.getElem_cons_succ, List.getElem_cons_zero]
              go_big_quiet_step (fail)
              refine wpQuiet_nil ?_
              refine E_mob2 17 _ rfl (by kernel_rfl) ?_
              simp only [List.getElem_toArray, List.getElem_cons_succ, List.getElem_cons_zero]
              go_big_quiet_step (fail)
              refine wpQuiet_nil ?_
              refine E_mob2 18 _ rfl (by kernel_rfl) ?_
              simp only [List.getElem_toArray, List.getElem_cons_succ, List.getElem_cons_zero]
              go_big_quiet_step (fail)
              refine wpQuiet_nil ?_
              refine E_mob2 19 _ rfl (by kernel_rfl) ?_
              simp only [List.getElem_toArray, List.getElem_cons_succ, List.getElem_cons_zero]
              go_big_quiet_step (fail)
              refine wpQuiet_nil ?_
              refine E_mob2 20 _ rfl (by kernel_rfl) ?_
              simp only [List.getElem_toArray, List.getElem_cons_succ, List.getElem_cons_zero]
              go_big_quiet_step (fail)
              refine wpQuiet_nil ?_
              refine E_mob2 21 _ rfl (by kernel_rfl) ?_
              simp only [List.getElem_toArray, List.getElem_cons_succ, List.getElem_cons_zero]
              go_big_quiet_step (fail)
              refine wpQuiet_nil ?_
              refine E_mob2 22 _ rfl (by kernel_rfl) ?_
              simp only [List.getElem_toArray, List.getElem_cons_succ, List.getElem_cons_zero]
              go_big_quiet_step (fail)
              refine wpQuiet_nil ?_
              refine E_mob2 23 _ rfl (by kernel_rfl) ?_
              simp only [List.getElem_toArray, List.getElem_cons_succ, List.getElem_cons_zero]
              go_big_quiet_step (fail)
              refine wpQuiet_nil ?_
              refine E_mob2 24 _ rfl (by kernel_rfl) ?_
              simp only [List.getElem_toArray, List.getElem_cons_succ, List.getElem_cons_zero]
              go_big_quiet_step (fail)
              refine wpQuiet_nil ?_
              refine E_mob2 25 _ rfl (by kernel_rfl) ?_
              simp only [List.getElem_toArray, List.getElem_cons_succ, List.getElem_cons_zero]
              go_big_quiet_step (fail)
              refine wpQuiet_nil ?_
              refine E_mob2 26 _ rfl (by kernel_rfl) ?_
              simp only [List.getElem_toArray, List.getElem_cons_succ, List.getElem_cons_zero]
              go_big_quiet_step (fail)
              refine wpQuiet_nil ?_
              refine E_mob2 27 _ rfl (by kernel_rfl) ?_
              simp only [List.getElem_toArray, List.getElem_cons_succ, List.getElem_cons_zero]
              go_big_quiet_step (fail)
              refine wpQuiet_nil ?_
              refine E_mob2 28 _ rfl (by kernel_rfl) ?_
              simp only [List.getElem_toArray, List.getElem_cons_succ, List.getElem_cons_zero]
              go_big_quiet_step (fail)
              refine wpQuiet_nil ?_
              refine E_mob2 29 _ rfl (by kernel_rfl) ?_
              simp only [List.getElem_toArray, List.getElem_cons_succ, List.getElem_cons_zero]
              go_big_quiet_step (fail)
              refine wpQuiet_nil ?_
              refine E_loud1 30 _ rfl (by kernel_rfl) ?_
              simp only [List.getElem_toArray, List.getElem_cons_succ, List.getElem_cons_zero]
              go_wp2_with fail
              refine (ERn.out BK.ins.length (r : Int) w4 (HE.out w4 BX4.out) (Nat.le_refl _)).mono ?_
              rintro e w5 ⟨rfl, hb5⟩
              have hb5 := Lib.hid hb5
              have hz4 : w2.heap.size ≤ w4.heap.size := hB4.out.size
              go_wp2_with fail
              refine ⟨keep_below hb5.out (fun b hb => Nat.lt_of_lt_of_le hb hz4), ?_⟩
              refine E_mob2 31 _ rfl (by kernel_rfl) ?_
              simp only [List.getElem_toArray, List.getElem_cons_succ, List.getElem_cons_zero]
              go_big_quiet_step (fail)
              refine wpQuiet_nil ?_
              refine E_mob2 32 _ rfl (by kernel_rfl) ?_
              simp only [List.getElem_toArray, List.getElem_cons_succ, List.getElem_cons_zero]
              go_big_quiet_step (fail)
              refine wpQuiet_nil ?_
              refine E_done (by kernel_rfl) ?_ _
              have hB5 : Hid (Below w2.heap.size w2 w5) := hB4.out.trans (hb5.out.mono hz4)
              clear x0 x1 x2 x3 x4 x5 cO r2 c0
              go_wp2_with fail
              go_roundw
              case rel => exact ⟨r + 1, by omega, by go_num, hB5⟩
              case measure => simp [intOf]; omega
            · go_wp2_with fail
              go_roundw
              case rel => exact ⟨n + 1, by omega, by go_num, hB⟩
              case measure => simp [intOf]; omega
        · have hRz : regsN p = 0 := by unfold regsN; omega
          rw [hRz] at cI cO
          have hneg : p.regs < 0 := by omega
          refine E_mob2 0 _ rfl (by kernel_rfl) ?_
          simp only [List.getElem_toArray, List.getElem_cons_succ, List.getElem_cons_zero]
          go_big_quiet_step (fail)
          refine wpQuiet_nil ?_
          refine E_mob2 1 _ rfl (by kernel_rfl) ?_
          simp only [List.getElem_toArray, List.getElem_cons_succ, List.getElem_cons_zero]
          go_big_quiet_step (fail)
          refine wpQuiet_nil ?_
          refine E_mob2 2 _ rfl (by kernel_rfl) ?_
          simp only [List.getElem_toArray, List.getElem_cons_succ, List.getElem_cons_zero]
          go_big_quiet_step (fail)
          refine wpQuiet_nil ?_
          refine E_mob2 3 _ rfl (by kernel_rfl) ?_
          simp only [List.getElem_toArray, List.getElem_cons_succ, List.getElem_cons_zero]
          go_big_quiet_step (fail)
          refine wpQuiet_nil ?_
          refine E_mob2 4 _ rfl (by kernel_rfl) ?_
          simp only [List.getElem_toArray, List.getElem_cons_succ, List.getElem_cons_zero]
          go_big_quiet_step (fail)
          refine wpQuiet_nil ?_
          refine E_mob2 5 _ rfl (by kernel_rfl) ?_
          simp only [List.getElem_toArray, List.getElem_cons_succ, List.getElem_cons_zero]
          go_big_quiet_step (fail)
          refine wpQuiet_nil ?_
          refine E_mob2 6 _ rfl (by kernel_rfl) ?_
          simp only [List.getElem_toArray, List.getElem_cons_succ, List.getElem_cons_zero]
          go_big_quiet_step (fail)
          refine wpQuiet_nil ?_
          refine E_mob2 7 _ rfl (by kernel_rfl) ?_
          simp only [List.getElem_toArray, List.getElem_cons_succ, List.getElem_cons_zero]
          go_big_quiet_step (fail)
          refine wpQuiet_nil ?_
          refine E_mob2 8 _ rfl (by kernel_rfl) ?_
          simp only [List.getElem_toArray, List.getElem_cons_succ, List.getElem_cons_zero]
          go_big_quiet_step (fail)
          refine wpQuiet_nil ?_
          refine E_mob2 9 _ rfl (by kernel_rfl) ?_
          simp only [List.getElem_toArray, List.getElem_cons_succ, List.getElem_cons_zero]
          go_big_quiet_step (fail)
          refine wpQuiet_nil ?_
          refine E_mob2 10 _ rfl (by kernel_rfl) ?_
          simp only [List.getElem_toArray, List.getElem_cons_succ, List.getElem_cons_zero]
          go_big_quiet_step (fail)
          refine wpQuiet_nil ?_
          refine E_mob2 11 _ rfl (by kernel_rfl) ?_
          simp only [List.getElem_toArray, List.getElem_cons_succ, List.getElem_cons_zero]
          go_big_quiet_step (fail)
          refine wpQuiet_nil ?_
          refine E_mob2 12 _ rfl (by kernel_rfl) ?_
          simp only [List.getElem_toArray, List.getElem_cons_succ, List.getElem_cons_zero]
          go_big_quiet_step (fail)
          refine wpQuiet_nil ?_
          refine E_mob2 13 _ rfl (by kernel_rfl) ?_
          simp only [List.getElem_toArray, List.getElem_cons_succ, List.getElem_cons_zero]
          go_big_quiet_step (fail)
          refine wpQuiet_nil ?_
          refine E_mob2 14 _ rfl (by kernel_rfl) ?_
          simp only [List.getElem_toArray, List.getElem_cons_succ, List.getElem_cons_zero]
          go_big_quiet_step (fail)
          refine wpQuiet_nil ?_
          refine E_mob2 15 _ rfl (by kernel_rfl) ?_
          simp only [List.getElem_toArray, List.getElem_cons_succ, List.getElem_cons_zero]
          go_big_quiet_step (fail)
          refine wpQuiet_nil ?_
          refine E_mob2 16 _ rfl (by kernel_rfl) ?_
          simp only [List.getElem_toArray, List.getElem_cons_succ, List.getElem_cons_zero]
          go_big_quiet_step (fail)
          refine wpQuiet_nil ?_
          refine E_mob2 17 _ rfl (by kernel_rfl) ?_
          simp only [List.getElem_toArray, List.getElem_cons_succ, List.getElem_cons_zero]
          go_big_quiet_step (fail)
          refine wpQuiet_nil ?_
          refine E_mob2 18 _ rfl (by kernel_rfl) ?_
          simp only [List.getElem_toArray, List.getElem_cons_succ, List.getElem_cons_zero]
          go_big_quiet_step (fail)
          refine wpQuiet_nil ?_
          refine E_mob2 19 _ rfl (by kernel_rfl) ?_
          simp only [List.getElem_toArray, List.getElem_cons_succ, List.getElem_cons_zero]
          go_big_quiet_step (fail)
          refine wpQuiet_nil ?_
          refine E_done (by kernel_rfl) ?_ _
          clear x3
          go_wp2_with fail
          clear cI cO BX hB
          rw [hRz] at CI
          go_loopw [6] (fun i wr => i = .int .i64 0 ∧ Hid (Below w2.heap.size w2 wr)) (fun _ _ => 0)
          case atStart => exact ⟨rfl, hB1⟩
          case round =>
            clear hB1
            obtain ⟨rfl, hB⟩ := hrel
            have cI : wr.cell? ⟨ti, n, none⟩ = some (.slice (some ⟨g1, 0, none⟩) 0 0) := (hB.out.cell (p := ⟨ti, n, none⟩) htl).trans CI.out
            go_wp2_with fail
            go_roundw
            case rel => exact ⟨n + 1, by omega, by go_num, hB⟩
            case measure => simp [intOf]; omega
      · go_wp2_with (go_at_call 12; refine (awake16_c _).mono ?_; rintro e w9 ⟨rfl, hb9⟩; have hb9 := Lib.hid hb9)
        go_ret
        exact ⟨rfl, HR.out _ (B2.out.trans ((hB.out.trans (hb9.out.mono hB.out.size)).mono (by omega)))⟩
  · have tabS : ∀ (v : Value) (g : Nat → Nat), TabV w2 w1.heap.size v ((List.range p.blks.length).map fun k => rowV (g k) (regsN p) (regsN p)) → ∃ a c, v = .slice a p.blks.length c := fun v g h => by
      obtain ⟨-, ⟨rfl, h2⟩ | ⟨g, cap, cur, rfl, -⟩⟩ := h
      · exact ⟨none, 0, by rw [show p.blks.length = 0 by omega]⟩
      · exact ⟨some ⟨g, 0, none⟩, cap, by simp⟩
    obtain ⟨a1, c1, rfl⟩ := tabS _ _ M.out.tabI
    obtain ⟨a2, c2, rfl⟩ := tabS _ _ M.out.tabO
    have en : ((p.blks.length : Int) != (p.blks.length : Int)) = false := by simp
    have e0 : decide ((0 : Int) < (p.blks.length : Int)) = false := decide_eq_false (by omega)
    clear tabS
    go_wp2_with fail
    clear x0 x1 x2 x3 x4 x5 en
    go_loopw [5] (fun i wr => i = .int .i64 0 ∧ wr = w2) (fun _ _ => 0)
    case atStart => exact ⟨rfl, rfl⟩
    case round =>
      obtain ⟨rfl, rfl⟩ := hrel
      go_wp2_with (go_at_call 12; refine (awake16_c _).mono ?_; rintro e w9 ⟨rfl, hb9⟩; have hb9 := Lib.hid hb9)
      go_ret
      exact ⟨rfl, HR.out _ (B2.out.trans (hb9.out.mono (by have := B2.out.size; omega)))⟩
theorem flowLives_c (p : Pr) (V : Value) (w : World) (hok : PrOk p) (hP : PrV w V p) :
    Calls Try.prog 3 #[V] w fun e w' => e = .returned (.bool true) ∧ Below w.heap.size w w' := by
  cases hf : fewP p
  · exact flowLives_no p V w hP hf
  · exact flowLives_yes p V w hok.regs hP hf
end Go.Proofs.Ytegkbopibacfoaa
