/-
  FlowLeads walked: predecessors, what is reached, the order and the ends that lead back are as the reference has them.
-/
import Derived.Test.YtegkbopibacfoaaH6
import Derived.Test.YtegkbopibacfoaaG19
set_option linter.all false
namespace Go.Proofs.Ytegkbopibacfoaa
open Go.ChangeShapes Go.WideShapes Go.ChangeAt Go.RowKit
set_option maxHeartbeats 4000000
set_option maxRecDepth 20000

theorem flowLeads_no (p : Pr) (V : Value) (w : World) (hP : PrV w V p) (hf : fewP p = false) :
    Calls Try.prog 6 #[V] w fun e w' => e = .returned (.bool true) ∧ Below w.heap.size w w' := by
  have EF : Hid (∀ o, Calls Try.prog 11 #[V] (w.alloc o) fun e w' => e = .returned (.bool false) ∧ Below (w.alloc o).heap.size (w.alloc o) w') := fun o => by rw [← hf]; exact fewp_c p V _ (hP.ext (Ext.alloc w o))
  obtain ⟨nm, vo, vb, rfl, -, a, c, rfl, -, -, -⟩ := hP
  go_enter Try.func6, Try.ntmps6
  go_wp2_with (first | (go_at_call 11; refine (EF.out _).mono ?_; rintro e w1 ⟨rfl, hb1⟩; have hb1 := Lib.hid hb1) | (go_at_call 12; refine (awake16_c _).mono ?_; rintro e w2 ⟨rfl, hb2⟩; have hb2 := Lib.hid hb2))
  go_ret
  exact ⟨rfl, (below_alloc w _).trans ((hb1.out.trans (hb2.out.mono hb1.out.size)).mono (by simp))⟩
theorem flowLeads_yes (p : Pr) (V : Value) (w : World) (hP : PrV w V p) (hf : fewP p = true) :
    Calls Try.prog 6 #[V] w fun e w' => e = .returned (.bool true) ∧ Below w.heap.size w w' := by
  obtain ⟨-, f2, -⟩ := fewP_yes hf
  have EF : Hid (∀ o, Calls Try.prog 11 #[V] (w.alloc o) fun e w' => e = .returned (.bool true) ∧ Below (w.alloc o).heap.size (w.alloc o) w') := fun o => by rw [← hf]; exact fewp_c p V _ (hP.ext (Ext.alloc w o))
  have EO : Hid (∀ w', Ext w w' → Calls Try.prog 15 #[V] w' (RetI w' (wkD p).ord.reverse)) := fun w' he => order_c p V w' (hP.ext he) (by omega)
  have EQ : Hid (∀ w', Ext w w' → Calls Try.prog 24 #[V] w' (RetI w' (wkD p).ord.reverse)) := fun w' he => rorder_c p V w' (hP.ext he) (by omega)
  have EB : Hid (∀ w', Ext w w' → Calls Try.prog 16 #[V] w' (RetP w' (wkD p).back)) := fun w' he => back_c p V w' (hP.ext he) (by omega)
  have EC : Hid (∀ w', Ext w w' → Calls Try.prog 17 #[V] w' fun e w'' => ∃ g, e = .returned (.slice (some ⟨g, 0, none⟩) p.blks.length p.blks.length) ∧ w'.heap.size ≤ g ∧ RowB w'' g p.blks.length p.blks.length (reachP p) ∧ Below w'.heap.size w' w'') := fun w' he => reach_c p V w' (hP.ext he) (by omega)
  have ED : Hid (∀ w', Ext w w' → Calls Try.prog 21 #[V] w' fun e w'' => ∃ g, e = .returned (.slice (some ⟨g, 0, none⟩) p.blks.length p.blks.length) ∧ w'.heap.size ≤ g ∧ RowB w'' g p.blks.length p.blks.length (reachP p) ∧ Below w'.heap.size w' w'') := fun w' he => rreach_c p V w' (hP.ext he) (by omega)
  have EW : Hid (∀ w', Ext w w' → Calls Try.prog 22 #[V] w' (WkV w' p)) := fun w' he => rwalked_c p V w' (hP.ext he) (by omega)
  have EP : Hid (∀ w', Ext w w' → Calls Try.prog 20 #[V] w' fun e w'' => ∃ gP B vs, e = .returned (.slice (some ⟨gP, 0, none⟩) p.blks.length p.blks.length) ∧ PT w' w'' gP B p.blks.length vs (prT p p.blks.length 0)) := fun w' he => preds_c p V w' (hP.ext he) (by omega)
  have ER : Hid (∀ (i : Nat) w', Ext w w' → Calls Try.prog 25 #[V, .int .i64 (i : Int)] w' (RetI w' (predsP p i))) := fun i w' he => rpreds_c p V i w' (hP.ext he) (by omega)
  have ES : Hid (∀ (l : List Int) v v' w', RdI w' v l → RdI w' v' l → Calls Try.prog 23 #[v, v'] w' fun e w'' => e = .returned (.bool true) ∧ Below w'.heap.size w' w'') := fun l v v' w' h h' => by
    have := same_c l l v v' w' h h'
    rwa [show decide (l = l) = true from decide_eq_true rfl] at this
  have hWL := wkD_len p (by omega)
  clear hf
  obtain ⟨nm, vo, vb, rfl, -, hvb⟩ := hP
  obtain ⟨a, c, rfl, hc1, hc2, -⟩ := hvb
  unfold maxLen at hc2
  go_enter Try.func6, Try.ntmps6
  go_wp2_with fail
  obtain ⟨W0, hW0⟩ : ∃ W0, W0 = w.alloc (.cells #[.string nm, .bool p.void, .int .i64 p.params, .int .i64 p.regs, vo, .slice a p.blks.length c] 25) := ⟨_, rfl⟩
  have HBX : Hid (∀ w', Below (w.heap.size + 1) W0 w' → ∀ j : Nat, j < 6 → w'.cell? ⟨w.heap.size, j, none⟩ = #[Value.string nm, .bool p.void, .int .i64 p.params, .int .i64 p.regs, vo, .slice a p.blks.length c][j]?) := fun w' hb j _ => (hb.cell (p := ⟨w.heap.size, j, none⟩) (Nat.lt_succ_self _)).trans (by rw [hW0]; exact cell_of_heap (heap_alloc_new w _) j)
  have HE : Hid (∀ w', Below (w.heap.size + 1) W0 w' → Ext w w') := fun w' hb => (show Ext w W0 by rw [hW0]; exact Ext.alloc w _).trans (Ext.below (hb.mono (by rw [hW0]; simp)))
  have hz0 : W0.heap.size = w.heap.size + 1 := by rw [hW0]; simp
  have HR : Hid (∀ w', Below (w.heap.size + 1) W0 w' → Below w.heap.size w w') := fun w' hb => (show Below w.heap.size w W0 by rw [hW0]; exact below_alloc w _).trans (hb.mono (by omega))
  refine (EF.out _).mono ?_
  rintro e w1 ⟨rfl, hb1⟩
  rw [← hW0] at hb1
  clear hW0 EF
  have B1 : Hid (Below (w.heap.size + 1) W0 w1) := by rw [← hz0]; exact hb1
  clear hb1 hz0
  go_wp2_with fail
  obtain ⟨W1, hW1⟩ : ∃ W1, W1 = w1.drew := ⟨_, rfl⟩
  have D1 : Hid (Below (w.heap.size + 1) W0 W1) := by rw [hW1]; exact B1.out.drew
  refine wp_region_game (fun b => b = w.heap.size) (by kernel_rfl) ?_
  show wpE _ _ _ _ _ _ _ w1.drew
  rw [← hW1]
  clear hW1 B1
  have x0 := HBX.out W1 D1.out 0 (by decide)
  have x1 := HBX.out W1 D1.out 1 (by decide)
  have x2 := HBX.out W1 D1.out 2 (by decide)
  have x3 := HBX.out W1 D1.out 3 (by decide)
  have x4 := HBX.out W1 D1.out 4 (by decide)
  have x5 := HBX.out W1 D1.out 5 (by decide)
  simp at x0 x1 x2 x3 x4 x5
  have hw0 : w.heap.size + 1 ≤ W0.heap.size := by
    have h := HE.out W0 (Below.refl _ _)
    rcases Nat.lt_or_ge w.heap.size W0.heap.size with h2 | h2
    · exact h2
    · have := HBX.out W0 (Below.refl _ _) 0 (by decide)
      have := World.block_lt_of_cell? W0 _ this
      exact this
  have hz1 : w.heap.size < W1.heap.size := by have := D1.out.size; omega
  refine E_mob2 0 _ rfl (by kernel_rfl) ?_
  simp only [List.getElem_toArray, List.getElem_cons_succ, List.getElem_cons_zero]
  go_big_quiet_step (fail)
  refine wpQuiet_nil ?_
  refine E_mob2 2 _ rfl (by kernel_rfl) ?_
  simp only [List.getElem_toArray, List.getElem_cons_succ, List.getElem_cons_zero]
  go_big_quiet_step (fail)
  refine wpQuiet_nil ?_
  refine E_mob2 4 _ rfl (by kernel_rfl) ?_
  simp only [List.getElem_toArray, List.getElem_cons_succ, List.getElem_cons_zero]
  go_big_quiet_step (fail)
  refine wpQuiet_nil ?_
  refine E_loud1 1 _ rfl (by kernel_rfl) ?_
  simp only [List.getElem_toArray, List.getElem_cons_succ, List.getElem_cons_zero]
  go_wp2_with fail
  refine (EP.out _ (HE.out W1 D1.out)).mono ?_
  rintro e w2 ⟨gP, PB, vs, rfl, MP⟩
  have MP := Lib.hid MP
  have D2 : Hid (Below (w.heap.size + 1) W0 w2) := D1.out.trans (MP.out.below.mono (by omega))
  clear x0 x1 x2 x3 x4 x5
  have x0 := HBX.out w2 D2.out 0 (by decide)
  have x1 := HBX.out w2 D2.out 1 (by decide)
  have x2 := HBX.out w2 D2.out 2 (by decide)
  have x3 := HBX.out w2 D2.out 3 (by decide)
  have x4 := HBX.out w2 D2.out 4 (by decide)
  have x5 := HBX.out w2 D2.out 5 (by decide)
  simp at x0 x1 x2 x3 x4 x5
  have hz2 : w.heap.size < w2.heap.size := by have := D2.out.size; omega
  go_wp2_with fail
  refine ⟨keep_below MP.out.below (fun b hb => by rw [hb]; exact hz1), ?_⟩
  refine E_loud1 3 _ rfl (by kernel_rfl) ?_
  simp only [List.getElem_toArray, List.getElem_cons_succ, List.getElem_cons_zero]
  go_wp2_with fail
  refine (EC.out _ (HE.out w2 D2.out)).mono ?_
  rintro e w3 ⟨gr, rfl, hgr, hrow, hb3⟩
  have hb3 := Lib.hid hb3
  have hrow := Lib.hid hrow
  have D3 : Hid (Below (w.heap.size + 1) W0 w3) := D2.out.trans (hb3.out.mono (by omega))
  clear x0 x1 x2 x3 x4 x5
  have x0 := HBX.out w3 D3.out 0 (by decide)
  have x1 := HBX.out w3 D3.out 1 (by decide)
  have x2 := HBX.out w3 D3.out 2 (by decide)
  have x3 := HBX.out w3 D3.out 3 (by decide)
  have x4 := HBX.out w3 D3.out 4 (by decide)
  have x5 := HBX.out w3 D3.out 5 (by decide)
  simp at x0 x1 x2 x3 x4 x5
  have hz3 : w.heap.size < w3.heap.size := by have := D3.out.size; omega
  go_wp2_with fail
  refine ⟨keep_below hb3.out (fun b hb => by rw [hb]; exact hz2), ?_⟩
  refine E_loud1 5 _ rfl (by kernel_rfl) ?_
  simp only [List.getElem_toArray, List.getElem_cons_succ, List.getElem_cons_zero]
  go_wp2_with fail
  refine (EB.out _ (HE.out w3 D3.out)).mono ?_
  rintro e w4 ⟨v4, rfl, ho4, hb4⟩
  have hb4 := Lib.hid hb4
  have ho4 := Lib.hid (RdP.of ho4)
  have D4 : Hid (Below (w.heap.size + 1) W0 w4) := D3.out.trans (hb4.out.mono (by omega))
  clear x0 x1 x2 x3 x4 x5
  have x0 := HBX.out w4 D4.out 0 (by decide)
  have x1 := HBX.out w4 D4.out 1 (by decide)
  have x2 := HBX.out w4 D4.out 2 (by decide)
  have x3 := HBX.out w4 D4.out 3 (by decide)
  have x4 := HBX.out w4 D4.out 4 (by decide)
  have x5 := HBX.out w4 D4.out 5 (by decide)
  simp at x0 x1 x2 x3 x4 x5
  have hz4 : w.heap.size < w4.heap.size := by have := D4.out.size; omega
  go_wp2_with fail
  refine ⟨keep_below hb4.out (fun b hb => by rw [hb]; exact hz3), ?_⟩
  refine E_mob2 6 _ rfl (by kernel_rfl) ?_
  simp only [List.getElem_toArray, List.getElem_cons_succ, List.getElem_cons_zero]
  go_big_quiet_step (fail)
  refine wpQuiet_nil ?_
  refine E_mob2 7 _ rfl (by kernel_rfl) ?_
  simp only [List.getElem_toArray, List.getElem_cons_succ, List.getElem_cons_zero]
  go_big_quiet_step (fail)
  refine wpQuiet_nil ?_
  refine E_mob2 8 _ rfl (by kernel_rfl) ?_
  simp only [List.getElem_toArray, List.getElem_cons_succ, List.getElem_cons_zero]
  go_big_quiet_step (fail)
  refine wpQuiet_nil ?_
  refine E_done (by kernel_rfl) ?_ _
  have P24 : Hid (Below w2.heap.size w2 w4) := hb3.out.trans (hb4.out.mono hb3.out.size)
  have R4 : Hid (RowB w4 gr p.blks.length p.blks.length (reachP p)) := hrow.out.below hb4.out
  clear hrow hgr hb3 hz1 hz2 hz3 D1 D2 D3
  go_wp2_with fail
  refine (ED.out _ (HE.out w4 D4.out)).mono ?_
  rintro e w5 ⟨gq, rfl, -, hrow5, hb5⟩
  have hb5 := Lib.hid hb5
  have Q5 := Lib.hid hrow5
  have D5 : Hid (Below (w.heap.size + 1) W0 w5) := D4.out.trans (hb5.out.mono (by omega))
  clear x0 x1 x2 x3 x4 x5
  have x0 := HBX.out w5 D5.out 0 (by decide)
  have x1 := HBX.out w5 D5.out 1 (by decide)
  have x2 := HBX.out w5 D5.out 2 (by decide)
  have x3 := HBX.out w5 D5.out 3 (by decide)
  have x4 := HBX.out w5 D5.out 4 (by decide)
  have x5 := HBX.out w5 D5.out 5 (by decide)
  simp at x0 x1 x2 x3 x4 x5
  have hz5 : w.heap.size < w5.heap.size := by have := D5.out.size; omega
  clear hrow5
  go_wp2_with fail
  refine (EW.out _ (HE.out w5 D5.out)).mono ?_
  rintro e w6 ⟨gs, ov, bv, rfl, ho6, hbk6, hb6⟩
  have hb6 := Lib.hid hb6
  have D6 : Hid (Below (w.heap.size + 1) W0 w6) := D5.out.trans (hb6.out.mono (by omega))
  have RV := RdP.of hbk6
  obtain ⟨ao, co, rfl⟩ := row_form ho6
  obtain ⟨ab, cb, rfl, hab1, hab2, hab⟩ := RV
  have HAB := Lib.hid hab
  clear hab ho6 hbk6 x0 x1 x2 x3 x4 x5
  go_wp2_with fail
  obtain ⟨W7, hW7⟩ : ∃ W7, W7 = (w6.alloc (.cells #[.slice (some ⟨gs, 0, none⟩) p.blks.length p.blks.length, .slice ao (wkD p).ord.length co, .slice ab (wkD p).back.length cb] 51)).drew := ⟨_, rfl⟩
  have hb7 : Hid (Below w6.heap.size w6 W7) := by rw [hW7]; exact (below_alloc _ _).drew
  have C2 : Hid (W7.cell? ⟨w6.heap.size, 2, none⟩ = some (.slice ab (wkD p).back.length cb)) := by
    show World.cell? _ _ = _
    rw [hW7]
    have := cell_of_heap (heap_alloc_new w6 (.cells #[.slice (some ⟨gs, 0, none⟩) p.blks.length p.blks.length, .slice ao (wkD p).ord.length co, .slice ab (wkD p).back.length cb] 51)) 2
    simpa using this
  have hz7 : w6.heap.size < W7.heap.size := by rw [hW7]; simp [World.drew]
  have D7 : Hid (Below (w.heap.size + 1) W0 W7) := D6.out.trans (hb7.out.mono (by have := D6.out.size; omega))
  refine wp_region_game (fun b => b = w.heap.size ∨ b = w6.heap.size) (by kernel_rfl) ?_
  show wpE _ _ _ _ _ _ _ (World.drew _)
  rw [← hW7]
  clear hW7
  obtain ⟨a4, c4, rfl, ha41, ha42, h4c⟩ := ho4.out
  have H4C := Lib.hid h4c
  unfold maxLen at ha42 hab2
  have hbl : (wkD p).back.length ≤ 10000000 := by omega
  have q2 := C2.out
  have en : ((p.blks.length : Int) != (p.blks.length : Int)) = false := by simp
  have eb : (((wkD p).back.length : Int) != ((wkD p).back.length : Int)) = false := by simp
  have x0 := HBX.out W7 D7.out 0 (by decide)
  have x1 := HBX.out W7 D7.out 1 (by decide)
  have x2 := HBX.out W7 D7.out 2 (by decide)
  have x3 := HBX.out W7 D7.out 3 (by decide)
  have x4 := HBX.out W7 D7.out 4 (by decide)
  have x5 := HBX.out W7 D7.out 5 (by decide)
  simp at x0 x1 x2 x3 x4 x5
  have hz7w : w.heap.size < W7.heap.size := by have := D7.out.size; omega
  clear h4c ho4
  refine E_mob2 0 _ rfl (by kernel_rfl) ?_
  simp only [List.getElem_toArray, List.getElem_cons_succ, List.getElem_cons_zero]
  go_big_quiet_step (fail)
  refine wpQuiet_nil ?_
  refine E_mob2 1 _ rfl (by kernel_rfl) ?_
  simp only [List.getElem_toArray, List.getElem_cons_succ, List.getElem_cons_zero]
  go_big_quiet_step (fail)
  refine wpQuiet_nil ?_
  refine E_mob2 2 _ rfl (by kernel_rfl) ?_
  simp only [List.getElem_toArray, List.getElem_cons_succ, List.getElem_cons_zero]
  go_big_quiet_step (fail)
  refine wpQuiet_nil ?_
  refine E_mob2 3 _ rfl (by kernel_rfl) ?_
  simp only [List.getElem_toArray, List.getElem_cons_succ, List.getElem_cons_zero]
  go_big_quiet_step (fail)
  refine wpQuiet_nil ?_
  refine E_mob2 4 _ rfl (by kernel_rfl) ?_
  simp only [List.getElem_toArray, List.getElem_cons_succ, List.getElem_cons_zero]
  go_big_quiet_step (fail)
  refine wpQuiet_nil ?_
  refine E_mob2 5 _ rfl (by kernel_rfl) ?_
  simp only [List.getElem_toArray, List.getElem_cons_succ, List.getElem_cons_zero]
  go_big_quiet_step (fail)
  refine wpQuiet_nil ?_
  refine E_mob2 6 _ rfl (by kernel_rfl) ?_
  simp only [List.getElem_toArray, List.getElem_cons_succ, List.getElem_cons_zero]
  go_big_quiet_step (fail)
  refine wpQuiet_nil ?_
  refine E_mob2 7 _ rfl (by kernel_rfl) ?_
  simp only [List.getElem_toArray, List.getElem_cons_succ, List.getElem_cons_zero]
  go_big_quiet_step (fail)
  refine wpQuiet_nil ?_
  refine E_mob2 8 _ rfl (by kernel_rfl) ?_
  simp only [List.getElem_toArray, List.getElem_cons_succ, List.getElem_cons_zero]
  go_big_quiet_step (fail)
  refine wpQuiet_nil ?_
  refine E_mob2 9 _ rfl (by kernel_rfl) ?_
  simp only [List.getElem_toArray, List.getElem_cons_succ, List.getElem_cons_zero]
  go_big_quiet_step (fail)
  refine wpQuiet_nil ?_
  refine E_mob2 10 _ rfl (by kernel_rfl) ?_
  simp only [List.getElem_toArray, List.getElem_cons_succ, List.getElem_cons_zero]
  go_big_quiet_step (fail)
  refine wpQuiet_nil ?_
  refine E_mob2 11 _ rfl (by kernel_rfl) ?_
  simp only [List.getElem_toArray, List.getElem_cons_succ, List.getElem_cons_zero]
  go_big_quiet_step (fail)
  refine wpQuiet_nil ?_
  refine E_mob2 12 _ rfl (by kernel_rfl) ?_
  simp only [List.getElem_toArray, List.getElem_cons_succ, List.getElem_cons_zero]
  go_big_quiet_step (fail)
  refine wpQuiet_nil ?_
  refine E_mob2 13 _ rfl (by kernel_rfl) ?_
  simp only [List.getElem_toArray, List.getElem_cons_succ, List.getElem_cons_zero]
  go_big_quiet_step (fail)
  refine wpQuiet_nil ?_
  refine E_mob2 14 _ rfl (by kernel_rfl) ?_
  simp only [List.getElem_toArray, List.getElem_cons_succ, List.getElem_cons_zero]
  go_big_quiet_step (fail)
  refine wpQuiet_nil ?_
  refine E_mob2 15 _ rfl (by kernel_rfl) ?_
  simp only [List.getElem_toArray, List.getElem_cons_succ, List.getElem_cons_zero]
  go_big_quiet_step (fail)
  refine wpQuiet_nil ?_
  refine E_mob2 16 _ rfl (by kernel_rfl) ?_
  simp only [List.getElem_toArray, List.getElem_cons_succ, List.getElem_cons_zero]
  go_big_quiet_step (fail)
  refine wpQuiet_nil ?_
  refine E_mob2 17 _ rfl (by kernel_rfl) ?_
  simp only [List.getElem_toArray, List.getElem_cons_succ, List.getElem_cons_zero]
  go_big_quiet_step (fail)
  refine wpQuiet_nil ?_
  refine E_mob2 18 _ rfl (by kernel_rfl) ?_
  simp only [List.getElem_toArray, List.getElem_cons_succ, List.getElem_cons_zero]
  go_big_quiet_step (fail)
  refine wpQuiet_nil ?_
  refine E_mob2 19 _ rfl (by kernel_rfl) ?_
  simp only [List.getElem_toArray, List.getElem_cons_succ, List.getElem_cons_zero]
  go_big_quiet_step (fail)
  refine wpQuiet_nil ?_
  refine E_mob2 20 _ rfl (by kernel_rfl) ?_
  simp only [List.getElem_toArray, List.getElem_cons_succ, List.getElem_cons_zero]
  go_big_quiet_step (fail)
  refine wpQuiet_nil ?_
  refine E_mob2 21 _ rfl (by kernel_rfl) ?_
  simp only [List.getElem_toArray, List.getElem_cons_succ, List.getElem_cons_zero]
  go_big_quiet_step (fail)
  refine wpQuiet_nil ?_
  refine E_mob2 22 _ rfl (by kernel_rfl) ?_
  simp only [List.getElem_toArray, List.getElem_cons_succ, List.getElem_cons_zero]
  go_big_quiet_step (fail)
  refine wpQuiet_nil ?_
  refine E_mob2 24 _ rfl (by kernel_rfl) ?_
  simp only [List.getElem_toArray, List.getElem_cons_succ, List.getElem_cons_zero]
  go_big_quiet_step (fail)
  refine wpQuiet_nil ?_
  refine E_loud1 23 _ rfl (by kernel_rfl) ?_
  simp only [List.getElem_toArray, List.getElem_cons_succ, List.getElem_cons_zero]
  go_wp2_with fail
  refine (EO.out _ (HE.out W7 D7.out)).mono ?_
  rintro e w8 ⟨v8, rfl, ho8, hb8⟩
  have hb8 := Lib.hid hb8
  have D8 : Hid (Below (w.heap.size + 1) W0 w8) := D7.out.trans (hb8.out.mono (by omega))
  go_wp2_with fail
  refine ⟨keep_below hb8.out (fun b hb => by rcases hb with rfl | rfl <;> omega), ?_⟩
  refine E_loud1 25 _ rfl (by kernel_rfl) ?_
  simp only [List.getElem_toArray, List.getElem_cons_succ, List.getElem_cons_zero]
  go_wp2_with fail
  refine (EQ.out _ (HE.out w8 D8.out)).mono ?_
  rintro e w9 ⟨v9, rfl, ho9, hb9⟩
  have hb9 := Lib.hid hb9
  have D9 : Hid (Below (w.heap.size + 1) W0 w9) := D8.out.trans (hb9.out.mono (by have := hb8.out.size; omega))
  go_wp2_with fail
  refine ⟨keep_below hb9.out (fun b hb => by have := hb8.out.size; rcases hb with rfl | rfl <;> omega), ?_⟩
  refine E_loud1 26 _ rfl (by kernel_rfl) ?_
  simp only [List.getElem_toArray, List.getElem_cons_succ, List.getElem_cons_zero]
  go_wp2_with fail
  refine (ES.out _ _ _ w9 (ho8.rd.ext (Ext.below hb9.out)) ho9.rd).mono ?_
  rintro e w10 ⟨rfl, hb10⟩
  have hb10 := Lib.hid hb10
  have P7 : Hid (Below W7.heap.size W7 w10) := hb8.out.trans ((hb9.out.trans (hb10.out.mono hb9.out.size)).mono hb8.out.size)
  have D10 : Hid (Below (w.heap.size + 1) W0 w10) := D7.out.trans (P7.out.mono (by omega))
  go_wp2_with fail
  refine ⟨keep_below hb10.out (fun b hb => by have := hb8.out.size; have := hb9.out.size; rcases hb with rfl | rfl <;> omega), ?_⟩
  refine E_mob2 27 _ rfl (by kernel_rfl) ?_
  simp only [List.getElem_toArray, List.getElem_cons_succ, List.getElem_cons_zero]
  go_big_quiet_step (fail)
  refine wpQuiet_nil ?_
  refine E_mob2 28 _ rfl (by kernel_rfl) ?_
  simp only [List.getElem_toArray, List.getElem_cons_succ, List.getElem_cons_zero]
  go_big_quiet_step (fail)
  refine wpQuiet_nil ?_
  refine E_done (by kernel_rfl) ?_ _
  clear ho8 ho9 q2 en eb x0 x1 x2 x3 x4 x5 EO EQ EB EC ED EW EP
  have P610 : Hid (Below w6.heap.size w6 w10) := hb7.out.trans (P7.out.mono (by omega))
  have P410 : Hid (Below w4.heap.size w4 w10) := hb5.out.trans ((hb6.out.trans (P610.out.mono hb6.out.size)).mono hb5.out.size)
  have M10 : Hid (PT W1 w10 gP PB p.blks.length vs (prT p p.blks.length 0)) := MP.out.grow (P24.out.trans (P410.out.mono P24.out.size))
  have RC : Hid (∀ i, i < p.blks.length → w10.cell? ⟨gr, i, none⟩ = some (.bool ((reachP p).getD i false))) := (R4.out.below P410.out).cellAt.2.2.2.2.1
  have QC : Hid (∀ i, i < p.blks.length → w10.cell? ⟨gq, i, none⟩ = some (.bool ((reachP p).getD i false))) := (Q5.out.below (hb6.out.trans (P610.out.mono hb6.out.size))).cellAt.2.2.2.2.1
  have hgr : gr < w10.heap.size := (R4.out.below P410.out).cellAt.2.2.2.2.2.2
  have hgq : gq < w10.heap.size := (Q5.out.below (hb6.out.trans (P610.out.mono hb6.out.size))).cellAt.2.2.2.2.2.2
  have hgP : gP < w10.heap.size := by have := M10.out.gB; have := M10.out.Bw; omega
  have h610 : w6.heap.size < w10.heap.size := by have := P7.out.size; omega
  have hw10 : w.heap.size < w10.heap.size := by have := D10.out.size; omega
  have E4 : Hid (Ext w4 w10) := Ext.below P410.out
  have E6 : Hid (Ext w6 w10) := Ext.below P610.out
  have C10 : Hid (w10.cell? ⟨w6.heap.size, 2, none⟩ = some (.slice ab (wkD p).back.length cb)) := (P7.out.cell (p := ⟨w6.heap.size, 2, none⟩) hz7).trans C2.out
  clear hb5 hb6 hb7 hb8 hb9 hb10 P24 P7 P410 P610 MP R4 Q5 C2 D4 D5 D6 D7 D8 D9 hz4 hz5 hz7 hz7w
  go_wp2_with fail
  go_loopw [8] (fun i wr => ∃ n : Nat, n ≤ p.blks.length ∧ i = .int .i64 (n : Int) ∧ Hid (Below w10.heap.size w10 wr)) (fun i _ => p.blks.length - (intOf i).toNat)
  case atStart => exact ⟨0, Nat.zero_le _, rfl, Below.refl _ _⟩
  case round =>
    obtain ⟨n, hn, rfl, hB⟩ := hrel
    by_cases hlt : n < p.blks.length
    · go_wp2_with fail
      obtain ⟨W11, hW11⟩ : ∃ W11, W11 = wr.drew := ⟨_, rfl⟩
      have B11 : Hid (Below w10.heap.size w10 W11) := by rw [hW11]; exact hB.out.drew
      refine wp_region_game (fun b => b < w10.heap.size) (by kernel_rfl) ?_
      show wpE _ _ _ _ _ _ _ wr.drew
      rw [← hW11]
      clear hW11 hB
      have D11 : Hid (Below (w.heap.size + 1) W0 W11) := D10.out.trans (B11.out.mono (by omega))
      have r1 := (B11.out.cell (p := ⟨gr, n, none⟩) hgr).trans (RC.out n hlt)
      have r2 := (B11.out.cell (p := ⟨gq, n, none⟩) hgq).trans (QC.out n hlt)
      have M11 := Lib.hid (M10.out.grow B11.out)
      have r3 := M11.out.cell hlt
      have hrow := M11.out.row n hlt
      rw [prT_all p n hlt] at hrow
      obtain ⟨av, cv, hv⟩ := row_form hrow
      rw [hv] at r3 hrow
      have hrd := Lib.hid hrow.rd
      clear hrow hv
      have ERn := Lib.hid (ER.out n W11 (HE.out W11 D11.out))
      have hbx := bne_self_eq_false (a := (reachP p).getD n false)
      generalize predsP p n = L at hrd ERn r3
      generalize (reachP p).getD n false = y at r1 r2 hbx
      have hz11 : w10.heap.size ≤ W11.heap.size := B11.out.size
      have x0 := HBX.out W11 D11.out 0 (by decide)
      have x1 := HBX.out W11 D11.out 1 (by decide)
      have x2 := HBX.out W11 D11.out 2 (by decide)
      have x3 := HBX.out W11 D11.out 3 (by decide)
      have x4 := HBX.out W11 D11.out 4 (by decide)
      have x5 := HBX.out W11 D11.out 5 (by decide)
      simp at x0 x1 x2 x3 x4 x5
      refine E_mob2 0 _ rfl (by kernel_rfl) ?_
      simp only [List.getElem_toArray, List.getElem_cons_succ, List.getElem_cons_zero]
      go_big_quiet_step (fail)
      refine wpQuiet_nil ?_
      refine E_mob2 1 _ rfl (by kernel_rfl) ?_
      simp only [List.getElem_toArray, List.getElem_cons_succ, List.getElem_cons_zero]
      go_big_quiet_step (fail)
      refine wpQuiet_nil ?_
      refine E_mob2 2 _ rfl (by kernel_rfl) ?_
      simp only [List.getElem_toArray, List.getElem_cons_succ, List.getElem_cons_zero]
      go_big_quiet_step (fail)
      refine wpQuiet_nil ?_
      refine E_mob2 3 _ rfl (by kernel_rfl) ?_
      simp only [List.getElem_toArray, List.getElem_cons_succ, List.getElem_cons_zero]
      go_big_quiet_step (fail)
      refine wpQuiet_nil ?_
      refine E_mob2 4 _ rfl (by kernel_rfl) ?_
      simp only [List.getElem_toArray, List.getElem_cons_succ, List.getElem_cons_zero]
      go_big_quiet_step (fail)
      refine wpQuiet_nil ?_
      refine E_mob2 5 _ rfl (by kernel_rfl) ?_
      simp only [List.getElem_toArray, List.getElem_cons_succ, List.getElem_cons_zero]
      go_big_quiet_step (fail)
      refine wpQuiet_nil ?_
      refine E_mob2 6 _ rfl (by kernel_rfl) ?_
      simp only [List.getElem_toArray, List.getElem_cons_succ, List.getElem_cons_zero]
      go_big_quiet_step (fail)
      refine wpQuiet_nil ?_
      refine E_mob2 7 _ rfl (by kernel_rfl) ?_
      simp only [List.getElem_toArray, List.getElem_cons_succ, List.getElem_cons_zero]
      go_big_quiet_step (fail)
      refine wpQuiet_nil ?_
      refine E_mob2 8 _ rfl (by kernel_rfl) ?_
      simp only [List.getElem_toArray, List.getElem_cons_succ, List.getElem_cons_zero]
      go_big_quiet_step (fail)
      refine wpQuiet_nil ?_
      refine E_mob2 9 _ rfl (by kernel_rfl) ?_
      simp only [List.getElem_toArray, List.getElem_cons_succ, List.getElem_cons_zero]
      go_big_quiet_step (fail)
      refine wpQuiet_nil ?_
      refine E_mob2 10 _ rfl (by kernel_rfl) ?_
      simp only [List.getElem_toArray, List.getElem_cons_succ, List.getElem_cons_zero]
      go_big_quiet_step (fail)
      refine wpQuiet_nil ?_
      refine E_mob2 11 _ rfl (by kernel_rfl) ?_
      simp only [List.getElem_toArray, List.getElem_cons_succ, List.getElem_cons_zero]
      go_big_quiet_step (fail)
      refine wpQuiet_nil ?_
      refine E_mob2 12 _ rfl (by kernel_rfl) ?_
      simp only [List.getElem_toArray, List.getElem_cons_succ, List.getElem_cons_zero]
      go_big_quiet_step (fail)
      refine wpQuiet_nil ?_
      refine E_mob2 13 _ rfl (by kernel_rfl) ?_
      simp only [List.getElem_toArray, List.getElem_cons_succ, List.getElem_cons_zero]
      go_big_quiet_step (fail)
      refine wpQuiet_nil ?_
      refine E_mob2 14 _ rfl (by kernel_rfl) ?_
      simp only [List.getElem_toArray, List.getElem_cons_succ, List.getElem_cons_zero]
      go_big_quiet_step (fail)
      refine wpQuiet_nil ?_
      refine E_mob2 15 _ rfl (by kernel_rfl) ?_
      simp only [List.getElem_toArray, List.getElem_cons_succ, List.getElem_cons_zero]
      go_big_quiet_step (fail)
      refine wpQuiet_nil ?_
      refine E_loud1 16 _ rfl (by kernel_rfl) ?_
      simp only [List.getElem_toArray, List.getElem_cons_succ, List.getElem_cons_zero]
      go_wp2_with fail
      refine ERn.out.mono ?_
      rintro e w12 ⟨v12, rfl, ho12, hb12⟩
      have hb12 := Lib.hid hb12
      go_wp2_with fail
      refine ⟨keep_below hb12.out (fun b hb => Nat.lt_of_lt_of_le hb hz11), ?_⟩
      refine E_loud1 17 _ rfl (by kernel_rfl) ?_
      simp only [List.getElem_toArray, List.getElem_cons_succ, List.getElem_cons_zero]
      go_wp2_with fail
      refine (ES.out _ _ _ w12 (hrd.out.ext (Ext.below hb12.out)) ho12.rd).mono ?_
      rintro e w13 ⟨rfl, hb13⟩
      have hb13 := Lib.hid hb13
      go_wp2_with fail
      refine ⟨keep_below hb13.out (fun b hb => Nat.lt_of_lt_of_le hb (Nat.le_trans hz11 hb12.out.size)), ?_⟩
      refine E_mob2 18 _ rfl (by kernel_rfl) ?_
      simp only [List.getElem_toArray, List.getElem_cons_succ, List.getElem_cons_zero]
      go_big_quiet_step (fail)
      refine wpQuiet_nil ?_
      refine E_mob2 19 _ rfl (by kernel_rfl) ?_
      simp only [List.getElem_toArray, List.getElem_cons_succ, List.getElem_cons_zero]
      go_big_quiet_step (fail)
      refine wpQuiet_nil ?_
      refine E_done (by kernel_rfl) ?_ _
      have B13 : Hid (Below w10.heap.size w10 w13) := B11.out.trans ((hb12.out.trans (hb13.out.mono hb12.out.size)).mono hz11)
      clear r1 r2 r3 hbx x0 x1 x2 x3 x4 x5 ho12
      go_wp2_with fail
      go_roundw
      case rel => exact ⟨n + 1, by omega, by go_num, B13⟩
      case measure => simp [intOf]; omega
    · go_wp2_with fail
      go_loopw [9] (fun i wr => ∃ n : Nat, n ≤ (wkD p).back.length ∧ i = .int .i64 (n : Int) ∧ Hid (Below w10.heap.size w10 wr)) (fun i _ => (wkD p).back.length - (intOf i).toNat)
      case atStart => exact ⟨0, Nat.zero_le _, rfl, hB⟩
      case round =>
        clear hB
        obtain ⟨j, hj, rfl, hB⟩ := hrel
        by_cases hlj : j < (wkD p).back.length
        · obtain ⟨b4, o4, rfl, p0, p1⟩ := H4C.out j hlj
          obtain ⟨b6, o6, rfl, s0, s1⟩ := HAB.out j hlj
          generalize (wkD p).back.getD j (0, 0) = e at p0 p1 s0 s1
          replace p0 := E4.out _ _ p0
          replace p1 := E4.out _ _ p1
          replace s0 := E6.out _ _ s0
          replace s1 := E6.out _ _ s1
          simp only [Nat.add_zero] at p0 s0
          have hb4 : b4 < w10.heap.size := World.block_lt_of_cell? w10 _ p0
          have hb6 : b6 < w10.heap.size := World.block_lt_of_cell? w10 _ s0
          obtain ⟨ea, eb⟩ := e
          simp only at p0 p1 s0 s1
          go_wp2_with fail
          obtain ⟨W11, hW11⟩ : ∃ W11, W11 = wr.drew := ⟨_, rfl⟩
          have B11 : Hid (Below w10.heap.size w10 W11) := by rw [hW11]; exact hB.out.drew
          refine wp_region_game (fun b => b < w10.heap.size) (by kernel_rfl) ?_
          show wpE _ _ _ _ _ _ _ wr.drew
          rw [← hW11]
          clear hW11 hB
          replace p0 := (B11.out.cell (p := ⟨b4, o4 + j * 2, none⟩) hb4).trans p0
          replace p1 := (B11.out.cell (p := ⟨b4, o4 + j * 2 + 1, none⟩) hb4).trans p1
          replace s0 := (B11.out.cell (p := ⟨b6, o6 + j * 2, none⟩) hb6).trans s0
          replace s1 := (B11.out.cell (p := ⟨b6, o6 + j * 2 + 1, none⟩) hb6).trans s1
          have q2 := (B11.out.cell (p := ⟨w6.heap.size, 2, none⟩) h610).trans C10.out
          have hpe := run_equalIn_pair
          refine E_mob2 0 _ rfl (by kernel_rfl) ?_
          simp only [List.getElem_toArray, List.getElem_cons_succ, List.getElem_cons_zero]
          go_big_quiet_step (fail)
          refine wpQuiet_nil ?_
          refine E_mob2 1 _ rfl (by kernel_rfl) ?_
          simp only [List.getElem_toArray, List.getElem_cons_succ, List.getElem_cons_zero]
          go_big_quiet_step (fail)
          refine wpQuiet_nil ?_
          refine E_mob2 2 _ rfl (by kernel_rfl) ?_
          simp only [List.getElem_toArray, List.getElem_cons_succ, List.getElem_cons_zero]
          go_big_quiet_step (fail)
          refine wpQuiet_nil ?_
          refine E_mob2 3 _ rfl (by kernel_rfl) ?_
          simp only [List.getElem_toArray, List.getElem_cons_succ, List.getElem_cons_zero]
          go_big_quiet_step (fail)
          refine wpQuiet_nil ?_
          refine E_mob2 4 _ rfl (by kernel_rfl) ?_
          simp only [List.getElem_toArray, List.getElem_cons_succ, List.getElem_cons_zero]
          go_big_quiet_step (fail)
          refine wpQuiet_nil ?_
          refine E_mob2 5 _ rfl (by kernel_rfl) ?_
          simp only [List.getElem_toArray, List.getElem_cons_succ, List.getElem_cons_zero]
          go_big_quiet_step (fail)
          refine wpQuiet_nil ?_
          refine E_mob2 6 _ rfl (by kernel_rfl) ?_
          simp only [List.getElem_toArray, List.getElem_cons_succ, List.getElem_cons_zero]
          go_big_quiet_step (fail)
          refine wpQuiet_nil ?_
          refine E_mob2 7 _ rfl (by kernel_rfl) ?_
          simp only [List.getElem_toArray, List.getElem_cons_succ, List.getElem_cons_zero]
          go_big_quiet_step (fail)
          refine wpQuiet_nil ?_
          refine E_mob2 8 _ rfl (by kernel_rfl) ?_
          simp only [List.getElem_toArray, List.getElem_cons_succ, List.getElem_cons_zero]
          go_big_quiet_step (fail)
          refine wpQuiet_nil ?_
          refine E_mob2 9 _ rfl (by kernel_rfl) ?_
          simp only [List.getElem_toArray, List.getElem_cons_succ, List.getElem_cons_zero]
          go_big_quiet_step (fail)
          refine wpQuiet_nil ?_
          refine E_done (by kernel_rfl) ?_ _
          clear p0 p1 s0 s1 q2 hpe
          go_wp2_with fail
          go_roundw
          case rel => exact ⟨j + 1, by omega, by go_num, B11⟩
          case measure => simp [intOf]; omega
        · go_wp2_with (go_at_call 12; refine (awake16_c _).mono ?_; rintro e w99 ⟨rfl, hb9⟩; have hb9 := Lib.hid hb9)
          go_ret
          exact ⟨rfl, HR.out _ (D10.out.trans ((hB.out.trans (hb9.out.mono hB.out.size)).mono (by omega)))⟩
theorem flowLeads_c (p : Pr) (V : Value) (w : World) (hok : PrOk p) (hP : PrV w V p) :
    Calls Try.prog 6 #[V] w fun e w' => e = .returned (.bool true) ∧ Below w.heap.size w w' := by
  cases hf : fewP p
  · exact flowLeads_no p V w hP hf
  · exact flowLeads_yes p V w hP hf
end Go.Proofs.Ytegkbopibacfoaa
