/-
 The contract of the document's Play.
-/
import Derived.Test.YtedihiodmgnlpaaZIrrunRuns39
import Derived.Test.YtedihiodmgnlpaaZIrrunRuns30
import Derived.Test.YtedihiodmgnlpaaZIrrunRuns47
import Derived.Test.YtedihiodmgnlpaaZIrrunRuns12
set_option linter.all false
namespace Go.Proofs.Ytedihiodmgnlpaa
open Go.ChangeShapes Go.WideShapes Go.ChangeAt Go.RowKit
set_option maxHeartbeats 4000000
set_option linter.unusedVariables false
set_option maxRecDepth 20000

theorem putL_set (mem d : List Int) (a j : Nat) (h : a + d.length ≤ mem.length) (hj : j < d.length) : (putL mem a (d.take j)).set (a + j) (d.getD j 0) = putL mem a (d.take (j + 1)) := by
 unfold putL
 have l1 : (mem.take a).length = a := by simp; omega
 have l2 : (d.take j).length = j := by simp; omega
 have l3 : (d.take (j + 1)).length = j + 1 := by simp; omega
 rw [List.set_append_right _ _ (by rw [l1]; omega), l1, Nat.add_sub_cancel_left, List.set_append_right _ _ (by rw [l2]; exact Nat.le_refl _), l2, Nat.sub_self, l3]
 congr 1
 have e : mem.drop (a + j) = mem.getD (a + j) 0 :: mem.drop (a + (j + 1)) := by
  rw [List.drop_eq_getElem_cons (by omega : a + j < mem.length)]
  simp [List.getD, show a + j < mem.length by omega, Nat.add_assoc]
 rw [e, List.set_cons_zero, List.take_succ_eq_append_getElem hj, List.append_assoc]
 congr 1
 simp [List.getD, hj]
theorem own_succ {w : World} {B s n : Nat} {e : TypeId} {v : Value} {xs : List Value} (h : w.ownsRow B e s v (n + 1) xs) : ∃ g c, v = .slice (some ⟨g, 0, none⟩) (n + 1) c := by
 obtain ⟨-, ⟨-, h0⟩ | ⟨g, cap, cur, rfl, -⟩⟩ := h
 ·cases h0
 ·exact ⟨_, _, rfl⟩
theorem putL_nil (mem : List Int) (a : Nat) : putL mem a [] = mem := by unfold putL; simp
def PlayPost (m : Md) (inp : List Int) (fuel : Int) (w : World) (e : Ending) (w' : World) : Prop :=
 ∃ v, e = .returned v ∧ OutV w.heap.size w' v (playM m inp fuel.toNat) ∧ Below w.heap.size w w'
theorem play_c (m : Md) (v vi : Value) (inp : List Int) (fuel : Int) (w : World) (hm : MdV w v m) (hi : RdW w vi inp) (hs : SzM m) (hn : MdOk m) (hil : inp.length ≤ 1000000) (hiw : ∀ x ∈ inp, 0 ≤ x ∧ x < 4294967296) (hfu : fuel ≤ 3000) :
  Calls Try.prog 34 #[v, vi, .int .i64 fuel] w (PlayPost m inp fuel w) := by
 have EC : Hid (∀ w', Ext w w' → Calls Try.prog 62 #[v] w' fun e w'' => e = .returned (.int .i64 (okE m)) ∧ Below w'.heap.size w' w'') := fun w' he => rcheck_c m v w' (hm.ext he) hs
 obtain ⟨vg, vd, vp, rfl, hvg, hvd, hvp⟩ := hm
 have HVG := Lib.hid hvg
 have HVD := Lib.hid hvd
 have HVP := Lib.hid hvp
 have HVI := Lib.hid hi
 obtain ⟨ag, cg, rfl, hg1, hg2, -⟩ := id hvg
 obtain ⟨ad, cd, rfl, hd1, hd2, -⟩ := id hvd
 obtain ⟨ap, cp, rfl, -⟩ := id hvp
 obtain ⟨ai, ci, rfl, -⟩ := id hi
 unfold maxLen at hg2 hd2
 clear hvg hvd hvp hi
 obtain ⟨W1, hW1⟩ : ∃ W1, W1 = (w.alloc (.cells #[.slice ag m.globs.length cg, .slice ad m.data.length cd, .slice ap m.procs.length cp, .int .i64 m.main] 66)).alloc (.cells #[.slice none 0 0, .int .i64 0, .int .u32 0, .int .i64 0] 70) := ⟨_, rfl⟩
 have B1 : Hid (Below w.heap.size w W1) := by rw [hW1]; exact (below_alloc w _).trans ((below_alloc _ _).mono (by simp))
 have H0 : Hid (W1.heap[w.heap.size]? = some (.cells #[.slice ag m.globs.length cg, .slice ad m.data.length cd, .slice ap m.procs.length cp, .int .i64 m.main] 66 (0, 0))) := by
  rw [hW1]
  exact ((below_alloc (w.alloc (.cells #[.slice ag m.globs.length cg, .slice ad m.data.length cd, .slice ap m.procs.length cp, .int .i64 m.main] 66)) _).block w.heap.size (by simp)).trans (heap_alloc_new w _)
 have H1 : Hid (W1.heap[w.heap.size + 1]? = some (.cells #[.slice none 0 0, .int .i64 0, .int .u32 0, .int .i64 0] 70 (0, 0))) := by
  rw [hW1]
  have := heap_alloc_new (w.alloc (.cells #[.slice ag m.globs.length cg, .slice ad m.data.length cd, .slice ap m.procs.length cp, .int .i64 m.main] 66)) (.cells #[.slice none 0 0, .int .i64 0, .int .u32 0, .int .i64 0] 70)
  show _ = _
  simpa using this
 go_enter Try.func34, Try.ntmps34
 go_upto_region 1 with (fail)
 rw [← hW1]
 clear hW1
 have y := fun j => cell_of_heap H0.out j
 have y0 := y 0
 have y1 := y 1
 have y2 := y 2
 have y3 := y 3
 simp only [List.getElem?_toArray, List.getElem?_cons_zero, List.getElem?_cons_succ] at y0 y1 y2 y3
 clear y
 have lbx : w.heap.size < W1.heap.size := (Array.getElem?_eq_some_iff.1 H0.out).1
 go_wp2_with fail
 refine (EC.out _ (Ext.below B1.out)).mono ?_
 rintro e w3 ⟨rfl, hb3⟩
 have HW := Lib.hid (B1.out.trans (hb3.mono B1.out.size))
 have H0 := Lib.hid ((hb3.block w.heap.size (Array.getElem?_eq_some_iff.1 H0.out).1).trans H0.out)
 have H1 := Lib.hid ((hb3.block (w.heap.size + 1) (Array.getElem?_eq_some_iff.1 H1.out).1).trans H1.out)
 clear y0 y1 y2 y3
 clear hb3 B1
 cases hok : okM m
 ·have HPM : Hid (playM m inp fuel.toNat = ⟨[], [], 0, 0, 3⟩) := by show _ = _; unfold playM; rw [if_pos hok]
  have hE3 : okE m = 3 := by unfold okE; rw [hok]; rfl
  rw [hE3] at EC ⊢
  clear hok hE3
  have y := fun j => cell_of_heap H0.out j
  have y0 := y 0
  have y1 := y 1
  have y2 := y 2
  have y3 := y 3
  simp only [List.getElem?_toArray, List.getElem?_cons_zero, List.getElem?_cons_succ] at y0 y1 y2 y3
  clear y
  have lbx : w.heap.size < w3.heap.size := (Array.getElem?_eq_some_iff.1 H0.out).1
  go_wp2_with fail
  refine (EC.out _ (Ext.below HW.out)).mono ?_
  rintro e w5 ⟨rfl, hb5⟩
  have HW := Lib.hid (HW.out.trans (hb5.mono HW.out.size))
  have H1 := Lib.hid ((hb5.block (w.heap.size + 1) (Array.getElem?_eq_some_iff.1 H1.out).1).trans H1.out)
  clear y0 y1 y2 y3
  clear hb5
  have r0 := cell_of_heap H1.out 0
  have r1 := cell_of_heap H1.out 1
  have r2 := cell_of_heap H1.out 2
  have r3 := cell_of_heap H1.out 3
  have s0 := frozen_of_heap H1.out 0
  have s1 := frozen_of_heap H1.out 1
  have s2 := frozen_of_heap H1.out 2
  have s3 := frozen_of_heap H1.out 3
  simp only [List.getElem?_toArray, List.getElem?_cons_zero, List.getElem?_cons_succ] at r0 r1 r2 r3
  have lbo : w.heap.size + 1 < w5.heap.size := (Array.getElem?_eq_some_iff.1 H1.out).1
  go_wp2_with fail
  refine bodyPost_ret (v := .agg #[.slice none 0 0, .int .i64 0, .int .u32 0, .int .i64 3]) (by simp [results, Try.results34, go_sem, r0, r1, r2, r3]) rfl ?_
  exact ⟨_, rfl, by rw [HPM.out]; exact ⟨_, rfl, own_nil _ _ _ _⟩, (((HW.out.setCell (p := ⟨_, 0, none⟩) (by simp) _).setCell (p := ⟨_, 1, none⟩) (by simp) _).setCell (p := ⟨_, 2, none⟩) (by simp) _).setCell (p := ⟨_, 3, none⟩) (by simp) _⟩
 ·have hE0 : okE m = 0 := by unfold okE; rw [hok]; rfl
  rw [hE0]
  have HOK := Lib.hid hok
  obtain ⟨hG1, hG2, hG3⟩ := okM_globs hok
  have hEs := slE_small hG1 (by omega) m.globs.length (Nat.le_refl _)
  have HPL := Lib.hid (fun w' (hw : Ext w w') => rplace_c m.globs _ w' (HVG.out.ext hw) (slot_sizes hG1) (by omega))
  have HGL := Lib.hid hG3
  clear hE0 hok EC hG3
  have y := fun j => cell_of_heap H0.out j
  have y0 := y 0
  have y1 := y 1
  have y2 := y 2
  have y3 := y 3
  simp only [List.getElem?_toArray, List.getElem?_cons_zero, List.getElem?_cons_succ] at y0 y1 y2 y3
  clear y
  have lbx : w.heap.size < w3.heap.size := (Array.getElem?_eq_some_iff.1 H0.out).1
  go_wp2_with fail
  refine (HPL.out w3 (Ext.below HW.out)).mono ?_
  rintro e w5 ⟨u, rfl, O, hb5⟩
  have HW5 := Lib.hid (HW.out.trans (hb5.mono HW.out.size))
  have H0 := Lib.hid ((hb5.block w.heap.size (Array.getElem?_eq_some_iff.1 H0.out).1).trans H0.out)
  have H1 := Lib.hid ((hb5.block (w.heap.size + 1) (Array.getElem?_eq_some_iff.1 H1.out).1).trans H1.out)
  have hszw : w.heap.size ≤ w3.heap.size := HW.out.size
  have H0x := H0
  have H1x := H1
  have HO := Lib.hid O
  obtain ⟨au, cu, rfl⟩ := row_shape O
  clear y0 y1 y2 y3
  clear hb5 O HW
  obtain ⟨LO, hLO⟩ : ∃ LO, slE m.globs m.globs.length = LO := ⟨_, rfl⟩
  have HEN : Hid (enM m = 4096 + LO) := by show _ = _; unfold enM; rw [hLO]
  have HLO := Lib.hid hLO
  rw [hLO] at hEs ⊢
  clear hLO
  have y := fun j => cell_of_heap H0.out j
  have y0 := y 0
  have y1 := y 1
  have y2 := y 2
  have y3 := y 3
  simp only [List.getElem?_toArray, List.getElem?_cons_zero, List.getElem?_cons_succ] at y0 y1 y2 y3
  clear y
  have lbx : w.heap.size < w5.heap.size := (Array.getElem?_eq_some_iff.1 H0.out).1
  obtain ⟨W6, hW6⟩ : ∃ W6, W6 = w5.alloc (.cells #[.slice ag m.globs.length cg, .slice ad m.data.length cd, .slice ap m.procs.length cp, .int .i64 m.main, .slice none 0 0, .slice none 0 0, .int .i64 (4096 + LO), .slice ai inp.length ci, .slice none 0 0, .int .i64 0, .int .u32 0, .int .i64 0, .bool false] 131) := ⟨_, rfl⟩
  have H2 := Lib.hid (heap_of_alloc w5 _ _ hW6)
  have B6 : Hid (Below w5.heap.size w5 W6) := by rw [hW6]; exact below_alloc w5 _
  obtain ⟨br, hbr⟩ : ∃ b, b = w5.heap.size := ⟨_, rfl⟩
  have hbr1 : w5.heap.size ≤ br := by omega
  have hbr2 : br ≤ w5.heap.size := by omega
  rw [← hbr] at H2
  go_upto_region 5 with (fail)
  rw [← hW6, ← hbr]
  clear hW6 hbr
  have HW6 := Lib.hid (HW5.out.trans (B6.out.mono HW5.out.size))
  have H0 := Lib.hid ((B6.out.block w.heap.size (Array.getElem?_eq_some_iff.1 H0.out).1).trans H0.out)
  have H1 := Lib.hid ((B6.out.block (w.heap.size + 1) (Array.getElem?_eq_some_iff.1 H1.out).1).trans H1.out)
  have lbr : br < W6.heap.size := (Array.getElem?_eq_some_iff.1 H2.out).1
  have x := fun j => cell_of_heap H2.out j
  have x4 := x 4
  have x6 := x 6
  have fz4 := frozen_of_heap H2.out 4
  simp only [List.getElem?_toArray, List.getElem?_cons_zero, List.getElem?_cons_succ] at x4 x6
  clear y0 y1 y2 y3
  clear x
  by_cases hbig : 65536 < 4096 + LO
  ·have gb : decide (65536 < 4096 + LO) = true := decide_eq_true hbig
   have HPM : Hid (playM m inp fuel.toNat = ⟨[], [], 0, 0, 8⟩) := by show _ = _; unfold playM; rw [if_neg (by rw [HOK.out]; decide), if_pos (by rw [HEN.out]; exact hbig)]
   clear hbig
   have r0 := cell_of_heap H1.out 0
   have r1 := cell_of_heap H1.out 1
   have r2 := cell_of_heap H1.out 2
   have r3 := cell_of_heap H1.out 3
   have s0 := frozen_of_heap H1.out 0
   have s1 := frozen_of_heap H1.out 1
   have s2 := frozen_of_heap H1.out 2
   have s3 := frozen_of_heap H1.out 3
   simp only [List.getElem?_toArray, List.getElem?_cons_zero, List.getElem?_cons_succ] at r0 r1 r2 r3
   have lbo : w.heap.size + 1 < W6.heap.size := (Array.getElem?_eq_some_iff.1 H1.out).1
   go_wp2_with fail
   refine bodyPost_ret (v := .agg #[.slice none 0 0, .int .i64 0, .int .u32 0, .int .i64 8]) (by simp [results, Try.results34, go_sem, r0, r1, r2, r3]) rfl ?_
   exact ⟨_, rfl, by rw [HPM.out]; exact ⟨_, rfl, own_nil _ _ _ _⟩, (((HW6.out.setCell (p := ⟨_, 0, none⟩) (by simp) _).setCell (p := ⟨_, 1, none⟩) (by simp) _).setCell (p := ⟨_, 2, none⟩) (by simp) _).setCell (p := ⟨_, 3, none⟩) (by simp) _⟩
  ·have gb : decide (65536 < 4096 + LO) = false := decide_eq_false hbig
   have hmk : ∀ w : World, (Instr.makeSlice 121 (.int .i64 65536) (.int .i64 65536)).run Try.prog w = .ok (.slice (some ⟨w.heap.size, 0, none⟩) 65536 65536) (w.alloc (.cells (madeCells #[.int .u8 0] 65536) 5)) := fun w => by
    have := run_make_row' (P := Try.prog) 121 5 (.int .u8 0) 1 Try.underlying121 infoU8 rfl .i64 .i64 65536 (by decide) (by decide) w
    simpa using this
   have hLO1 : LO ≤ 61440 := by omega
   have HLO2 : Hid (slE m.globs m.globs.length ≤ 61440) := by show _ ≤ _; rw [HLO.out]; exact hLO1
   clear hbig
   obtain ⟨bm, hbm⟩ : ∃ b, b = W6.heap.size := ⟨_, rfl⟩
   obtain ⟨W7, hW7⟩ : ∃ W7, W7 = (W6.setCell ⟨br, 4, none⟩ (.slice (some ⟨bm, 0, none⟩) 65536 65536)).alloc (.cells (madeCells #[.int .u8 0] 65536) 5) := ⟨_, rfl⟩
   have hrm : br ≠ bm := by omega
   have G1 : W7.heap[br]? = some (.cells #[.slice ag m.globs.length cg, .slice ad m.data.length cd, .slice ap m.procs.length cp, .int .i64 m.main, .slice (some ⟨bm, 0, none⟩) 65536 65536, .slice none 0 0, .int .i64 (4096 + LO), .slice ai inp.length ci, .slice none 0 0, .int .i64 0, .int .u32 0, .int .i64 0, .bool false] 131 (0, 0)) := by
    rw [hW7]
    exact ((below_alloc _ _).block br (by simpa using lbr)).trans (st1_heap H2.out 4 _)
   have G2 : W7.heap[bm]? = some (.cells (madeCells #[.int .u8 0] 65536) 5 (0, 0)) := by
    rw [hW7, hbm]
    have e := heap_alloc_new (W6.setCell ⟨br, 4, none⟩ (.slice (some ⟨W6.heap.size, 0, none⟩) 65536 65536)) (.cells (madeCells #[.int .u8 0] 65536) 5)
    simpa using e
   have G3 : Below w5.heap.size w5 W7 := by
    rw [hW7]
    exact (B6.out.setCell (p := ⟨br, 4, none⟩) hbr1 _).trans ((below_alloc _ _).mono (by have := B6.out.size; simpa using this))
   obtain ⟨k, hk⟩ : ∃ k : PK, k = ⟨w5, br, bm, .slice ag m.globs.length cg, .slice ad m.data.length cd, .slice ap m.procs.length cp, .slice ai inp.length ci, m, 4096 + LO, inp⟩ := ⟨_, rfl⟩
   have HP7 : Hid (Pm k W7 (.slice none 0 0) (.slice none 0 0) ⟨mem0 m 0, [], 0, 0, 0⟩ false []) := by
    have hE5 := Ext.below HW5.out
    rw [hk]
    refine ⟨own_box G1 hbr1 rfl, ⟨by unfold mem0; rw [List.length_map, List.length_replicate], .inr ⟨_, 65536, _, rfl, by dsimp only; omega, G2, Nat.le_refl _, by decide, by rw [size_madeCells], ?_⟩⟩, own_nil _ _ _ _, own_nil _ _ _ _, fun f hf => (by cases hf), List.nodup_nil, ⟨_, _, _, rfl, HVG.out.ext hE5, HVD.out.ext hE5, HVP.out.ext hE5⟩, HVI.out.ext hE5, G3⟩
    rw [toList_madeCells_one, Nat.mul_one, List.take_of_length_le (by rw [List.length_replicate]; exact Nat.le_refl _)]
    unfold mem0
    rw [List.map_replicate]
   have e1 : k.wp = w5 := by rw [hk]
   have e2 : k.br = br := by rw [hk]
   have e3 : k.bm = bm := by rw [hk]
   have e4 : k.m = m := by rw [hk]
   have e5 : k.en = 4096 + LO := by rw [hk]
   have e6 : k.inp = inp := by rw [hk]
   have e7 : k.vi = .slice ai inp.length ci := by rw [hk]
   have HK1 := Lib.hid e1
   have HK2 := Lib.hid e2
   have HK3 := Lib.hid e3
   have HK4 := Lib.hid e4
   have HK5 := Lib.hid e5
   have HK6 := Lib.hid e6
   have hszb : w.heap.size + 1 < w5.heap.size := (Array.getElem?_eq_some_iff.1 H1x.out).1
   go_upto_region 8 with (fail)
   rw [← hbm, ← hW7]
   clear hW7 G1 G2 G3 hmk x4 x6 fz4 hbm H0 H1 H2 B6 hk e1 e2 e3 e4 e5 e6 e7 lbr
   have HX0 : Hid (∀ wr, Below w5.heap.size w5 wr → wr.heap[w.heap.size]? = some (.cells #[.slice ag m.globs.length cg, .slice ad m.data.length cd, .slice ap m.procs.length cp, .int .i64 m.main] 66 (0, 0))) := fun wr hb => (hb.block _ (by omega)).trans H0x.out
   have HX1 : Hid (∀ wr, Below w5.heap.size w5 wr → wr.heap[w.heap.size + 1]? = some (.cells #[.slice none 0 0, .int .i64 0, .int .u32 0, .int .i64 0] 70 (0, 0))) := fun wr hb => (hb.block _ hszb).trans H1x.out
   have HBL : Hid (∀ wr vt vo s dn fs, Pm k wr vt vo s dn fs → Below w5.heap.size w5 wr) := fun wr vt vo s dn fs h => by have := h.below; rw [HK1.out] at this; exact this
   clear H0x H1x
   go_wp2_with fail
   go_loopw [10] (fun i wr => ∃ j : Nat, j ≤ m.globs.length ∧ i = .int .i64 (j : Int) ∧ Hid (Pm k wr (.slice none 0 0) (.slice none 0 0) ⟨mem0 m j, [], 0, 0, 0⟩ false [])) (fun i _ => m.globs.length - (intOf i).toNat)
   case atStart => exact ⟨0, Nat.zero_le _, rfl, HP7⟩
   case round =>
    clear HP7
    obtain ⟨j, hj, rfl, M⟩ := hrel
    obtain ⟨wo, rfl⟩ : ∃ x, x = wr := ⟨wr, rfl⟩
    by_cases hlt : j < m.globs.length
    ·obtain ⟨f1, f2, f3⟩ := data_fits HOK.out HLO2.out j hlt
     obtain ⟨at', hat⟩ := Int.eq_ofNat_of_zero_le f1
     obtain ⟨bo, co, e, ho1, ho2, hoc, lbo⟩ := own_int_at HO.out j (by rw [slL_len]; exact hlt) (by rw [slL_len])
     rw [slL_getD _ _ _ hlt, hat] at hoc
     simp only [Value.slice.injEq] at e
     obtain ⟨rfl, -, rfl⟩ := e
     obtain ⟨bd, od, ad', cd', rfl, hcd, hyd⟩ := (RdYs.at HVD.out).2 j (by rw [HGL.out]; exact hlt)
     have HMS : Hid (mem0 m (j + 1) = putL (mem0 m j) (4096 + at') (m.data.getD j [])) := by
      show putL _ _ _ = _
      rw [hat]
      congr 1
     have HML := Lib.hid (mem0_len HOK.out HLO2.out j hj)
     rw [hat] at f3
     generalize m.data.getD j [] = D at *
     have hD1 : 4096 + at' + D.length ≤ 65536 := by omega
     obtain ⟨ay, cy, e, hy1, hy2, hyc⟩ := hyd
     simp only [Value.slice.injEq] at e
     obtain ⟨rfl, -, rfl⟩ := e
     unfold maxLen at hy2
     have HYC := Lib.hid hyc
     have hjd : j < m.data.length := by rw [HGL.out]; exact hlt
     have HCD := Lib.hid (Ext.below HW5.out _ _ hcd)
     have HOC := Lib.hid hoc
     clear hat hcd hyc hoc f1 f2 f3
     have M0 : Hid (Pm k wo (.slice none 0 0) (.slice none 0 0) ⟨putL (mem0 m j) (4096 + at') (D.take 0), [], 0, 0, 0⟩ false []) := by show Pm _ _ _ _ _ _ _; rw [List.take_zero, putL_nil]; exact M.out
     go_wp2_with fail
     go_loopw [11] (fun i wr => ∃ q : Nat, q ≤ D.length ∧ i = .int .i64 (q : Int) ∧ Hid (Pm k wr (.slice none 0 0) (.slice none 0 0) ⟨putL (mem0 m j) (4096 + at') (D.take q), [], 0, 0, 0⟩ false [])) (fun i _ => D.length - (intOf i).toNat)
     case atStart => exact ⟨0, Nat.zero_le _, rfl, M0⟩
     case round =>
      clear M0
      obtain ⟨q, hq, rfl, Q⟩ := hrel
      have hbel := HBL.out _ _ _ _ _ _ Q.out
      have H0 := Lib.hid (HX0.out _ hbel)
      have y := fun j => cell_of_heap H0.out j
      have y0 := y 0
      have y1 := y 1
      have y2 := y 2
      have y3 := y 3
      simp only [List.getElem?_toArray, List.getElem?_cons_zero, List.getElem?_cons_succ] at y0 y1 y2 y3
      clear y
      have lbx : w.heap.size < wr.heap.size := (Array.getElem?_eq_some_iff.1 H0.out).1
      have hE5 := Ext.below hbel
      have cD := hE5 _ _ HCD.out
      have lbd : bd < wr.heap.size := World.block_lt_of_cell? wr _ cD
      by_cases hlq : q < D.length
      ·obtain ⟨b3, o3, rfl, hc3⟩ := HYC.out q hlq
       rw [Nat.mul_one, Nat.add_zero] at hc3
       have cY := hE5 _ _ (Ext.below HW5.out _ _ hc3)
       have lb3 : b3 < wr.heap.size := World.block_lt_of_cell? wr _ cY
       have cA := hE5 _ _ HOC.out
       have lbA : bo < wr.heap.size := World.block_lt_of_cell? wr _ cA
       have c4 := Q.out.c4
       have lbr := Q.out.brLt.2
       rw [HK2.out] at c4 lbr
       rw [HK3.out] at c4
       have hST := Lib.hid (putL_set (mem0 m j) D (4096 + at') q (by rw [HML.out]; exact hD1) hlq)
       generalize D.getD q 0 = X at *
       clear hc3
       go_wp2_with fail
       refine wp_region_junk (fun _ => True) (by kernel_rfl) ?_
       refine J_mobs [0, 1, 2, 3, 4, 5, 6, 7, 8, 9, 10, 11, 12, 13, 14, 15, 16, 17, 18, 19] _ _ _ _ (by kernel_rfl) ?_
       simp only [List.map_cons, List.map_nil, List.getElem?_toArray, List.getElem?_cons_succ, List.getElem?_cons_zero, Option.getD_some, List.size_toArray, List.length_cons, List.length_nil, Nat.reduceAdd, Nat.reduceSub]
       repeat (go_big_quiet_step (fail))
       refine wpQuiet_nil ?_
       refine J_last 20 _ rfl (by kernel_rfl) ?_
       simp only [List.getElem_toArray, List.getElem_cons_succ, List.getElem_cons_zero]
       intro wj hj
       have Qj := Q.out.grow hj
       have cM := Qj.cM (4096 + at' + q) (by omega)
       have fM := Qj.fzm (4096 + at' + q)
       have lbm := Qj.bmLt.2
       have QS := Lib.hid (Qj.setM (4096 + at' + q) X)
       rw [HK3.out] at cM fM lbm QS
       dsimp only at QS
       rw [hST.out] at QS
       generalize (putL (mem0 m j) (4096 + at') (List.take q D)).getD (4096 + at' + q) 0 = ZZ at cM
       clear Qj hj
       go_wp2_with fail
       refine J_done (by kernel_rfl) (fun wk hk => ?_) _
       have QK := Lib.hid (QS.out.grow hk)
       clear hk QS cM fM c4 cA cY cD
       clear y0 y1 y2 y3
       go_wp2_with fail
       go_roundw
       case rel => exact ⟨q + 1, by omega, by go_num, QK⟩
       case measure => first | (simp [intOf]; done) | (simp [intOf]; omega)
      ·obtain rfl : q = D.length := by omega
       have QE : Hid (Pm k wr (.slice none 0 0) (.slice none 0 0) ⟨mem0 m (j + 1), [], 0, 0, 0⟩ false []) := by
        have := Q.out
        rw [List.take_length, ← HMS.out] at this
        exact this
       go_wp2_with fail
       go_roundw
       case rel => exact ⟨j + 1, by omega, by go_num, QE⟩
       case measure => first | (simp [intOf]; done) | (simp [intOf]; omega)
    ·obtain rfl : j = m.globs.length := by omega
     clear HO
     have hok2 : okM k.m = true := by rw [HK4.out]; exact HOK.out
     have hmain : 0 ≤ m.main ∧ m.main < (m.procs.length : Int) ∧ (pk m m.main.toNat).params = 0 := by
      have hok := HOK.out
      unfold okM okHeadM at hok
      simp only [Bool.and_eq_true, decide_eq_true_eq] at hok
      exact ⟨hok.1.2.2.2.2.2.1, hok.1.2.2.2.2.2.2, by have := hok.2.2.1.1; simpa [pk] using this⟩
     obtain ⟨hm0, hm1, hm2⟩ := hmain
     obtain ⟨mn, hmn⟩ := Int.eq_ofNat_of_zero_le hm0
     rw [hmn, Int.toNat_natCast] at hm2
     have hmn1 : mn < m.procs.length := by omega
     have hHm := okP_head (okM_proc HOK.out hmn1)
     have HMN := Lib.hid hmn
     have HEN2 : Hid (enM m = k.en) := HEN.out.trans HK5.out.symm
     have hbel := HBL.out _ _ _ _ _ _ M.out
     have H0 := Lib.hid (HX0.out _ hbel)
     obtain ⟨R, hR⟩ : ∃ R, playM m inp fuel.toNat = R := ⟨_, rfl⟩
     obtain ⟨M0, hM0⟩ : ∃ M0, enterM m [] mn [] 65536 ⟨mem0 m m.globs.length, [], 0, 0, 0⟩ = M0 := ⟨_, rfl⟩
     have HR : Hid (runM m inp fuel.toNat M0 = R) := by
      show _ = _
      rw [← hR, ← hM0]
      unfold playM
      rw [if_neg (by rw [HOK.out]; decide), HEN.out, if_neg (by omega), HMN.out, Int.toNat_natCast]
     have HRP := Lib.hid hR
     have HI0 : Hid (MInv m 0 M0) := by
      show MInv _ _ _
      rw [← hM0]
      have hl := longM_nn HOK.out hmn1
      have hmm : MemOk (mem0 m m.globs.length) := memOk_of (mem0_bytes hn _)
      unfold enterM
      split
      ·exact ⟨fun fr h => (by cases h), fun fr h => (by cases h), hmm, Int.le_refl _, Int.le_refl _, Nat.le_refl _, Nat.zero_le _⟩
      ·rename_i hne
       refine ⟨fun fr h => ?_, fun fr h => (by cases h), hmm, Int.le_refl _, Int.le_refl _, Nat.le_refl _, Nat.le_refl _⟩
       obtain rfl := List.mem_singleton.1 h
       refine ⟨hmn1, by have := hHm.b1; exact this, Nat.zero_le _, ?_, fun x hx => ?_, ?_⟩
       ·have := hHm.p0
        have := hHm.pr
        simp only [List.nil_append, List.length_replicate, List.length_nil, Nat.sub_zero]
        omega
       ·rw [List.nil_append] at hx
        rw [List.eq_of_mem_replicate hx]; exact ⟨by decide, by decide⟩
       ·have := HEN.out
        dsimp only
        omega
     have HXE := Lib.hid (enter_c (w0 := wo) M.out ⟨Nat.le_refl _, M.out.brLt.2, M.out.bmLt.2, fun g hg => (by cases hg), fun g hg => (by cases hg), fun f hf => (by cases hf)⟩ mn [] (.slice none 0 0) 65536 (by rw [HK4.out]; exact hmn1) (by rw [HK4.out]; exact hHm) ⟨_, _, rfl, Nat.le_refl _, by decide, fun i hi => absurd hi (Nat.not_lt_zero i)⟩ (fun x hx => by cases hx) (by rw [HK4.out, hm2]; rfl) (by decide) (by decide) (by rw [HK5.out]; omega) (by rw [HK5.out]; omega) (Nat.zero_le _))
     have HM0 := Lib.hid hM0
     rw [HK2.out] at HXE
     clear hm0 hm1 hm2 hmn hR hM0 hbel
     have y := fun j => cell_of_heap H0.out j
     have y0 := y 0
     have y1 := y 1
     have y2 := y 2
     have y3 := y 3
     simp only [List.getElem?_toArray, List.getElem?_cons_zero, List.getElem?_cons_succ] at y0 y1 y2 y3
     clear y
     have lbx : w.heap.size < wo.heap.size := (Array.getElem?_eq_some_iff.1 H0.out).1
     rw [HMN.out] at y3
     go_wp2_with fail
     refine HXE.out.mono ?_
     rintro e w6 ⟨rfl, -, hcs⟩
     have HQ : Hid (∃ vt vo fs, Pm k w6 vt vo M0.s M0.fin fs ∧ M0.stk = stkF fs) := by
      rw [HK4.out, HK5.out, ← HEN.out] at hcs
      rcases hcs with ⟨hfull, hp5⟩ | ⟨hnf, vt5, bg5, hp5⟩
      ·have e1 : enterM m [] mn [] 65536 ⟨mem0 m m.globs.length, [], 0, 0, 0⟩ = ⟨[], true, ⟨mem0 m m.globs.length, [], 0, 0, 8⟩⟩ := if_pos hfull
       rw [← HM0.out, e1]
       exact ⟨_, _, [], hp5, rfl⟩
      ·have e1 : enterM m [] mn [] 65536 ⟨mem0 m m.globs.length, [], 0, 0, 0⟩ = ⟨[⟨mn, [] ++ List.replicate ((pk m mn).regs.toNat - ([] : List Int).length) 0, 65536 - longM (pk m mn), 0, 0⟩], false, ⟨mem0 m m.globs.length, [], 0, 0, 0⟩⟩ := if_neg hnf
       rw [← HM0.out, e1]
       exact ⟨vt5, _, _, hp5, rfl⟩
     clear y0 y1 y2 y3
     clear hcs HXE
     go_wp2_with fail
     go_loopw [2] (fun x wr => ∃ (F : Int) (Mq : Ms) (N : Nat) (vt vo : Value) (fs : List Kf), x = .int .i64 F ∧ F ≤ 3000 ∧ N + F.toNat ≤ 3000 ∧ Hid (Pm k wr vt vo Mq.s Mq.fin fs) ∧ Hid (Mq.stk = stkF fs) ∧ Hid (runM m inp F.toNat Mq = R) ∧ Hid (MInv m N Mq)) (fun x _ => (intOf x).toNat)
     case atStart =>
      obtain ⟨vt, vo, fs, h1, h2⟩ := HQ.out
      exact ⟨fuel, M0, 0, vt, vo, fs, rfl, hfu, by omega, h1, h2, HR, HI0⟩
     case round =>
      clear HQ HR HI0 M
      obtain ⟨F, Mq, N, vt, vo, fs, rfl, hF, hNF, Q, HS, HR, HI⟩ := hrel
      have c12 := Q.out.c12
      have lbr := Q.out.brLt.2
      rw [HK2.out] at c12 lbr
      obtain ⟨av, cv, hvo⟩ := row_shape Q.out.oo
      subst hvo
      have hbel := HBL.out _ _ _ _ _ _ Q.out
      have HW9 := Lib.hid (HW5.out.trans (hbel.mono HW5.out.size))
      cases hfin : Mq.fin
      ·rw [hfin] at c12
       by_cases hF0 : F ≤ 0
       ·have gF : decide (F ≤ 0) = true := decide_eq_true hF0
        have HRE : Hid (R = { Mq.s with e := 16 }) := by
         show _ = _
         rw [← HR.out, show F.toNat = 0 by omega]
         show (if Mq.fin = true then Mq.s else { Mq.s with e := 16 }) = _
         rw [hfin]; rfl
        have z11 := Q.out.c11
        have f11 := Q.out.fz 11
        have Q2 := Lib.hid (Q.out.setF 11 (.int .i64 16) { Mq.s with e := 16 } Mq.fin rfl rfl rfl)
        rw [HK2.out] at z11 f11 Q2
        go_upto_region 19 with (fail)
        obtain ⟨W9, hW9⟩ : ∃ W9, W9 = wr.setCell ⟨br, 11, none⟩ (.int .i64 16) := ⟨_, rfl⟩
        rw [← hW9] at Q2 ⊢
        clear hW9 z11 f11 c12 hbel HW9
        have hbelW := HBL.out _ _ _ _ _ _ Q2.out
        have H1 := Lib.hid (HX1.out _ hbelW)
        have r0 := cell_of_heap H1.out 0
        have r1 := cell_of_heap H1.out 1
        have r2 := cell_of_heap H1.out 2
        have r3 := cell_of_heap H1.out 3
        have s0 := frozen_of_heap H1.out 0
        have s1 := frozen_of_heap H1.out 1
        have s2 := frozen_of_heap H1.out 2
        have s3 := frozen_of_heap H1.out 3
        simp only [List.getElem?_toArray, List.getElem?_cons_zero, List.getElem?_cons_succ] at r0 r1 r2 r3
        have lbo : w.heap.size + 1 < W9.heap.size := (Array.getElem?_eq_some_iff.1 H1.out).1
        have u8 := Q2.out.c8
        have u9 := Q2.out.c9
        have u10 := Q2.out.c10
        have u11 := Q2.out.c11
        have lbq := Q2.out.brLt.2
        rw [HK2.out] at u8 u9 u10 u11 lbq
        try dsimp only at u9 u10 u11
        have OO : Hid (W9.ownsRow w.heap.size 35 1 (.slice av Mq.s.out.length cv) Mq.s.out.length (Mq.s.out.map (Value.int .u32))) := own_base Q2.out.oo (by rw [HK1.out]; exact HW5.out.size)
        have NE : Hid ((Value.slice av Mq.s.out.length cv).ownBlock = none ∨ (Value.slice av Mq.s.out.length cv).ownBlock ≠ some (w.heap.size + 1)) := .inr (fun e => by have := (own_lt Q2.out.oo e).1; rw [HK1.out] at this; omega)
        have hBW : Hid (Below w.heap.size w W9) := HW5.out.trans (hbelW.mono HW5.out.size)
        clear hbelW
        go_wp2_with fail
        refine bodyPost_ret (v := .agg #[.slice av Mq.s.out.length cv, .int .i64 Mq.s.ins, .int .u32 Mq.s.exit, .int .i64 16]) (by simp [results, Try.results34, go_sem, r0, r1, r2, r3]) rfl ?_
        exact ⟨_, rfl, by rw [HRP.out, HRE.out]; exact ⟨_, rfl, own_put4 OO.out _ NE.out _ _ _ _⟩, (((hBW.out.setCell (p := ⟨_, 0, none⟩) (by simp) _).setCell (p := ⟨_, 1, none⟩) (by simp) _).setCell (p := ⟨_, 2, none⟩) (by simp) _).setCell (p := ⟨_, 3, none⟩) (by simp) _⟩
       ·have gF : decide (F ≤ 0) = false := decide_eq_false hF0
        obtain ⟨stk, halt, s⟩ := Mq
        dsimp only at HS Q
        have HSS := HS.out
        subst HSS
        have hh : halt = false := by
         unfold Ms.fin at hfin
         cases halt
         ·rfl
         ·exact hfin
        subst hh
        rcases List.eq_nil_or_concat fs with rfl | ⟨fs', f, rfl⟩
        ·exact absurd hfin (fun h => (by cases h))
        rw [List.concat_eq_append] at *
        have htt := Q.out.tt
        rw [List.length_append, List.length_singleton] at htt
        obtain ⟨bt, ct, rfl⟩ := own_succ htt
        have hQ := Q.out
        rw [hfin] at hQ
        have HST := Lib.hid (step_c hQ rfl hok2 (by rw [HK4.out]; exact hn) (N := N) (by rw [HK4.out]; exact HI.out) (by omega) (by rw [HK4.out]; exact HEN2.out.symm) (by rw [HK5.out]; omega) (by rw [HK6.out]; exact hil) (by rw [HK6.out]; exact hiw))
        rw [HK2.out, HK4.out, HK6.out] at HST
        have HR2 : Hid (runM m inp (F - 1).toNat (stepM m inp ⟨stkF (fs' ++ [f]), false, s⟩) = R) := by
         show _ = _
         rw [← HR.out, show F.toNat = (F - 1).toNat + 1 by omega, stkF_snoc, runM_succ]
        have HI2 : Hid (MInv m (N + 1) (stepM m inp ⟨stkF (fs' ++ [f]), false, s⟩)) := by
         have := HI.out
         rw [stkF_snoc] at this
         show MInv _ _ _
         rw [stkF_snoc]
         exact this.step HOK.out hn hiw
        clear htt hQ HR HI Q HS hbel HW9
        go_wp2_with fail
        refine HST.out.mono ?_
        rintro e w7 ⟨rfl, hq⟩
        have HQ7 := Lib.hid hq
        clear hq c12 lbr
        go_wp2_with fail
        go_roundw
        case rel =>
         obtain ⟨vt7, vo7, fs7, hp7, hs7⟩ := HQ7.out
         exact ⟨F - 1, _, N + 1, vt7, vo7, fs7, by go_num, by omega, by omega, hp7, hs7, HR2, HI2⟩
        case measure => first | (simp [intOf]; done) | (simp [intOf]; omega)
      ·rw [hfin] at c12
       have HRE : Hid (R = Mq.s) := by
        show _ = _
        rw [← HR.out]; exact runM_fin _ _ _ _ hfin
       clear c12 lbr hbel HW9
       have c12 := Q.out.c12
       rw [HK2.out, hfin] at c12
       have lbr := Q.out.brLt.2
       rw [HK2.out] at lbr
       go_upto_region 22 with (fail)
       clear c12 lbr
       have hbelW := HBL.out _ _ _ _ _ _ Q.out
       have H1 := Lib.hid (HX1.out _ hbelW)
       have r0 := cell_of_heap H1.out 0
       have r1 := cell_of_heap H1.out 1
       have r2 := cell_of_heap H1.out 2
       have r3 := cell_of_heap H1.out 3
       have s0 := frozen_of_heap H1.out 0
       have s1 := frozen_of_heap H1.out 1
       have s2 := frozen_of_heap H1.out 2
       have s3 := frozen_of_heap H1.out 3
       simp only [List.getElem?_toArray, List.getElem?_cons_zero, List.getElem?_cons_succ] at r0 r1 r2 r3
       have lbo : w.heap.size + 1 < wr.heap.size := (Array.getElem?_eq_some_iff.1 H1.out).1
       have u8 := Q.out.c8
       have u9 := Q.out.c9
       have u10 := Q.out.c10
       have u11 := Q.out.c11
       have lbq := Q.out.brLt.2
       rw [HK2.out] at u8 u9 u10 u11 lbq
       try dsimp only at u9 u10 u11
       have OO : Hid (wr.ownsRow w.heap.size 35 1 (.slice av Mq.s.out.length cv) Mq.s.out.length (Mq.s.out.map (Value.int .u32))) := own_base Q.out.oo (by rw [HK1.out]; exact HW5.out.size)
       have NE : Hid ((Value.slice av Mq.s.out.length cv).ownBlock = none ∨ (Value.slice av Mq.s.out.length cv).ownBlock ≠ some (w.heap.size + 1)) := .inr (fun e => by have := (own_lt Q.out.oo e).1; rw [HK1.out] at this; omega)
       have hBW : Hid (Below w.heap.size w wr) := HW5.out.trans (hbelW.mono HW5.out.size)
       clear hbelW
       go_wp2_with fail
       refine bodyPost_ret (v := .agg #[.slice av Mq.s.out.length cv, .int .i64 Mq.s.ins, .int .u32 Mq.s.exit, .int .i64 Mq.s.e]) (by simp [results, Try.results34, go_sem, r0, r1, r2, r3]) rfl ?_
       exact ⟨_, rfl, by rw [HRP.out, HRE.out]; exact ⟨_, rfl, own_put4 OO.out _ NE.out _ _ _ _⟩, (((hBW.out.setCell (p := ⟨_, 0, none⟩) (by simp) _).setCell (p := ⟨_, 1, none⟩) (by simp) _).setCell (p := ⟨_, 2, none⟩) (by simp) _).setCell (p := ⟨_, 3, none⟩) (by simp) _⟩
end Go.Proofs.Ytedihiodmgnlpaa
