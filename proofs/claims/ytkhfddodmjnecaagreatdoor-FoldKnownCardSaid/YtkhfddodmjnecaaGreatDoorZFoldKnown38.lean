/-
 The row behind a function of one word.
-/
import Derived.Test.YtkhfddodmjnecaaGreatDoorZFoldKnown37
import Derived.Test.YtkhfddodmjnecaaGreatDoorZFoldKnown15
set_option linter.all false
namespace Go.Proofs.YtkhfddodmjnecaaGreatDoor
open Go.ChangeShapes Go.WideShapes Go.ChangeAt Go.RowKit
set_option maxHeartbeats 16000000
set_option maxRecDepth 100000
set_option linter.unusedVariables false

theorem rbehind_b (v vi : Value) (r : Ro) (i : In) (w : World) (h : RwV w v (some r)) (hi : InV w vi i) (hl : r.length ≤ 1000) (hok : RoOk r) (hd : defI i ≠ -1 → 0 ≤ defI i ∧ defI i < (r.length : Int)) (hu : UseC r.length i) (hop : i.op = 4) :
  Calls Tryz.prog 13 #[v, vi] w fun e w' => ∃ v', e = .returned v' ∧ BehP w v r (behC r i) w' v' ∧ Below w.heap.size w w' := by
 have HOP := Lib.hid hop
 clear hop
 have HD : Hid (∀ W, Ext w W → Calls Tryz.prog 39 #[vi] W fun e w' => e = .returned (.int .i64 (defI i)) ∧ Below W.heap.size W w') := fun W hW => rdef_c i vi W (hi.ext hW)
 have HCP : Hid (∀ W, Ext w W → Calls Tryz.prog 38 #[v] W fun e w' => ∃ v', e = .returned v' ∧ OwRw w' W.heap.size v' true r ∧ Below W.heap.size W w') := fun W hW => copied_c v (some r) W (h.ext hW) hl
 have HRW := Lib.hid h
 obtain ⟨vh, vn, rfl, hh, hn⟩ := h
 dsimp only [Option.getD_some, Option.isSome_some] at hh hn HD HCP HRW ⊢
 obtain ⟨ah, ch, rfl, h1, h2, h3⟩ := hh
 obtain ⟨an, cn, rfl, n1, n2, n3⟩ := hn
 have hhl : (hasV r).length = r.length := by simp [hasV]
 have hnl : (numV r).length = r.length := by simp [numV]
 rw [hhl] at h1 h3 HCP HRW ⊢
 rw [hnl] at n1 n3 HCP HRW ⊢
 unfold maxLen at h2 n2
 have H3 := Lib.hid h3
 have N3 := Lib.hid n3
 clear h3 n3 hhl hnl
 obtain ⟨va, rfl, hva⟩ := hi
 obtain ⟨aa, ac, rfl, -⟩ := hva
 have HOK := Lib.hid hok
 have HDR := Lib.hid hd
 have HU := Lib.hid hu
 clear hok hd hu
 have HBE : Hid (behC r i = if defI i = -1 then r else r.set (defI i).toNat (numC r i)) := rfl
 generalize behC r i = BE at *
 have HNU : Hid (numC r i = if i.op = 1 then some i.num else if i.op = 2 then cAt r i.a else if i.op = 4 then (cAt r i.a).map fun x => fnF i.fn x 0 else if i.op = 3 then (cAt r i.a).bind fun x => (cAt r i.b).map fun y => fnF i.fn x y else none) := rfl
 generalize numC r i = NU at *
 generalize defI i = dd at *
 obtain ⟨op, d, a, b, fn, obj, off, size, num, args, lg⟩ := i
 dsimp only at HNU HD HCP ⊢
 unfold UseC at HU
 dsimp only at HU
 have hA3 := heap3 w (.cells #[.bool true, .slice ah r.length ch, .slice an r.length cn] 40) (.cells #[.int .i64 op, .int .i64 d, .int .i64 a, .int .i64 b, .int .i64 fn, .int .i64 obj, .int .i64 off, .int .i64 size, .int .u32 num, .slice aa args.length ac, .bool lg] 48) (.cells #[.bool false, .slice none 0 0, .slice none 0 0] 40)
 obtain ⟨W0, hW0⟩ : ∃ W0, W0 = (((w.alloc (.cells #[.bool true, .slice ah r.length ch, .slice an r.length cn] 40)).alloc (.cells #[.int .i64 op, .int .i64 d, .int .i64 a, .int .i64 b, .int .i64 fn, .int .i64 obj, .int .i64 off, .int .i64 size, .int .u32 num, .slice aa args.length ac, .bool lg] 48)).alloc (.cells #[.bool false, .slice none 0 0, .slice none 0 0] 40)) := ⟨_, rfl⟩
 rw [← hW0] at hA3
 have hz : w.heap.size + 3 ≤ W0.heap.size := by rw [hW0]; simp
 have HA := Lib.hid hA3.1
 have HI := Lib.hid hA3.2.1
 have HR := Lib.hid hA3.2.2
 have HB0 : Hid (Below w.heap.size w W0) := by
  show Below _ _ _
  rw [hW0]; exact (below_alloc w _).alloc (by simp) _ |>.alloc (by simp; omega) _
 have HW0 := Lib.hid hW0.symm
 clear hA3 hW0
 go_enter Tryz.func13, Tryz.ntmps13
 go_wp2_with fail
 rw [HW0.out]
 clear HW0
 refine (HD.out W0 (Ext.below HB0.out)).mono ?_
 rintro e w2 ⟨rfl, hb2⟩
 have HA := Lib.hid ((hb2.block _ (by omega)).trans HA.out)
 have HI := Lib.hid ((hb2.block _ (by omega)).trans HI.out)
 have HR := Lib.hid ((hb2.block _ (by omega)).trans HR.out)
 have hz2 : w.heap.size + 3 ≤ w2.heap.size := by have := hb2.size; omega
 have HB2 := Lib.hid (HB0.out.trans (hb2.mono HB0.out.size))
 clear hb2 HD HB0 hz
 obtain ⟨a0, a1, a2, la⟩ := cl3 HA.out
 obtain ⟨r0, r1, r2, lr⟩ := cl3 HR.out
 have fr0 := frozen_of_heap HR.out 0
 have fr1 := frozen_of_heap HR.out 1
 have fr2 := frozen_of_heap HR.out 2
 by_cases hD : dd = -1
 ·have gD : (dd == -1) = true := beq_iff_eq.2 hD
  have HT : Hid (BE = r) := by show _ = _; rw [HBE.out, if_pos hD]
  clear hD HBE
  go_wp2_with fail
  refine bodyPost_ret (v := .agg #[.bool true, .slice ah r.length ch, .slice an r.length cn]) (by simp [results, Tryz.results13, go_sem, r0, r1, r2]) rfl ?_
  have B5 : Below w.heap.size w (((w2.setCell ⟨w.heap.size + 2, 0, none⟩ (.bool true)).setCell ⟨w.heap.size + 2, 1, none⟩ (.slice ah r.length ch)).setCell ⟨w.heap.size + 2, 2, none⟩ (.slice an r.length cn)) := ((HB2.out.setCell (p := ⟨w.heap.size + 2, 0, none⟩) (by simp) _).setCell (p := ⟨w.heap.size + 2, 1, none⟩) (by simp) _).setCell (p := ⟨w.heap.size + 2, 2, none⟩) (by simp) _
  exact ⟨_, rfl, .inl ⟨rfl, HT.out⟩, B5⟩
 ·have gD : (dd == -1) = false := beq_eq_false_iff_ne.2 hD
  obtain ⟨d0, d1⟩ := HDR.out hD
  obtain ⟨q, rfl⟩ := Int.eq_ofNat_of_zero_le d0
  have HT : Hid (BE = r.set q NU) := by show _ = _; rw [HBE.out, if_neg hD]; rfl
  have hq : q < r.length := by omega
  have g1 : decide (q < r.length) = true := decide_eq_true hq
  have g2 : decide ((q : Int) < (r.length : Int)) = true := decide_eq_true d1
  clear hD HBE HDR d0 d1
  go_wp2_with fail
  refine (HCP.out w2 (Ext.below HB2.out)).mono ?_
  rintro e w3 ⟨v', rfl, ⟨vh, vn, rfl, oh, on⟩, hb3⟩
  have B3 := Lib.hid (HB2.out.trans (hb3.mono HB2.out.size))
  have HA := Lib.hid ((hb3.block _ (by omega)).trans HA.out)
  have HI := Lib.hid ((hb3.block _ (by omega)).trans HI.out)
  have HR := Lib.hid ((hb3.block _ (by omega)).trans HR.out)
  have hz3 : w.heap.size + 3 ≤ w3.heap.size := by have := hb3.size; omega
  obtain ⟨gh, ch2, rfl⟩ := own_slice oh (by omega)
  obtain ⟨gn, cn2, rfl⟩ := own_slice on (by omega)
  have M3 : Hid (BhM w3 w2.heap.size w3.heap.size r.length (w3.alloc (.cells #[.bool true, .slice (some ⟨gh, 0, none⟩) r.length ch2, .slice (some ⟨gn, 0, none⟩) r.length cn2] 40)) (.slice (some ⟨gh, 0, none⟩) r.length ch2) (.slice (some ⟨gn, 0, none⟩) r.length cn2) (hasV r) (numV r)) :=
   ⟨heap_alloc_new w3 _, own_below oh (below_alloc w3 _), own_below on (below_alloc w3 _), (below_alloc w3 _).mono hb3.size, hb3.size⟩
  obtain ⟨hne, -, -, -, -⟩ := M3.out.ne (by omega)
  obtain ⟨hgh, csh, ehh⟩ := own_heap oh (by omega)
  obtain ⟨hgn, csn, enn⟩ := own_heap on (by omega)
  have lgh := (Array.getElem?_eq_some_iff.1 ehh).1
  have lgn := (Array.getElem?_eq_some_iff.1 enn).1
  have fgh := frozen_of_heap ehh q
  have fgn := frozen_of_heap enn q
  have cgh := World.ownsRow.cellAt oh q (by omega)
  have cgn := World.ownsRow.cellAt on q (by omega)
  rw [show (hasV r)[q]? = some (.bool (r.getD q none).isSome) by simp [hasV, List.getD, hq]] at cgh
  rw [show (numV r)[q]? = some (.int .u32 ((r.getD q none).getD 0)) by simp [numV, List.getD, hq]] at cgn
  have M4 := Lib.hid (M3.out.set hq none)
  clear HCP a0 a1 a2 la r0 r1 r2 lr fr0 fr1 fr2 ehh enn M3
  obtain ⟨x0, x1, x2, x3, x4, x5, x6, x7, x8, x9, x10, lx⟩ := cl11 HI.out
  generalize (r.getD q none).isSome = S0 at *
  generalize (r.getD q none).getD 0 = X0 at *
  go_upto_if 24 with (fail)
  simp only [Option.isSome_none, Option.getD_none] at M4
  have hcomm : ((w3.alloc (.cells #[.bool true, .slice (some ⟨gh, 0, none⟩) r.length ch2, .slice (some ⟨gn, 0, none⟩) r.length cn2] 40)).setCell ⟨gh, q, none⟩ (.bool false)).setCell ⟨gn, q, none⟩ (.int .u32 0) = ((w3.setCell ⟨gh, q, none⟩ (.bool false)).setCell ⟨gn, q, none⟩ (.int .u32 0)).alloc (.cells #[.bool true, .slice (some ⟨gh, 0, none⟩) r.length ch2, .slice (some ⟨gn, 0, none⟩) r.length cn2] 40) := by
   simp [go_sem, lgh, lgn]
  rw [hcomm] at M4
  clear hcomm
  generalize ((w3.setCell ⟨gh, q, none⟩ (.bool false)).setCell ⟨gn, q, none⟩ (.int .u32 0)).alloc (.cells #[.bool true, .slice (some ⟨gh, 0, none⟩) r.length ch2, .slice (some ⟨gn, 0, none⟩) r.length cn2] 40) = W5 at *
  have hsz := hb3.size
  have HA5 := Lib.hid ((M4.out.bl.block _ (by omega)).trans HA.out)
  have HI5 := Lib.hid ((M4.out.bl.block _ (by omega)).trans HI.out)
  have HR5 := Lib.hid ((M4.out.bl.block _ (by omega)).trans HR.out)
  have B5 := Lib.hid (B3.out.trans (M4.out.bl.mono (by omega)))
  have hz6 : w2.heap.size ≤ w3.heap.size := hsz
  clear x0 x1 x2 x3 x4 x5 x6 x7 x8 x9 x10 lx fgh fgn cgh cgn lgh lgn hne hgh hgn hb3 oh on hsz hz3 HB2
  generalize hb6 : w3.heap.size = b6 at *
  generalize hB2 : w2.heap.size = B2 at *
  clear hb6 hB2
  have HQ : Hid (∀ W hs ns, BhM w3 B2 b6 r.length W (.slice (some ⟨gh, 0, none⟩) r.length ch2) (.slice (some ⟨gn, 0, none⟩) r.length cn2) hs ns → hs = hasV BE → ns = numV BE → OwRw (((W.setCell ⟨w.heap.size + 2, 0, none⟩ (.bool true)).setCell ⟨w.heap.size + 2, 1, none⟩ (.slice (some ⟨gh, 0, none⟩) r.length ch2)).setCell ⟨w.heap.size + 2, 2, none⟩ (.slice (some ⟨gn, 0, none⟩) r.length cn2)) w.heap.size (.agg #[.bool true, .slice (some ⟨gh, 0, none⟩) r.length ch2, .slice (some ⟨gn, 0, none⟩) r.length cn2]) true BE ∧ Below w.heap.size w (((W.setCell ⟨w.heap.size + 2, 0, none⟩ (.bool true)).setCell ⟨w.heap.size + 2, 1, none⟩ (.slice (some ⟨gh, 0, none⟩) r.length ch2)).setCell ⟨w.heap.size + 2, 2, none⟩ (.slice (some ⟨gn, 0, none⟩) r.length cn2))) := fun W hs ns hM e1 e2 => by
   have hbl : BE.length = r.length := by rw [HT.out]; simp
   subst e1 e2
   refine ⟨(OwRw.set3 (B := B2) ⟨_, _, rfl, by rw [hbl]; exact hM.oh, by rw [hbl]; exact hM.on⟩ (by omega)).base (by omega), ?_⟩
   exact (((B3.out.trans (hM.bl.mono (by omega))).setCell (p := ⟨w.heap.size + 2, 0, none⟩) (by simp) _).setCell (p := ⟨w.heap.size + 2, 1, none⟩) (by simp) _).setCell (p := ⟨w.heap.size + 2, 2, none⟩) (by simp) _
  obtain ⟨m1, m2, m3, m4, m5⟩ := M4.out.ne (by omega)
  have HF : Hid (∀ W hs ns, BhM w3 B2 b6 r.length W (.slice (some ⟨gh, 0, none⟩) r.length ch2) (.slice (some ⟨gn, 0, none⟩) r.length cn2) hs ns → W.heap[w.heap.size]? = some (.cells #[.bool true, .slice ah r.length ch, .slice an r.length cn] 40) ∧ W.heap[w.heap.size + 1]? = some (.cells #[.int .i64 op, .int .i64 d, .int .i64 a, .int .i64 b, .int .i64 fn, .int .i64 obj, .int .i64 off, .int .i64 size, .int .u32 num, .slice aa args.length ac, .bool lg] 48) ∧ W.heap[w.heap.size + 2]? = some (.cells #[.bool false, .slice none 0 0, .slice none 0 0] 40) ∧ Below w.heap.size w W) := fun W hs ns hM =>
   ⟨(hM.bl.block _ (by omega)).trans HA.out, (hM.bl.block _ (by omega)).trans HI.out, (hM.bl.block _ (by omega)).trans HR.out, B3.out.trans (hM.bl.mono (by omega))⟩
  have HCV : Hid (∀ W, Ext w W → ∀ i, i < r.length → ∃ b o, ah = some ⟨b, o, none⟩ ∧ b < w.heap.size ∧ W.cell? ⟨b, o + i, none⟩ = some (.bool (r.getD i none).isSome)) := fun W hW i hi => by
   obtain ⟨b, o, e1, e2⟩ := H3.out i hi
   rw [show (hasV r)[i]? = some (.bool (r.getD i none).isSome) by simp [hasV, List.getD, hi]] at e2
   exact ⟨b, o, e1, World.block_lt_of_cell? _ _ e2, hW _ _ e2⟩
  have HNV : Hid (∀ W, Ext w W → ∀ i, i < r.length → ∃ b o, an = some ⟨b, o, none⟩ ∧ b < w.heap.size ∧ W.cell? ⟨b, o + i, none⟩ = some (.int .u32 ((r.getD i none).getD 0))) := fun W hW i hi => by
   obtain ⟨b, o, e1, e2⟩ := N3.out i hi
   rw [show (numV r)[i]? = some (.int .u32 ((r.getD i none).getD 0)) by simp [numV, List.getD, hi]] at e2
   exact ⟨b, o, e1, World.block_lt_of_cell? _ _ e2, hW _ _ e2⟩
  have HAT : Hid (∀ x : Int, 0 ≤ x ∧ x < (r.length : Int) → cAt r x = r.getD x.toNat none) := fun x hx => by unfold cAt; rw [if_pos hx]
  have HWD : Hid (∀ i x, r.getD i none = some x → 0 ≤ x ∧ x < 4294967296) := fun i x e => HOK.out i x e
  clear HA5 HI5 HR5 B5 H3 N3 HA HI HR HOK HRW
  obtain ⟨hA6, hI6, hR6, hB6⟩ := HF.out _ _ _ M4.out
  obtain ⟨z0, z1, z2, lz⟩ := cl3 M4.out.bx
  obtain ⟨a0, a1, a2, la⟩ := cl3 hA6
  obtain ⟨r0, r1, r2, lr⟩ := cl3 hR6
  obtain ⟨x0, x1, x2, x3, x4, x5, x6, x7, x8, x9, x10, lx⟩ := cl11 hI6
  have fr0 := frozen_of_heap hR6 0
  have fr1 := frozen_of_heap hR6 1
  have fr2 := frozen_of_heap hR6 2
  obtain ⟨cgh, cgn, fgh, fgn, lgh, lgn⟩ := M4.out.at hq
  clear hA6 hI6 hR6
  rw [show (hasV (r.set q none))[q]? = some (.bool false) by simp [hasV, hq]] at cgh
  rw [show (numV (r.set q none))[q]? = some (.int .u32 0) by simp [numV, hq]] at cgn
  have HEC : Hid ((numV (r.set q none))[q]? = some (.int .u32 0)) := by
   show _ = _
   simp [numV, hq]
  have m6 : gh ≠ w.heap.size := by omega
  have m7 : gh ≠ w.heap.size + 1 := by omega
  have m8 : gh ≠ w.heap.size + 2 := by omega
  have m9 : gn ≠ w.heap.size := by omega
  have m10 : gn ≠ w.heap.size + 1 := by omega
  have m11 : gn ≠ w.heap.size + 2 := by omega
  have o4 : op = 4 := HOP.out
  have o1 : op ≠ 1 := by omega
  have o2 : op ≠ 2 := by omega
  clear HOP
  have g3 : (op == 1) = false := beq_eq_false_iff_ne.2 o1
  have g4 : (op == 2) = false := beq_eq_false_iff_ne.2 o2
  have g5 : (op == 3) = false := beq_eq_false_iff_ne.2 (by omega)
  have g6 : (op == 4) = true := beq_iff_eq.2 o4
  have hA := HU.out.1 (.inr (.inr o4))
  obtain ⟨qa, rfl⟩ := Int.eq_ofNat_of_zero_le hA.1
  obtain ⟨bhqa, ohqa, rfl, hlbqa, chqaw⟩ := HCV.out _ (Ext.refl w) qa (by omega)
  obtain ⟨bnqa, onqa, rfl, hlnqa, cnqaw⟩ := HNV.out _ (Ext.refl w) qa (by omega)
  have chqa := Ext.below hB6 _ _ chqaw
  have cnqa := Ext.below hB6 _ _ cnqaw
  have k1 : gh ≠ bhqa := by omega
  have k2 : gn ≠ bhqa := by omega
  have k3 : gh ≠ bnqa := by omega
  have k4 : gn ≠ bnqa := by omega
  cases hra : r.getD qa none with
  | none =>
   have HN1 : Hid (NU = none) := by show _ = _; rw [HNU.out, if_neg o1, if_neg o2, if_pos o4, HAT.out _ hA, Int.toNat_natCast, hra]; rfl
   rw [hra] at chqa
   simp only [Option.isSome_none] at chqa
   have EH := Lib.hid (eh_none r q)
   have EN := Lib.hid (en_none r q)
   clear hra
   go_wp2_with fail
   refine bodyPost_ret (v := .agg #[.bool true, .slice (some ⟨gh, 0, none⟩) r.length ch2, .slice (some ⟨gn, 0, none⟩) r.length cn2]) (by simp [results, Tryz.results13, go_sem, r0, r1, r2]) rfl ?_
   obtain ⟨q1, q2⟩ := HQ.out _ _ _ M4.out (by rw [HT.out, HN1.out]; try exact EH.out) (by rw [HT.out, HN1.out]; try exact EN.out)
   exact ⟨_, rfl, .inr q1, q2⟩
  | some x =>
   have HN1 : Hid (NU = some (fnF fn x 0)) := by show _ = _; rw [HNU.out, if_neg o1, if_neg o2, if_pos o4, HAT.out _ hA, Int.toNat_natCast, hra]; rfl
   have hxw := HWD.out _ _ hra
   have HFN : Hid (∀ W, Calls Tryz.prog 40 #[.int .i64 fn, .int .u32 x, .int .u32 0] W fun e w' => e = .returned (.int .u32 (fnF fn x 0)) ∧ Below W.heap.size W w') := fun W => rfn_c fn x 0 W hxw.1 hxw.2 (by decide) (by decide)
   clear hxw
   rw [hra] at chqa cnqa cnqaw
   simp only [Option.isSome_some, Option.getD_some] at chqa cnqa cnqaw
   clear hra
   generalize fnF fn x 0 = FX at *
   go_wp2_with fail
   have M6 := Lib.hid ((M4.out.setH hq (.bool true)).below (Below.refl _ _).drew)
   refine wp_region_game (fun z => z = b6 ∨ z = w.heap.size ∨ z = w.heap.size + 1 ∨ z = bnqa) (by kernel_rfl) ?_
   show wpE _ _ _ _ _ _ _ (W5.setCell ⟨gh, q, none⟩ (.bool true)).drew
   obtain ⟨W6, hW6⟩ : ∃ W6, W6 = (W5.setCell ⟨gh, q, none⟩ (.bool true)).drew := ⟨_, rfl⟩
   rw [← hW6] at M6 ⊢
   clear hW6
   clear z0 z1 z2 lz a0 a1 a2 la r0 r1 r2 lr x0 x1 x2 x3 x4 x5 x6 x7 x8 x9 x10 lx fr0 fr1 fr2 cgh cgn fgh fgn lgh lgn hB6
   obtain ⟨hA6, hI6, hR6, hB6⟩ := HF.out _ _ _ M6.out
   obtain ⟨z0, z1, z2, lz⟩ := cl3 M6.out.bx
   obtain ⟨a0, a1, a2, la⟩ := cl3 hA6
   obtain ⟨r0, r1, r2, lr⟩ := cl3 hR6
   obtain ⟨x0, x1, x2, x3, x4, x5, x6, x7, x8, x9, x10, lx⟩ := cl11 hI6
   have fr0 := frozen_of_heap hR6 0
   have fr1 := frozen_of_heap hR6 1
   have fr2 := frozen_of_heap hR6 2
   obtain ⟨cgh, cgn, fgh, fgn, lgh, lgn⟩ := M6.out.at hq
   clear hA6 hI6 hR6
   rw [HEC.out] at cgn
   have cnqa := Ext.below hB6 _ _ cnqaw
   refine E_mob2s [0, 1, 2, 3, 4, 5, 6, 7, 8, 9, 10] _ _ _ _ (by kernel_rfl) ?_
   simp only [List.map_cons, List.map_nil, List.getElem?_toArray, List.getElem?_cons_succ, List.getElem?_cons_zero, Option.getD_some, List.size_toArray, List.length_cons, List.length_nil, Nat.reduceAdd, Nat.reduceSub]
   repeat (go_big_quiet_step (fail))
   refine wpQuiet_nil ?_
   refine E_loud1 11 _ rfl (by kernel_rfl) ?_
   simp only [List.getElem_toArray, List.getElem_cons_succ, List.getElem_cons_zero]
   go_wp2_with fail
   refine (HFN.out _).mono ?_
   rintro e w8 ⟨rfl, hb8⟩
   have M8 := Lib.hid (M6.out.below hb8)
   have HK8 : Hid (Keep (fun z => z = b6 ∨ z = w.heap.size ∨ z = w.heap.size + 1 ∨ z = bnqa) W6 w8) := keep_below hb8 (fun z hz => by rcases hz with rfl | rfl | rfl | rfl <;> first | assumption | exact World.block_lt_of_cell? _ _ cnqa)
   clear hb8 cnqa
   clear z0 z1 z2 lz a0 a1 a2 la r0 r1 r2 lr x0 x1 x2 x3 x4 x5 x6 x7 x8 x9 x10 lx fr0 fr1 fr2 cgh cgn fgh fgn lgh lgn hB6
   obtain ⟨hA6, hI6, hR6, hB6⟩ := HF.out _ _ _ M8.out
   obtain ⟨z0, z1, z2, lz⟩ := cl3 M8.out.bx
   obtain ⟨a0, a1, a2, la⟩ := cl3 hA6
   obtain ⟨r0, r1, r2, lr⟩ := cl3 hR6
   obtain ⟨x0, x1, x2, x3, x4, x5, x6, x7, x8, x9, x10, lx⟩ := cl11 hI6
   have fr0 := frozen_of_heap hR6 0
   have fr1 := frozen_of_heap hR6 1
   have fr2 := frozen_of_heap hR6 2
   obtain ⟨cgh, cgn, fgh, fgn, lgh, lgn⟩ := M8.out.at hq
   clear hA6 hI6 hR6
   rw [HEC.out] at cgn
   go_wp2_with fail
   refine ⟨HK8.out, ?_⟩
   refine E_mob2s [12] _ _ _ _ (by kernel_rfl) ?_
   simp only [List.map_cons, List.map_nil, List.getElem?_toArray, List.getElem?_cons_succ, List.getElem?_cons_zero, Option.getD_some, List.size_toArray, List.length_cons, List.length_nil, Nat.reduceAdd, Nat.reduceSub]
   repeat (go_big_quiet_step (fail))
   refine wpQuiet_nil ?_
   refine E_last 13 _ rfl (by kernel_rfl) ?_
   simp only [List.getElem_toArray, List.getElem_cons_succ, List.getElem_cons_zero]
   go_wp2_with fail
   refine E_done (by kernel_rfl) ?_ _
   have M7 := Lib.hid (M8.out.setN hq (.int .u32 FX))
   clear M8 HK8
   clear M6
   clear z0 z1 z2 lz a0 a1 a2 la r0 r1 r2 lr x0 x1 x2 x3 x4 x5 x6 x7 x8 x9 x10 lx fr0 fr1 fr2 cgh cgn fgh fgn lgh lgn hB6
   generalize (w8).setCell ⟨gn, q, none⟩ (.int .u32 FX) = W7 at *
   obtain ⟨hA6, hI6, hR6, hB6⟩ := HF.out _ _ _ M7.out
   obtain ⟨z0, z1, z2, lz⟩ := cl3 M7.out.bx
   obtain ⟨a0, a1, a2, la⟩ := cl3 hA6
   obtain ⟨r0, r1, r2, lr⟩ := cl3 hR6
   obtain ⟨x0, x1, x2, x3, x4, x5, x6, x7, x8, x9, x10, lx⟩ := cl11 hI6
   have fr0 := frozen_of_heap hR6 0
   have fr1 := frozen_of_heap hR6 1
   have fr2 := frozen_of_heap hR6 2
   obtain ⟨cgh, cgn, fgh, fgn, lgh, lgn⟩ := M7.out.at hq
   clear hA6 hI6 hR6
   have EH := Lib.hid (eh_some r q FX)
   have EN := Lib.hid (en_some r q FX)
   go_wp2_with fail
   refine bodyPost_ret (v := .agg #[.bool true, .slice (some ⟨gh, 0, none⟩) r.length ch2, .slice (some ⟨gn, 0, none⟩) r.length cn2]) (by simp [results, Tryz.results13, go_sem, r0, r1, r2]) rfl ?_
   obtain ⟨q1, q2⟩ := HQ.out _ _ _ M7.out (by rw [HT.out, HN1.out]; try exact EH.out) (by rw [HT.out, HN1.out]; try exact EN.out)
   exact ⟨_, rfl, .inr q1, q2⟩
end Go.Proofs.YtkhfddodmjnecaaGreatDoor
