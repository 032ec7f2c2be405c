/-
 The contract of (*irrun.runner).into, given what calls with less fuel do.; The contract of (*irrun.runner).ins: any instruction that is right.
-/
import Derived.Test.YtchoiankeohonaaGreatDoorZInlineAll14
import Derived.Test.YtchoiankeohonaaGreatDoorZInlineAll07

set_option linter.all false
namespace Go.Proofs.YtchoiankeohonaaGreatDoor
open Go.ChangeShapes Go.WideShapes Go.ChangeAt Go.RowKit
set_option maxHeartbeats 4000000
set_option linter.unusedVariables false
set_option maxRecDepth 20000

section
variable {k : RK} {p : Pr} {bf bg c : Nat} {nm : ByteArray} {vob vbl vat : Value} {low : Int} {w w' : World} {vo vo' : Value} {regs : List Int} {s s' : RS}
theorem args_of_own {w : World} {B : Nat} {v : Value} {args : List Int} (h : w.ownsRow B 39 1 v args.length ((args.take args.length).map fun n => Value.int .u32 (rg regs n))) : RdW w v (args.map (rg regs)) := by
 rw [List.take_length] at h
 have e : (args.map fun n => Value.int .u32 (rg regs n)) = (args.map (rg regs)).map (Value.int .u32) := by rw [List.map_map]; rfl
 rw [e] at h
 have hl : args.length = (args.map (rg regs)).length := by rw [List.length_map]
 rw [hl] at h
 exact own_rows 0 h

theorem rcinto_c {F : Nat} (hOK : CallOK k F) (h : Rn k w vo s) (f : Fw k p bf bg c nm vob vbl vat low w vo regs) (hg : Gd s) (hF : s.fuel ≤ (F : Int)) (i : In) (va : Value) (hva : RdI k.wp va i.args) (hop : i.op = 9) (ho : 0 ≤ i.obj) (ho2 : i.obj < (k.m.procs.length : Int)) (hpar : (i.args.length : Int) = (pk k.m i.obj.toNat).params) (har : ∀ j, j < i.args.length → 0 ≤ i.args.getD j 0 ∧ i.args.getD j 0 < (regs.length : Int)) (hal : i.args.length ≤ 100) (hd : i.d = -1 ∨ 0 ≤ i.d ∧ i.d < (regs.length : Int)) (hlo : 0 ≤ low ∧ low ≤ 65536) (fr : Fr) (hfr : fr.regs = regs) (hfp : pk k.m fr.n = p) (hfl : fr.low = low) (hli : fr.i < (insOf k fr).length) (hi : (insOf k fr).getD fr.i default = i) :
  Calls Tryz.prog 62 #[.pointer (some ⟨k.br, 0, none⟩), .pointer (some ⟨bf, 0, none⟩), iV i va] w (StepPost k p bf bg c nm vob vbl vat low w vo s fr) := by
 have HST := Lib.hid (fun K => stepM_call k fr K s.oc i hli hi hop)
 have HCB := Lib.hid (show ∀ K v o, backM k.m ({ fr with i := fr.i + 1 } :: K) v o = ⟨(if i.d ≠ -1 then { fr with regs := fr.regs.set i.d.toNat v, i := fr.i + 1 } else { fr with i := fr.i + 1 }) :: K, false, o⟩ from fun K v o => by
  rw [← hi]
  unfold insOf backM
  dsimp only
  rw [Nat.add_sub_cancel])
 have HFR := Lib.hid hfr
 have HFL := Lib.hid hfl
 clear hli hi hfp hfl hfr
 unfold iV
 obtain ⟨op, d_, a_, b_, fn, obj, off, size, num, args, log⟩ := i
 dsimp only at *
 subst hop
 obtain ⟨W0, hW0⟩ : ∃ W0, W0 = w.alloc (.cells #[.int .i64 9, .int .i64 d_, .int .i64 a_, .int .i64 b_, .int .i64 fn, .int .i64 obj, .int .i64 off, .int .i64 size, .int .u32 num, va, .bool log] 48) := ⟨_, rfl⟩
 have B0 : Hid (Below w.heap.size w W0) := by rw [hW0]; exact below_alloc w _
 have HW := Lib.hid (heap_of_alloc w (#[.int .i64 9, .int .i64 d_, .int .i64 a_, .int .i64 b_, .int .i64 fn, .int .i64 obj, .int .i64 off, .int .i64 size, .int .u32 num, va, .bool log]) _ hW0)
 have y := fun j => cell_of_heap HW.out j
 have HFN := Lib.hid (fin_set h f)
 have HR := Lib.hid h
 have HF := Lib.hid f
 have lbx : w.heap.size < W0.heap.size := by rw [hW0]; simp
 have lbf : bf < W0.heap.size := by have := f.bfLt; omega
 have lbr : k.br < W0.heap.size := by have := h.brLt; omega
 have x0 := (f.grow B0.out).cR
 have HSX := Lib.hid (fun n hn x => (f.grow B0.out).setC (w := W0) n hn x)
 have HGX := Lib.hid (fun n hn S hS => (f.grow B0.out).getK (w := W0) n hn S hS)
 have hva' := hva
 obtain ⟨aa, ca, rfl, ha1, ha2, -⟩ := hva'
 have HAT := Lib.hid (RdI.at' hva).2
 clear hva
 unfold maxLen at ha2
 obtain ⟨no, rfl⟩ := Int.eq_ofNat_of_zero_le ho
 have HX : Hid (∀ w', Below w.heap.size w w' → Ext k.wp w') := fun w' hb => Ext.below (h.below.trans (hb.mono h.below.size))
 have HSB := Lib.hid (f.sb h)
 have HOK := Lib.hid hOK
 have HG := Lib.hid hg
 have HAR := Lib.hid har
 have HPAR : Hid (((args.map (rg regs)).length : Int) = (pk k.m no).params) := by show _ = _; rw [List.length_map]; simpa using hpar
 have HWD : Hid (∀ x ∈ args.map (rg regs), 0 ≤ x ∧ x < 4294967296) := fun x hx => by
  obtain ⟨y, -, rfl⟩ := List.mem_map.1 hx
  exact rg_words f.wd y
 have hsB : k.wp.heap.size ≤ w.heap.size := h.below.size
 have hnp : no < k.m.procs.length := by omega
 have HGC := Lib.hid (fun n hn => f.getC (w := w) n hn)
 obtain ⟨hlo0, hlo1⟩ := hlo
 clear hOK hg har hpar h HSX HGX x0 y ho ho2
 go_enter Tryz.func62, Tryz.ntmps62
 have y9 := cell_of_heap HW.out 9
 simp only [List.getElem?_toArray, List.getElem?_cons_zero, List.getElem?_cons_succ] at y9
 go_wp2_with fail
 rw [← hW0]
 clear hW0
 go_loopw [7, 15] (fun o i wr => ∃ j : Nat, j ≤ args.length ∧ i = .int .i64 (j : Int) ∧ Hid (wr.ownsRow W0.heap.size 39 1 o j ((args.take j).map fun n => Value.int .u32 (rg regs n))) ∧ Hid (Below w.heap.size w wr) ∧ Hid (Below W0.heap.size W0 wr)) (fun _ i _ => args.length - (intOf i).toNat)
 case atStart => exact ⟨0, Nat.zero_le _, rfl, own_nil _ _ _ _, B0, Below.refl _ _⟩
 case round =>
  obtain ⟨j, hj, rfl, O, B, B1⟩ := hrel
  by_cases hlt : j < args.length
  ·obtain ⟨ba, oa, rfl, hc⟩ := HAT.out j hlt
   have y := HX.out wr B.out _ _ hc
   have lba : ba < wr.heap.size := World.block_lt_of_cell? wr _ y
   obtain ⟨hn0, hn1⟩ := HAR.out j hlt
   have HT : Hid ((args.take (j + 1)).map (fun n => Value.int .u32 (rg regs n)) = (args.take j).map (fun n => Value.int .u32 (rg regs n)) ++ [.int .u32 (rg regs (args.getD j 0))]) := by
    show _ = _
    rw [take_snoc _ j hlt, List.map_append]; rfl
   generalize args.getD j 0 = an at *
   obtain ⟨nn, rfl⟩ := Int.eq_ofNat_of_zero_le hn0
   have hrg : rg regs (nn : Int) = regs.getD nn 0 := by simp [rg]
   rw [hrg] at HT
   clear hrg
   have HGet := Lib.hid (HGC.out nn (by omega) wr B.out)
   have x0 := (f.grow B.out).cR
   have lbf2 : bf < wr.heap.size := by have := f.bfLt; have := B.out.size; omega
   generalize regs.getD nn 0 = X at *
   have hF := Lib.hid f
   clear f hc
   go_wp2_with fail
   refine HGet.out.mono ?_
   rintro e w9 ⟨rfl, hb9⟩
   have hs9 := hb9.size
   have hsr := B.out.size
   have hsr1 := B1.out.size
   have hB9 : Below wr.heap.size wr (w9.alloc (.cells #[.int .u32 X] 39)) := hb9.trans ((below_alloc w9 _).mono hs9)
   go_wp2_with (at_builtin; refine appG 27 39 infoU32r Tryz.underlying27 rfl (by decide) (by decide) [.int .u32 X] rfl (by simp [Value.oneCell']) (own_below O.out hB9) rfl rfl rfl rfl (cell_new1 w9 _ _ _ rfl) (by omega) (by simp; omega) ?_; intro o1 w1 O1 G1 D1)
   have hB1 : Hid (Below W0.heap.size W0 w1) := below_grown ((B1.out.trans (hb9.mono hsr1)).trans ((below_alloc w9 _).mono (by omega))) G1 (by simp; omega) fun g hg => (own_lt O.out hg).1
   have hB : Hid (Below w.heap.size w w1) := B0.out.trans (hB1.out.mono B0.out.size)
   have O1 := Lib.hid O1
   go_round
   case rel => exact ⟨j + 1, by omega, by go_num, by show World.ownsRow _ _ _ _ _ _ _; rw [HT.out]; exact O1.out, hB, hB1⟩
   case measure => first | (simp [intOf]; done) | (simp [intOf]; omega)
  ·obtain rfl : j = args.length := by omega
   go_wp2_with fail
   have hargs := Lib.hid (args_of_own O.out)
   have x0 := (f.grow B.out).cR
   have x8 := (f.grow B.out).cL
   have lbf2 : bf < wr.heap.size := by have := f.bfLt; have := B.out.size; omega
   have lbx2 : w.heap.size < wr.heap.size := Nat.lt_of_lt_of_le lbx B1.out.size
   have y := fun j => cell_of_heap ((B1.out.block w.heap.size lbx).trans HW.out) j
   have y1 := y 1
   have y2 := y 2
   have y3 := y 3
   have y4 := y 4
   have y5 := y 5
   have y6 := y 6
   have y7 := y 7
   have y8 := y 8
   simp only [List.getElem?_toArray, List.getElem?_cons_zero, List.getElem?_cons_succ] at y1 y2 y3 y4 y5 y6 y7 y8
   clear y
   obtain ⟨ao, co, rfl⟩ := row_shape O.out
   have hb1 := SB1 bf bg w.heap.size
   have hb2 := SB2 bf bg w.heap.size
   have hb3 := SB3 bf bg w.heap.size
   refine wp_region_junk (SB bf bg w.heap.size) (by kernel_rfl) ?_
   refine J_mobs [0, 1, 2, 3, 4, 5, 6, 7] _ _ _ _ (by kernel_rfl) ?_
   simp only [List.map_cons, List.map_nil, List.getElem?_toArray, List.getElem?_cons_succ, List.getElem?_cons_zero, Option.getD_some, List.size_toArray, List.length_cons, List.length_nil, Nat.reduceAdd, Nat.reduceSub]
   repeat (go_big_quiet_step (fail))
   refine wpQuiet_nil ?_
   refine J_loud1 8 _ rfl (by kernel_rfl) ?_
   simp only [List.getElem_toArray, List.getElem_cons_succ, List.getElem_cons_zero]
   intro wj hj
   go_wp2_with fail
   have hjw : Below w.heap.size w wj := B.out.trans (hj.mono B.out.size)
   refine (HOK.out wj vo s no (args.map (rg regs)) _ low (HR.out.grow hjw) HG.out hF hnp (hargs.out.ext (Ext.below hj)) HPAR.out HWD.out hlo0 hlo1).mono ?_
   intro e w2 hcp
   obtain ⟨vo2, s2, v, ok, rfl, hr2, hk2, hv2, hok2, hM2⟩ := hcp
   have hr2 := Lib.hid hr2
   have hk2 := Lib.hid hk2
   have hok2 := Lib.hid hok2
   have hM2 := Lib.hid hM2
   go_wp2_with fail
   refine ⟨hk2.out.keepX HSB.out, ?_⟩
   refine J_mobs [9, 10, 11, 12, 13] _ _ _ _ (by kernel_rfl) ?_
   simp only [List.map_cons, List.map_nil, List.getElem?_toArray, List.getElem?_cons_succ, List.getElem?_cons_zero, Option.getD_some, List.size_toArray, List.length_cons, List.length_nil, Nat.reduceAdd, Nat.reduceSub]
   repeat (go_big_quiet_step (fail))
   refine wpQuiet_nil ?_
   refine J_done (by kernel_rfl) (fun wk hk => ?_) _
   obtain ⟨hr3, hf3, hk3⟩ := fin_run HR.out HF.out hjw hr2.out hk2.out hk
   have hwk : wk.heap[w.heap.size]? = w2.heap[w.heap.size]? := hk.block _ (Nat.lt_of_lt_of_le (Nat.lt_of_lt_of_le lbx2 hj.size) hk2.out.size)
   have hw2 : w2.heap[w.heap.size]? = wj.heap[w.heap.size]? := hk2.out.keep _ (Nat.lt_of_lt_of_le lbx2 hj.size) (HSB.out _ hb3).1 (HSB.out _ hb3).2.1 (HSB.out _ hb3).2.2
   have hwj := hj.block w.heap.size lbx2
   have HWk := Lib.hid (hwk.trans (hw2.trans (hwj.trans ((B1.out.block w.heap.size lbx).trans HW.out))))
   have lbx3 : w.heap.size < wk.heap.size := Nat.lt_of_lt_of_le (Nat.lt_of_lt_of_le (Nat.lt_of_lt_of_le lbx2 hj.size) hk2.out.size) hk.size
   clear hwk hw2 hwj
   clear y1 y2 y3 y4 y5 y6 y7 y8
   clear x0 x8 y9
   have y := fun j => cell_of_heap HWk.out j
   have y1 := y 1
   have y2 := y 2
   have y3 := y 3
   have y4 := y 4
   have y5 := y 5
   have y6 := y 6
   have y7 := y 7
   have y8 := y 8
   simp only [List.getElem?_toArray, List.getElem?_cons_zero, List.getElem?_cons_succ] at y1 y2 y3 y4 y5 y6 y7 y8
   clear y
   have x0 := hf3.cR
   have lbf3 : bf < wk.heap.size := hf3.bfLt.2
   have hr3 := Lib.hid hr3
   have hf3 := Lib.hid hf3
   have hk3 := Lib.hid hk3
   have HK : Hid (∀ K : List Fr, (K.length : Int) + 1 = s.deep → runM k.m k.inp s.fuel.toNat (stepM k.m k.inp ⟨fr :: K, false, s.oc⟩) = if ok = true then runM k.m k.inp s2.fuel.toNat (backM k.m ({ fr with i := fr.i + 1 } :: K) v s2.oc) else s2.oc) := fun K hK => by
    rw [HST.out K, HFR.out, HFL.out]
    have := hM2.out ({ fr with regs := regs, i := fr.i + 1 } :: K) (by simp; omega)
    rw [HFL.out] at this
    simpa using this
   clear hM2
   cases ok
   ·go_wp2_with fail
    go_ret
    exact ⟨vo2, s2, regs, false, rfl, hr3.out, hf3.out, hk3.out, (fun h => by cases h), HK.out⟩
   ·obtain ⟨g1, g2, g3⟩ := hok2.out rfl
    have g1 := Lib.hid g1
    have g2 := Lib.hid g2
    have g3 := Lib.hid g3
    rcases hd with hd | ⟨hd0, hd1⟩
    ·subst hd
     go_wp2_with fail
     go_ret
     exact ⟨vo2, s2, regs, true, rfl, hr3.out, hf3.out, hk3.out, fun _ => ⟨g1.out, g2.out, g3.out, by rw [HFR.out]⟩, fun K hK => by rw [HK.out K hK, if_pos rfl, HCB.out, HFR.out]; rfl⟩
    ·obtain ⟨n, rfl⟩ := Int.eq_ofNat_of_zero_le hd0
     have gn : ((n : Int) != -1) = true := by rw [bne_iff_ne]; omega
     have HSet := Lib.hid (hf3.out.setC n (by omega) v)
     have HFN := Lib.hid (fin_set hr3.out hf3.out)
     have HV := Lib.hid hv2
     have hgl : n < regs.length := by omega
     clear hv2 hd1
     go_wp2_with fail
     refine wp_region_junk (fun _ => True) (by kernel_rfl) ?_
     refine J_mobs [0, 1, 2, 3, 4, 5, 6] _ _ _ _ (by kernel_rfl) ?_
     simp only [List.map_cons, List.map_nil, List.getElem?_toArray, List.getElem?_cons_succ, List.getElem?_cons_zero, Option.getD_some, List.size_toArray, List.length_cons, List.length_nil, Nat.reduceAdd, Nat.reduceSub]
     repeat (go_big_quiet_step (fail))
     refine wpQuiet_nil ?_
     refine J_last 7 _ rfl (by kernel_rfl) ?_
     simp only [List.getElem_toArray, List.getElem_cons_succ, List.getElem_cons_zero]
     intro wj hj
     go_wp2_with fail
     refine (HSet.out _ ‹_›).mono ?_
     rintro e wz ⟨⟨u, rfl⟩, hz⟩
     obtain ⟨hr4, hf4, hk4⟩ := HFN.out _ _ ‹_› n _ HV.out.1 HV.out.2 hz
     clear hz
     go_wp2_with fail
     refine J_done (by kernel_rfl) (fun wl hl => ?_) _
     have hr5 := Lib.hid (hr4.grow hl)
     have hf5 := Lib.hid (hf4.grow hl)
     have hk5 := Lib.hid ((hk3.out.trans hk4).trans (Kq.of_below hl))
     clear hr4 hf4 hk4 hl
     go_wp2_with fail
     go_ret
     exact ⟨vo2, s2, _, true, rfl, hr5.out, hf5.out, hk5.out, fun _ => ⟨g1.out, g2.out, g3.out, by rw [HFR.out, List.length_set]⟩, fun K hK => by
      rw [HK.out K hK, if_pos rfl, HCB.out, HFR.out, if_pos (show (n : Int) ≠ -1 by omega)]; rfl⟩
end
end Go.Proofs.YtchoiankeohonaaGreatDoor

set_option linter.all false
namespace Go.Proofs.YtchoiankeohonaaGreatDoor
open Go.ChangeShapes Go.WideShapes Go.ChangeAt Go.RowKit
set_option maxHeartbeats 4000000
set_option linter.unusedVariables false
set_option maxRecDepth 20000

theorem okM_proc {m : Md} (h : okM m = true) {n : Nat} (hn : n < m.procs.length) : okP m (pk m n) = true := by
 unfold okM at h
 simp only [Bool.and_eq_true] at h
 have h2 := h.2.2.2
 rw [List.all_eq_true] at h2
 exact h2 _ (by unfold pk; simp [List.getD, hn])
theorem slot_sizes {l : List Sl} (h : l.all slotF = true) : ∀ i, i < l.length → 0 ≤ (l.getD i default).size ∧ (l.getD i default).size ≤ 40000 := fun i hi => by
 rw [List.all_eq_true] at h
 have := h (l.getD i default) (by simp [List.getD, hi])
 unfold slotF at this
 simp only [Bool.and_eq_true, decide_eq_true_eq] at this
 omega
theorem slE_small {l : List Sl} (h : l.all slotF = true) (hl : l.length ≤ 400) : ∀ j : Nat, j ≤ l.length → 0 ≤ slE l j ∧ slE l j ≤ 20000000 := fun j hj => by
 have := slE_bd l (slot_sizes h) j hj
 have h2 : (j : Int) ≤ 400 := by omega
 omega
theorem okM_globs {m : Md} (h : okM m = true) : m.globs.all slotF = true ∧ m.globs.length ≤ 200 ∧ m.data.length = m.globs.length := by
 unfold okM okHeadM at h
 simp only [Bool.and_eq_true, decide_eq_true_eq] at h
 exact ⟨h.1.2.2.1, h.1.2.1, h.1.1⟩
theorem regF_yes {p : Pr} {r : Int} (h : regF p r true = true) : 0 ≤ r ∧ r < p.regs := by
 unfold regF at h; simpa using h
theorem regF_no {p : Pr} {r : Int} (h : regF p r false = true) : r = -1 := by
 unfold regF at h; simpa using h
section
variable {k : RK} {p : Pr} {bf bg c : Nat} {nm : ByteArray} {vob vbl vat : Value} {low : Int} {w w' : World} {vo vo' : Value} {regs : List Int} {s s' : RS}
theorem ins_9 {va : Value} (h : Rn k w vo s) (f : Fw k p bf bg c nm vob vbl vat low w vo regs) (i : In) (hop : i.op = 9) {fr : Fr}
  (H : ∀ w', Below w.heap.size w w' → Calls Tryz.prog 62 #[.pointer (some ⟨k.br, 0, none⟩), .pointer (some ⟨bf, 0, none⟩), iV i va] w' (StepPost k p bf bg c nm vob vbl vat low w' vo s fr)) :
  Calls Tryz.prog 48 #[.pointer (some ⟨k.br, 0, none⟩), .pointer (some ⟨bf, 0, none⟩), iV i va] w (StepPost k p bf bg c nm vob vbl vat low w vo s fr) := by
 unfold iV at *
 obtain ⟨op, d_, a_, b_, fn, obj, off, size, num, args, log⟩ := i
 dsimp only at *
 subst hop
 have HH := Lib.hid H
 clear H h f
 go_enter Tryz.func48, Tryz.ntmps48
 go_wp2_with fail
 refine (HH.out _ (below_alloc _ _)).mono ?_
 intro e w2 hst
 obtain ⟨vo2, s2, regs2, ok, rfl, h1, h2, h3, h4, h5⟩ := hst
 have h1 := Lib.hid h1
 have h2 := Lib.hid h2
 have h3 : Hid (Kq k bg vo vo2 w w2) := (Kq.of_below (below_alloc w _)).trans h3
 have h4 := Lib.hid h4
 have h5 := Lib.hid h5
 go_wp2_with fail
 go_ret
 exact ⟨vo2, s2, regs2, ok, rfl, h1.out, h2.out, h3.out, h4.out, h5.out⟩
theorem insR_c {F : Nat} (hOK : CallOK k F) (E : Env k) (h : Rn k w vo s) (f : Fw k p bf bg c nm vob vbl vat low w vo regs) (hg : Gd s) (hs1 : s.ins + s.fuel + 1 ≤ 10000000) (hs2 : (s.out.length : Int) + s.fuel + 1 ≤ 10000000) (hF : s.fuel ≤ (F : Int)) (i : In) (va : Value) (hva : RdI k.wp va i.args)
  (hok : okI k.m p i = true) (hnum : 0 ≤ i.num ∧ i.num < 4294967296) (hpr : p.objs.all slotF = true ∧ p.objs.length ≤ 400) (hlo : 0 ≤ low ∧ low ≤ 65536) (hrl : (regs.length : Int) = p.regs) (fr : Fr) (hfr : fr.regs = regs) (hfp : pk k.m fr.n = p) (hfl : fr.low = low) (hli : fr.i < (insOf k fr).length) (hi : (insOf k fr).getD fr.i default = i) :
  Calls Tryz.prog 48 #[.pointer (some ⟨k.br, 0, none⟩), .pointer (some ⟨bf, 0, none⟩), iV i va] w (StepPost k p bf bg c nm vob vbl vat low w vo s fr) := by
 subst hfr
 have hE : ∀ j : Nat, j < p.objs.length → 0 ≤ slE p.objs j ∧ slE p.objs j ≤ 50000000 := fun j hj => by
  have := slE_small hpr.1 hpr.2 j (Nat.le_of_lt hj); omega
 obtain ⟨hG1, hG2, hG3⟩ := okM_globs E.ok
 have hEg : ∀ j : Nat, j < k.m.globs.length → 0 ≤ slE k.m.globs j ∧ slE k.m.globs j ≤ 50000000 := fun j hj => by
  have := slE_small hG1 (by omega) j (Nat.le_of_lt hj); omega
 have hok' := hok
 unfold okI at hok
 simp only [Bool.and_eq_true, decide_eq_true_eq] at hok
 obtain ⟨⟨ho1, ho2, -⟩, hok⟩ := hok
 have fin : ∀ {e : Ending} {w' : World}, i.op ≠ 9 → InsPost k p bf bg c nm vob vbl vat low w vo s (insM k.m k.inp p low i fr.regs s.oc) e w' → StepPost k p bf bg c nm vob vbl vat low w vo s fr e w' := fun h9 hp => step_of_ins hg hs1 hs2 hfp hfl hli hi h9 hp
 by_cases h9 : i.op = 9
 ·rw [if_pos h9] at hok
  simp only [Bool.and_eq_true] at hok
  obtain ⟨hc, -, -⟩ := hok
  unfold callF at hc
  simp only [Bool.and_eq_true, decide_eq_true_eq] at hc
  obtain ⟨c1, c2, c3, c4, c5⟩ := hc
  rw [List.all_eq_true] at c5
  have hpar := (okP_head (okM_proc E.ok (n := i.obj.toNat) (by omega))).p6
  have hpc : (i.args.length : Int) = (pk k.m i.obj.toNat).params := c3
  refine ins_9 h f i h9 fun w' hb => rcinto_c hOK (h.grow hb) (f.grow hb) hg hF i va hva h9 c1 c2 hpc (fun j hj => ?_) (by omega) ?_ hlo fr rfl hfp hfl hli hi
  ·have := regF_yes (c5 (i.args.getD j 0) (by simp [List.getD, hj]))
   omega
  ·cases hv : (k.m.procs.getD i.obj.toNat default).void
   ·rw [hv] at c4
    have := regF_yes c4
    right; omega
   ·rw [hv] at c4
    exact .inl (regF_no c4)
 ·rw [if_neg h9] at hok
  simp only [Bool.and_eq_true] at hok
  obtain ⟨⟨hd, ha, hb⟩, hm⟩ := hok
  have hcase : i.op = 1 ∨ i.op = 2 ∨ i.op = 3 ∨ i.op = 4 ∨ i.op = 5 ∨ i.op = 6 ∨ i.op = 7 ∨ i.op = 8 ∨ i.op = 10 ∨ i.op = 11 ∨ i.op = 12 := by omega
  have RD : ∀ {r : Int} {b : Bool}, regF p r b = true → b = true → 0 ≤ r ∧ r < (fr.regs.length : Int) := fun h1 h2 => by
   subst h2; have := regF_yes h1; omega
  have I0 := hg.i0
  have F0 := hg.f0
  unfold moreF at hm
  rcases hcase with e | e | e | e | e | e | e | e | e | e | e
  ·obtain ⟨d0, d1⟩ := RD hd (by rw [e]; rfl)
   exact (ins_1 h f i va e d0 d1 hnum.1 hnum.2).mono fun _ _ => fin h9
  ·obtain ⟨d0, d1⟩ := RD hd (by rw [e]; rfl)
   obtain ⟨a0, a1⟩ := RD ha (by rw [e]; rfl)
   exact (ins_2 h f i va e d0 d1 a0 a1).mono fun _ _ => fin h9
  ·obtain ⟨d0, d1⟩ := RD hd (by rw [e]; rfl)
   obtain ⟨a0, a1⟩ := RD ha (by rw [e]; rfl)
   obtain ⟨b0, b1⟩ := RD hb (by rw [e]; rfl)
   exact (ins_3 h f i va e d0 d1 a0 a1 b0 b1).mono fun _ _ => fin h9
  ·obtain ⟨d0, d1⟩ := RD hd (by rw [e]; rfl)
   obtain ⟨a0, a1⟩ := RD ha (by rw [e]; rfl)
   exact (ins_4 h f i va e d0 d1 a0 a1).mono fun _ _ => fin h9
  ·obtain ⟨d0, d1⟩ := RD hd (by rw [e]; rfl)
   obtain ⟨a0, a1⟩ := RD ha (by rw [e]; rfl)
   have hsz : i.size = 1 ∨ i.size = 4 := by simp [e] at hm; exact hm.1
   cases hp : placeF (addrM fr.regs i) i.size
   ·exact (ins_5n h f i va e a0 a1 hsz hp).mono fun _ _ => fin h9
   ·exact (ins_5y h f i va hg.mem e a0 a1 hsz d0 d1 hp).mono fun _ _ => fin h9
  ·obtain ⟨a0, a1⟩ := RD ha (by rw [e]; rfl)
   obtain ⟨b0, b1⟩ := RD hb (by rw [e]; rfl)
   have hsz : i.size = 1 ∨ i.size = 4 := by simp [e] at hm; exact hm.1
   cases hp : placeF (addrM fr.regs i) i.size
   ·exact (ins_6n h f i va e a0 a1 hsz b0 b1 hp).mono fun _ _ => fin h9
   ·exact (ins_6y h f i va e a0 a1 hsz b0 b1 hp).mono fun _ _ => fin h9
  ·obtain ⟨d0, d1⟩ := RD hd (by rw [e]; rfl)
   have hob : 0 ≤ i.obj ∧ i.obj < (p.objs.length : Int) ∧ -32768 ≤ i.off ∧ i.off ≤ 32768 := by simp [e, offF] at hm; omega
   exact (ins_7 h f i va e d0 d1 hob.1 hob.2.1 hob.2.2.1 hob.2.2.2 hlo.1 hlo.2 hE).mono fun _ _ => fin h9
  ·obtain ⟨d0, d1⟩ := RD hd (by rw [e]; rfl)
   have hob : 0 ≤ i.obj ∧ i.obj < (k.m.globs.length : Int) ∧ -32768 ≤ i.off ∧ i.off ≤ 32768 := by simp [e, offF] at hm; omega
   exact (ins_8 h f i va e d0 d1 hob.1 hob.2.1 hob.2.2.1 hob.2.2.2 E.at' hEg).mono fun _ _ => fin h9
  ·obtain ⟨a0, a1⟩ := RD ha (by rw [e]; rfl)
   exact (ins_10 h f i va e a0 a1 (by omega)).mono fun _ _ => fin h9
  ·obtain ⟨d0, d1⟩ := RD hd (by rw [e]; rfl)
   exact (ins_11 h f i va e d0 d1 I0 (by omega) E.inl E.inw).mono fun _ _ => fin h9
  ·exact (ins_12 h f i va e).mono fun _ _ => fin h9
end
end Go.Proofs.YtchoiankeohonaaGreatDoor
