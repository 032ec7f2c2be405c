/-
 The contract of (*irrun.runner).ins: any instruction that is right.
-/
import Derived.Test.YtedihiodmgnlpaaZIrrunRuns21
set_option linter.all false
namespace Go.Proofs.Ytedihiodmgnlpaa
open Go.ChangeShapes Go.WideShapes Go.ChangeAt Go.RowKit
set_option maxHeartbeats 4000000
set_option linter.unusedVariables false
set_option maxRecDepth 20000

theorem okM_proc {m : Md} (h : okM m = true) {n : Nat} (hn : n < m.procs.length) : okP m (pk m n) = true := by
 unfold okM at h
 simp only [Bool.and_eq_true] at h
 have h2 := h.2.2.2
 rw [List.all_eq_true] at h2
 exact h2 _ (by unfold pk; simp [List.getD, hn])
structure Head (p : Pr) : Prop where
 p0 : 0 ≤ p.params
 p6 : p.params ≤ 6
 pr : p.params ≤ p.regs
 r8 : p.regs ≤ 8000
 ol : p.objs.length ≤ 400
 b1 : 1 ≤ p.blks.length
 b4 : p.blks.length ≤ 4000
 sl : p.objs.all slotF = true
theorem okP_head {m : Md} {p : Pr} (h : okP m p = true) : Head p := by
 unfold okP okHead at h
 simp only [Bool.and_eq_true, decide_eq_true_eq] at h
 obtain ⟨⟨h1, h2, h3, h4, h5, h6, h7, h8, h9⟩, -⟩ := h
 exact ⟨h1, h2, h3, h4, h5, h6, h7, h8⟩
theorem okP_blk {m : Md} {p : Pr} (h : okP m p = true) {b : Nat} (hb : b < p.blks.length) : okB m p (p.blks.getD b default) = true := by
 unfold okP at h
 simp only [Bool.and_eq_true] at h
 have h2 := h.2
 rw [List.all_eq_true] at h2
 exact h2 _ (by simp [List.getD, hb])
theorem okB_ins {m : Md} {p : Pr} {b : Bk} (h : okB m p b = true) {i : Nat} (hi : i < b.ins.length) : okI m p (b.ins.getD i default) = true := by
 unfold okB at h
 simp only [Bool.and_eq_true] at h
 have h2 := h.1
 rw [List.all_eq_true] at h2
 exact h2 _ (by simp [List.getD, hi])
theorem okB_end {m : Md} {p : Pr} {b : Bk} (h : okB m p b = true) : endF p b = true := by
 unfold okB at h
 simp only [Bool.and_eq_true] at h
 exact h.2
theorem slot_sizes {l : List Sl} (h : l.all slotF = true) : ∀ i, i < l.length → 0 ≤ (l.getD i default).size ∧ (l.getD i default).size ≤ 40000 := fun i hi => by
 rw [List.all_eq_true] at h
 have := h (l.getD i default) (by simp [List.getD, hi])
 unfold slotF at this
 simp only [Bool.and_eq_true, decide_eq_true_eq] at this
 omega
theorem slE_small {l : List Sl} (h : l.all slotF = true) (hl : l.length ≤ 400) : ∀ j : Nat, j ≤ l.length → 0 ≤ slE l j ∧ slE l j ≤ 20000000 := fun j hj => by
 have := slE_bd l (slot_sizes h) j hj
 have h2 : (j : Int) ≤ 400 := by omega
 omega
theorem okM_globs {m : Md} (h : okM m = true) : m.globs.all slotF = true ∧ m.globs.length ≤ 200 ∧ m.data.length = m.globs.length := by
 unfold okM okHeadM at h
 simp only [Bool.and_eq_true, decide_eq_true_eq] at h
 exact ⟨h.1.2.2.1, h.1.2.1, h.1.1⟩
theorem regF_yes {p : Pr} {r : Int} (h : regF p r true = true) : 0 ≤ r ∧ r < p.regs := by
 unfold regF at h; simpa using h
theorem regF_no {p : Pr} {r : Int} (h : regF p r false = true) : r = -1 := by
 unfold regF at h; simpa using h
section
variable {k : RK} {p : Pr} {bf bg c : Nat} {nm : ByteArray} {vob vbl vat : Value} {low : Int} {w w' : World} {vo vo' : Value} {regs : List Int} {s s' : RS}
theorem ins_9 {va : Value} (h : Rn k w vo s) (f : Fw k p bf bg c nm vob vbl vat low w vo regs) (i : In) (hop : i.op = 9) {fr : Fr}
  (H : ∀ w', Below w.heap.size w w' → Calls Try.prog 127 #[.pointer (some ⟨k.br, 0, none⟩), .pointer (some ⟨bf, 0, none⟩), iV i va] w' (StepPost k p bf bg c nm vob vbl vat low w' vo s fr)) :
  Calls Try.prog 103 #[.pointer (some ⟨k.br, 0, none⟩), .pointer (some ⟨bf, 0, none⟩), iV i va] w (StepPost k p bf bg c nm vob vbl vat low w vo s fr) := by
 unfold iV at *
 obtain ⟨op, d_, a_, b_, fn, obj, off, size, num, args, log⟩ := i
 dsimp only at *
 subst hop
 have HH := Lib.hid H
 clear H h f
 go_enter Try.func103, Try.ntmps103
 go_wp2_with fail
 refine (HH.out _ (below_alloc _ _)).mono ?_
 intro e w2 hst
 obtain ⟨vo2, s2, regs2, ok, rfl, h1, h2, h3, h4, h5⟩ := hst
 have h1 := Lib.hid h1
 have h2 := Lib.hid h2
 have h3 : Hid (Kq k bg vo vo2 w w2) := (Kq.of_below (below_alloc w _)).trans h3
 have h4 := Lib.hid h4
 have h5 := Lib.hid h5
 go_wp2_with fail
 go_ret
 exact ⟨vo2, s2, regs2, ok, rfl, h1.out, h2.out, h3.out, h4.out, h5.out⟩
theorem insR_c {F : Nat} (hOK : CallOK k F) (E : Env k) (h : Rn k w vo s) (f : Fw k p bf bg c nm vob vbl vat low w vo regs) (hg : Gd s) (hs1 : s.ins + s.fuel + 1 ≤ 10000000) (hs2 : (s.out.length : Int) + s.fuel + 1 ≤ 10000000) (hF : s.fuel ≤ (F : Int)) (i : In) (va : Value) (hva : RdI k.wp va i.args)
  (hok : okI k.m p i = true) (hnum : 0 ≤ i.num ∧ i.num < 4294967296) (hpr : p.objs.all slotF = true ∧ p.objs.length ≤ 400) (hlo : 0 ≤ low ∧ low ≤ 65536) (hrl : (regs.length : Int) = p.regs) (fr : Fr) (hfr : fr.regs = regs) (hfp : pk k.m fr.n = p) (hfl : fr.low = low) (hli : fr.i < (insOf k fr).length) (hi : (insOf k fr).getD fr.i default = i) :
  Calls Try.prog 103 #[.pointer (some ⟨k.br, 0, none⟩), .pointer (some ⟨bf, 0, none⟩), iV i va] w (StepPost k p bf bg c nm vob vbl vat low w vo s fr) := by
 subst hfr
 have hE : ∀ j : Nat, j < p.objs.length → 0 ≤ slE p.objs j ∧ slE p.objs j ≤ 50000000 := fun j hj => by
  have := slE_small hpr.1 hpr.2 j (Nat.le_of_lt hj); omega
 obtain ⟨hG1, hG2, hG3⟩ := okM_globs E.ok
 have hEg : ∀ j : Nat, j < k.m.globs.length → 0 ≤ slE k.m.globs j ∧ slE k.m.globs j ≤ 50000000 := fun j hj => by
  have := slE_small hG1 (by omega) j (Nat.le_of_lt hj); omega
 have hok' := hok
 unfold okI at hok
 simp only [Bool.and_eq_true, decide_eq_true_eq] at hok
 obtain ⟨⟨ho1, ho2, -⟩, hok⟩ := hok
 have fin : ∀ {e : Ending} {w' : World}, i.op ≠ 9 → InsPost k p bf bg c nm vob vbl vat low w vo s (insM k.m k.inp p low i fr.regs s.oc) e w' → StepPost k p bf bg c nm vob vbl vat low w vo s fr e w' := fun h9 hp => step_of_ins hg hs1 hs2 hfp hfl hli hi h9 hp
 by_cases h9 : i.op = 9
 ·rw [if_pos h9] at hok
  simp only [Bool.and_eq_true] at hok
  obtain ⟨hc, -, -⟩ := hok
  unfold callF at hc
  simp only [Bool.and_eq_true, decide_eq_true_eq] at hc
  obtain ⟨c1, c2, c3, c4, c5⟩ := hc
  rw [List.all_eq_true] at c5
  have hpar := (okP_head (okM_proc E.ok (n := i.obj.toNat) (by omega))).p6
  have hpc : (i.args.length : Int) = (pk k.m i.obj.toNat).params := c3
  refine ins_9 h f i h9 fun w' hb => into_c hOK (h.grow hb) (f.grow hb) hg hF i va hva h9 c1 c2 hpc (fun j hj => ?_) (by omega) ?_ hlo fr rfl hfp hfl hli hi
  ·have := regF_yes (c5 (i.args.getD j 0) (by simp [List.getD, hj]))
   omega
  ·cases hv : (k.m.procs.getD i.obj.toNat default).void
   ·rw [hv] at c4
    have := regF_yes c4
    right; omega
   ·rw [hv] at c4
    exact .inl (regF_no c4)
 ·rw [if_neg h9] at hok
  simp only [Bool.and_eq_true] at hok
  obtain ⟨⟨hd, ha, hb⟩, hm⟩ := hok
  have hcase : i.op = 1 ∨ i.op = 2 ∨ i.op = 3 ∨ i.op = 4 ∨ i.op = 5 ∨ i.op = 6 ∨ i.op = 7 ∨ i.op = 8 ∨ i.op = 10 ∨ i.op = 11 ∨ i.op = 12 := by omega
  have RD : ∀ {r : Int} {b : Bool}, regF p r b = true → b = true → 0 ≤ r ∧ r < (fr.regs.length : Int) := fun h1 h2 => by
   subst h2; have := regF_yes h1; omega
  have I0 := hg.i0
  have F0 := hg.f0
  unfold moreF at hm
  rcases hcase with e | e | e | e | e | e | e | e | e | e | e
  ·obtain ⟨d0, d1⟩ := RD hd (by rw [e]; rfl)
   exact (ins_1 h f i va e d0 d1 hnum.1 hnum.2).mono fun _ _ => fin h9
  ·obtain ⟨d0, d1⟩ := RD hd (by rw [e]; rfl)
   obtain ⟨a0, a1⟩ := RD ha (by rw [e]; rfl)
   exact (ins_2 h f i va e d0 d1 a0 a1).mono fun _ _ => fin h9
  ·obtain ⟨d0, d1⟩ := RD hd (by rw [e]; rfl)
   obtain ⟨a0, a1⟩ := RD ha (by rw [e]; rfl)
   obtain ⟨b0, b1⟩ := RD hb (by rw [e]; rfl)
   exact (ins_3 h f i va e d0 d1 a0 a1 b0 b1).mono fun _ _ => fin h9
  ·obtain ⟨d0, d1⟩ := RD hd (by rw [e]; rfl)
   obtain ⟨a0, a1⟩ := RD ha (by rw [e]; rfl)
   exact (ins_4 h f i va e d0 d1 a0 a1).mono fun _ _ => fin h9
  ·obtain ⟨d0, d1⟩ := RD hd (by rw [e]; rfl)
   obtain ⟨a0, a1⟩ := RD ha (by rw [e]; rfl)
   have hsz : i.size = 1 ∨ i.size = 4 := by simp [e] at hm; exact hm.1
   cases hp : placeF (addrM fr.regs i) i.size
   ·exact (ins_5n h f i va e a0 a1 hsz hp).mono fun _ _ => fin h9
   ·exact (ins_5y h f i va hg.mem e a0 a1 hsz d0 d1 hp).mono fun _ _ => fin h9
  ·obtain ⟨a0, a1⟩ := RD ha (by rw [e]; rfl)
   obtain ⟨b0, b1⟩ := RD hb (by rw [e]; rfl)
   have hsz : i.size = 1 ∨ i.size = 4 := by simp [e] at hm; exact hm.1
   cases hp : placeF (addrM fr.regs i) i.size
   ·exact (ins_6n h f i va e a0 a1 hsz b0 b1 hp).mono fun _ _ => fin h9
   ·exact (ins_6y h f i va e a0 a1 hsz b0 b1 hp).mono fun _ _ => fin h9
  ·obtain ⟨d0, d1⟩ := RD hd (by rw [e]; rfl)
   have hob : 0 ≤ i.obj ∧ i.obj < (p.objs.length : Int) ∧ -32768 ≤ i.off ∧ i.off ≤ 32768 := by simp [e, offF] at hm; omega
   exact (ins_7 h f i va e d0 d1 hob.1 hob.2.1 hob.2.2.1 hob.2.2.2 hlo.1 hlo.2 hE).mono fun _ _ => fin h9
  ·obtain ⟨d0, d1⟩ := RD hd (by rw [e]; rfl)
   have hob : 0 ≤ i.obj ∧ i.obj < (k.m.globs.length : Int) ∧ -32768 ≤ i.off ∧ i.off ≤ 32768 := by simp [e, offF] at hm; omega
   exact (ins_8 h f i va e d0 d1 hob.1 hob.2.1 hob.2.2.1 hob.2.2.2 E.at' hEg).mono fun _ _ => fin h9
  ·obtain ⟨a0, a1⟩ := RD ha (by rw [e]; rfl)
   exact (ins_10 h f i va e a0 a1 (by omega)).mono fun _ _ => fin h9
  ·obtain ⟨d0, d1⟩ := RD hd (by rw [e]; rfl)
   exact (ins_11 h f i va e d0 d1 I0 (by omega) E.inl E.inw).mono fun _ _ => fin h9
  ·exact (ins_12 h f i va e).mono fun _ _ => fin h9
end
end Go.Proofs.Ytedihiodmgnlpaa
