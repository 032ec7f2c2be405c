/-
 inline: a small procedure is put in the place of a call.
-/
import Derived.Test.YtchoiankeohonaaGreatDoorZInlineAll39
import Derived.Test.YtchoiankeohonaaGreatDoorZInlineAll42
import Derived.Test.YtchoiankeohonaaGreatDoorZInlineAll07
set_option linter.all false
namespace Go.Proofs.YtchoiankeohonaaGreatDoor
open Go.ChangeShapes Go.WideShapes Go.ChangeAt Go.RowKit
set_option maxHeartbeats 16000000
set_option maxRecDepth 100000
set_option linter.unusedVariables false

theorem insN_mem {p : Pr} {b : Bk} (h : b ∈ p.blks) : b.ins.length ≤ insN p := by
 unfold insN
 generalize p.blks = l at *
 induction l with
 | nil => cases h
 | cons a l ih =>
  rw [List.map_cons, List.sum_cons]
  rcases List.mem_cons.1 h with rfl | h
  ·omega
  ·have := ih h; omega
theorem may_100 {p : Pr} {r : Int} {b : Bool} (h8 : p.regs ≤ 8000) (h : regF p r b = true) : -1 ≤ r ∧ r ≤ 100000 := by
 have := may_bd h8 h; omega
/-- what a small procedure's blocks have for numbers -/
theorem small_bd {m : Md} {q : Pr} (hq : okP m q = true) (hs : smallP q = true) {x : Bk} (hx : x ∈ q.blks) :
  x.ins.length ≤ 24 ∧ (∀ i ∈ x.ins, (-1 ≤ i.d ∧ i.d ≤ 100000) ∧ (-1 ≤ i.a ∧ i.a ≤ 100000) ∧ (-1 ≤ i.b ∧ i.b ≤ 100000)) ∧ (-1 ≤ x.a ∧ x.a ≤ 100000) ∧ (-1 ≤ x.to ∧ x.to ≤ 100000) ∧ (-1 ≤ x.els ∧ x.els ≤ 100000) := by
 obtain ⟨so, hsz, s9⟩ := small_ops hs
 have h8 := (okP_head hq).r8
 have hb := okP_all hq x hx
 have hin := insN_mem hx
 have hbl : q.blks.length ≤ 24 := by omega
 refine ⟨by omega, fun i hi => ?_, ?_⟩
 ·obtain ⟨r1, r2, r3, -⟩ := okI_regs (okB_all hb i hi) (s9 x hx i hi)
  exact ⟨may_100 h8 r1, may_100 h8 r2, may_100 h8 r3⟩
 ·have he := okB_end hb
  unfold endF blockF at he
  by_cases h1 : x.fin = 1
  ·rw [if_pos h1] at he
   simp only [Bool.and_eq_true, decide_eq_true_eq, beq_iff_eq] at he
   omega
  ·rw [if_neg h1] at he
   by_cases h2 : x.fin = 2
   ·rw [if_pos h2] at he
    simp only [Bool.and_eq_true, decide_eq_true_eq] at he
    have := may_100 h8 he.2.2
    omega
   ·rw [if_neg h2] at he
    by_cases h3 : x.fin = 3
    ·rw [if_pos h3] at he
     simp only [Bool.and_eq_true, beq_iff_eq] at he
     have := may_100 h8 he.1
     omega
    ·rw [if_neg h3] at he; cases he
theorem small_args {m : Md} {q : Pr} (hq : okP m q = true) (hs : smallP q = true) {x : Bk} (hx : x ∈ q.blks) {i : In} (hi : i ∈ x.ins) : i.args.length = 0 := by
 have h9 := (small_ops hs).2.2 x hx i hi
 have h := okB_all (okP_all hq x hx) i hi
 unfold okI at h
 simp only [Bool.and_eq_true] at h
 have hb := h.1.2.2
 unfold bareF at hb
 simp only [Bool.and_eq_true, Bool.or_eq_true, beq_iff_eq, decide_eq_true_eq] at hb
 rcases hb.2.2.2.2.2.2 with e | e
 ·exact absurd e h9
 ·exact e
theorem movB_len (x : Bk) (g c d on : Int) : (movB x g c d on).ins.length ≤ x.ins.length + 1 := by
 unfold movB
 split
 ·dsimp only
  rw [List.length_append, List.length_map]
  split <;> simp
 ·split <;> simp
theorem putX_sz {q Q : Pr} {n at' : Nat} {X : Bk} {I : In} (h1 : ∀ b ∈ Q.blks, b.ins.length ≤ 2500) (h2 : X.ins.length ≤ 2500) (h3 : ∀ b ∈ q.blks, b.ins.length ≤ 2500) (h4 : (handL q I.args Q.regs).length ≤ 2500) (hl : Q.blks.length + q.blks.length ≤ 3000) : SzP (putX q Q n at' X I) := by
 refine ⟨by rw [putX_len]; omega, fun b hb => ?_⟩
 have hblks : (putX q Q n at' X I).blks = _ ++ (_ ++ [_]) := rfl
 rw [hblks] at hb
 rcases List.mem_append.1 hb with hb | hb
 ·rcases List.mem_or_eq_of_mem_set hb with hb | rfl
  ·have := h1 b hb; omega
  ·rw [List.length_append, List.length_take]; omega
 ·rcases List.mem_append.1 hb with hb | hb
  ·obtain ⟨x, hx, rfl⟩ := List.mem_map.1 hb
   have := movB_len x Q.regs (Q.blks.length : Int) I.d ((Q.blks.length + q.blks.length : Nat) : Int)
   have := h3 x hx
   omega
  ·simp only [List.mem_singleton] at hb
   subst hb
   dsimp only
   rw [List.length_drop]; omega
theorem Src.dropZ {w : World} {b o k : Nat} {L : List (In × Value)} (h : L.length ≤ k) : Src w (.slice (some ⟨b, o, none⟩) 0 0) (L.drop k).length ((L.drop k).flatMap inCells) := by
 rw [List.drop_of_length_le h]
 exact .inr ⟨⟨b, o, none⟩, 0, rfl, Nat.le_refl _, by decide, fun j u hj => by cases hj⟩
theorem put5o {w : World} {b : Nat} {c0 c1 c2 c3 c4 : Value} (H : w.heap[b]? = some (.cells #[c0, c1, c2, c3, c4] 51)) (x : Bk) (v : Value) :
  (((((w.setCell ⟨b, 0, none⟩ v).setCell ⟨b, 1, none⟩ (.int .i64 x.fin)).setCell ⟨b, 2, none⟩ (.int .i64 x.a)).setCell ⟨b, 3, none⟩ (.int .i64 x.to)).setCell ⟨b, 4, none⟩ (.int .i64 x.els)).heap[b]? = some (bkO x v) := by
 have h1 := heap_setCell_same w b 0 _ _ v H
 have h2 := heap_setCell_same _ b 1 _ _ (.int .i64 x.fin) h1
 have h3 := heap_setCell_same _ b 2 _ _ (.int .i64 x.a) h2
 have h4 := heap_setCell_same _ b 3 _ _ (.int .i64 x.to) h3
 exact heap_setCell_same _ b 4 _ _ (.int .i64 x.els) h4
theorem InA.set5 {w0 w : World} {B b : Nat} {v : Value} {L : List (In × Value)} (h : InA w0 B w v L) (hb : b < B) (c0 c1 c2 c3 c4 : Value) : InA w0 B (((((w.setCell ⟨b, 0, none⟩ c0).setCell ⟨b, 1, none⟩ c1).setCell ⟨b, 2, none⟩ c2).setCell ⟨b, 3, none⟩ c3).setCell ⟨b, 4, none⟩ c4) v L :=
 ⟨il_set (il_set (il_set (il_set (il_set h.own hb 0 c0) hb 1 c1) hb 2 c2) hb 3 c3) hb 4 c4, h.args⟩
theorem below5 {B : Nat} {a w : World} {b : Nat} (h : Below B a w) (hb : B ≤ b) (c0 c1 c2 c3 c4 : Value) : Below B a (((((w.setCell ⟨b, 0, none⟩ c0).setCell ⟨b, 1, none⟩ c1).setCell ⟨b, 2, none⟩ c2).setCell ⟨b, 3, none⟩ c3).setCell ⟨b, 4, none⟩ c4) :=
 ((((h.setCell (p := ⟨b, 0, none⟩) hb c0).setCell (p := ⟨b, 1, none⟩) hb c1).setCell (p := ⟨b, 2, none⟩) hb c2).setCell (p := ⟨b, 3, none⟩) hb c3).setCell (p := ⟨b, 4, none⟩) hb c4
theorem below5k {B : Nat} {a w : World} {b : Nat} (k : Nat) (h : Below B a w) (hb : B ≤ b) (c0 c1 c2 c3 c4 : Value) : Below B a (((((w.setCell ⟨b, k, none⟩ c0).setCell ⟨b, k + 1, none⟩ c1).setCell ⟨b, k + 2, none⟩ c2).setCell ⟨b, k + 3, none⟩ c3).setCell ⟨b, k + 4, none⟩ c4) :=
 ((((h.setCell (p := ⟨b, k, none⟩) hb c0).setCell (p := ⟨b, k + 1, none⟩) hb c1).setCell (p := ⟨b, k + 2, none⟩) hb c2).setCell (p := ⟨b, k + 3, none⟩) hb c3).setCell (p := ⟨b, k + 4, none⟩) hb c4
def inO (i : In) (va : Value) : Obj := .cells #[.int .i64 i.op, .int .i64 i.d, .int .i64 i.a, .int .i64 i.b, .int .i64 i.fn, .int .i64 i.obj, .int .i64 i.off, .int .i64 i.size, .int .u32 i.num, va, .bool i.log] 48
def PutQ (m : Md) (w0 : World) (bb : Nat) (Q : Pr) (n at' : Nat) (vg vd vp vo : Value) (nm : ByteArray) (w : World) (e : Ending) (w' : World) : Prop :=
 ∃ vb', e = .returned (.tuple #[]) ∧ But bb w w' ∧ (if 2000 < sizeQ (putP m Q n at') ∨ 8000 < (putP m Q n at').regs then BdW w0 m bb w' Q true vg vd vp vo nm vb' else BdW w0 m bb w' (putP m Q n at') false vg vd vp vo nm vb')
theorem PutQ.no {m : Md} {w0 : World} {bb : Nat} {Q P' : Pr} {n at' : Nat} {vg vd vp vo vb' : Value} {nm : ByteArray} {w w' : World} (hP : putP m Q n at' = P') (h1 : ¬ 2000 < P'.blks.length + insN P') (h2 : ¬ 8000 < P'.regs) (hb : But bb w w') (hB : BdW w0 m bb w' P' false vg vd vp vo nm vb') : PutQ m w0 bb Q n at' vg vd vp vo nm w (.returned (.tuple #[])) w' := by
 subst hP
 exact ⟨vb', rfl, hb, by rw [if_neg (fun z => z.elim h1 h2)]; exact hB⟩
theorem PutQ.yes {m : Md} {w0 : World} {bb : Nat} {Q P' : Pr} {n at' : Nat} {vg vd vp vo vb' : Value} {nm : ByteArray} {w w' : World} (hP : putP m Q n at' = P') (h : 2000 < P'.blks.length + insN P' ∨ 8000 < P'.regs) (hb : But bb w w') (hB : BdW w0 m bb w' Q true vg vd vp vo nm vb') : PutQ m w0 bb Q n at' vg vd vp vo nm w (.returned (.tuple #[])) w' := by
 subst hP
 exact ⟨vb', rfl, hb, by rw [if_pos (show 2000 < sizeQ _ ∨ _ from h)]; exact hB⟩
theorem BdW.turn {w0 w w' : World} {m : Md} {bb : Nat} {Q : Pr} {full : Bool} {vg vd vp vo vb : Value} {nm : ByteArray} (h : BdW w0 m bb w Q full vg vd vp vo nm vb) (hb : But bb w w') {f : Bool} (hx : w'.heap[bb]? = some (.cells #[vg, vd, vp, .int .i64 m.main, .string nm, .bool Q.void, .int .i64 Q.params, .int .i64 Q.regs, vo, vb, .bool f] 62)) : BdW w0 m bb w' Q f vg vd vp vo nm vb :=
 ⟨hx, h.md, h.ob, h.bk.but hb h.bx (by decide) (by decide), h.le, h.be.trans (hb.toBelow h.le h.be.size)⟩
theorem put_c (m : Md) (w0 : World) (bb n at' : Nat) (Q : Pr) (vg vd vp vo : Value) (nm : ByteArray) (vb : Value) (w : World) (h : BdW w0 m bb w Q false vg vd vp vo nm vb) (hf : PutOk m Q n at') (hsz : sizeQ Q ≤ 2500) (hQ : okP m Q = true) :
  Calls Tryz.prog 22 #[.pointer (some ⟨bb, 0, none⟩), .int .i64 (n : Int), .int .i64 (at' : Int)] w (PutQ m w0 bb Q n at' vg vd vp vo nm w) := by
 obtain ⟨hn, hk, hc, hno, hq, hqo, hpar, hd, hargs⟩ := hf
 have hsm := (smallC_9 hc).2
 have h9 := (smallC_9 hc).1
 have ho0 : 0 ≤ ((bq Q n).ins.getD at' default).obj ∧ ((bq Q n).ins.getD at' default).obj < (m.procs.length : Int) := by
  have hI := okB_ins (okP_blk hQ hn) hk
  have := okI_call hI h9
  exact ⟨this.1, this.2.1⟩
 have hHQ := okP_head hQ
 have hHq := okP_head hq
 have hXl : (bq Q n).ins.length ≤ 2500 := by
  have := insN_mem (show bq Q n ∈ Q.blks from getD_in hn)
  unfold sizeQ at hsz
  omega
 have hBl : Q.blks.length ≤ 2500 := by unfold sizeQ at hsz; omega
 have HZQ : Hid (∀ b ∈ Q.blks, b.ins.length ≤ 2500) := fun b hb => by
  have := insN_mem hb
  unfold sizeQ at hsz
  omega
 obtain ⟨LB, hLB, hKB, hSB⟩ := h.bk.src h.ext
 have lB : LB.length = Q.blks.length := by rw [← hLB, List.length_map]
 have hXe : (LB.getD n default).1 = bq Q n := by
  unfold bq
  rw [← hLB]
  have hn' : n < LB.length := by omega
  simp [List.getD, hn']
 obtain ⟨bB, oB, cB, evb, hc1, hc2, hcell⟩ := hSB.atB (k := n) (by omega)
 have hKn := hKB (LB.getD n default) (getD_in (by omega))
 generalize hyB : LB.getD n default = yB at *
 obtain ⟨X, vi⟩ := yB
 have hXe : X = bq Q n := hXe
 subst hXe
 obtain ⟨LI, hLI, hAI, hSI⟩ := hKn.src h.ext
 have lI : LI.length = (bq Q n).ins.length := by rw [← hLI, List.length_map]
 have hIe : (LI.getD at' default).1 = (bq Q n).ins.getD at' default := by
  dsimp only at hLI
  rw [← hLI]
  have hk' : at' < LI.length := by omega
  simp [List.getD, hk']
 obtain ⟨bI, oI, cI, evi, hi1, hi2, hicell⟩ := hSI.atI (k := at') (by omega)
 have hAn := hAI (LI.getD at' default) (getD_in (by omega))
 generalize hyI : LI.getD at' default = yI at *
 obtain ⟨I, va⟩ := yI
 have hIe : I = (bq Q n).ins.getD at' default := hIe
 subst hIe
 dsimp only at evi hSI hAn
 subst evi evb
 have HPUT : Hid (putP m Q n at' = putX (pk m ((bq Q n).ins.getD at' default).obj.toNat) Q n at' (bq Q n) ((bq Q n).ins.getD at' default)) := rfl
 have hXn : bq Q n ∈ Q.blks := getD_in hn
 have HLB := Lib.hid hLB
 have HKB := Lib.hid hKB
 have HLI : Hid (LI.map Prod.fst = (bq Q n).ins) := hLI
 have HAI := Lib.hid hAI
 have HAN := Lib.hid hAn
 have HYB := Lib.hid hyB
 have LIX := Lib.hid lI
 have H9 := Lib.hid h9
 clear h9 hLB hKB hLI hAI hKn hyI hAn hyB hXn hsz
 have h9 := trivial
 clear h9
 generalize bq Q n = X at *
 generalize X.ins.getD at' default = I at *
 rw [← lI] at hXl hk
 have hAn2 := HAN.out
 obtain ⟨av, cva, rfl, -⟩ := hAn2
 have hpk : pk m I.obj.toNat = m.procs.getD I.obj.toNat default := rfl
 obtain ⟨vg', vd', vp', e, -, -, hvp⟩ := h.md
 simp only [Value.agg.injEq, List.toArray_eq_toArray_eq, Array.mk.injEq, List.cons.injEq, and_true, true_and] at e
 obtain ⟨rfl, rfl, rfl, -⟩ := e
 have hvp' := hvp
 obtain ⟨ap, cp, rfl, hp1, hp2, -⟩ := hvp'
 obtain ⟨bp, op, qnm, qvo, qvb, hap, hqo', hqb', t0, t1, t2, t3, t4, t5⟩ := (RdPrs.at6 hvp).2 I.obj.toNat hno
 subst hap
 rw [← hpk] at t1 t2 t3 hqo' hqb'
 clear hpk hvp
 generalize hgq : pk m I.obj.toNat = q at *
 clear hgq
 have HQO := Lib.hid hqo'
 have HQB := Lib.hid hqb'
 obtain ⟨qao, qco, rfl, -⟩ := hqo'
 obtain ⟨qab, qcb, rfl, qb1, qb2, -⟩ := hqb'
 unfold maxLen at hp2 qb2
 have HBD := Lib.hid h
 have H00 := Lib.hid h
 have HE0 := Lib.hid h.ext
 have hle := h.le
 have hbe := h.be.size
 obtain ⟨-, -, -, -, -, -, -, -, -, y9, -, lbb⟩ := cl11 h.bx
 have c0 := hcell 0 _ rfl (by decide)
 have c1 := hcell 1 _ rfl (by decide)
 have c2 := hcell 2 _ rfl (by decide)
 have c3 := hcell 3 _ rfl (by decide)
 have c4 := hcell 4 _ rfl (by decide)
 have d0 := hicell 0 _ rfl (by decide)
 have d1 := hicell 1 _ rfl (by decide)
 have d2 := hicell 2 _ rfl (by decide)
 have d3 := hicell 3 _ rfl (by decide)
 have d4 := hicell 4 _ rfl (by decide)
 have d5 := hicell 5 _ rfl (by decide)
 have d6 := hicell 6 _ rfl (by decide)
 have d7 := hicell 7 _ rfl (by decide)
 have d8 := hicell 8 _ rfl (by decide)
 have d9 := hicell 9 _ rfl (by decide)
 have d10 := hicell 10 _ rfl (by decide)
 simp only [Nat.add_zero] at c0 d0
 dsimp only at c0 c1 c2 c3 c4 d0 d1 d2 d3 d4 d5 d6 d7 d8 d9 d10
 have lbB : bB < w.heap.size := World.block_lt_of_cell? w _ c0
 have lbI : bI < w.heap.size := World.block_lt_of_cell? w _ d0
 rw [lB] at hc1
 have HSB : Hid (Src w (.slice (some ⟨bB, oB, none⟩) Q.blks.length cB) LB.length (LB.flatMap bkCells)) := by rw [← lB]; exact hSB
 have HSI := Lib.hid hSI
 rw [lB] at y9
 clear hSB hSI hcell hicell lI h
 obtain ⟨W2, hW2⟩ : ∃ W2, W2 = (w.alloc (.cells #[.slice (some ⟨bI, oI, none⟩) LI.length cI, .int .i64 X.fin, .int .i64 X.a, .int .i64 X.to, .int .i64 X.els] 51)).alloc (.cells #[.int .i64 I.op, .int .i64 I.d, .int .i64 I.a, .int .i64 I.b, .int .i64 I.fn, .int .i64 I.obj, .int .i64 I.off, .int .i64 I.size, .int .u32 I.num, .slice av I.args.length cva, .bool I.log] 48) := ⟨_, rfl⟩
 have hW2' : W2 = allocs w [.cells #[.slice (some ⟨bI, oI, none⟩) LI.length cI, .int .i64 X.fin, .int .i64 X.a, .int .i64 X.to, .int .i64 X.els] 51, .cells #[.int .i64 I.op, .int .i64 I.d, .int .i64 I.a, .int .i64 I.b, .int .i64 I.fn, .int .i64 I.obj, .int .i64 I.off, .int .i64 I.size, .int .u32 I.num, .slice av I.args.length cva, .bool I.log] 48] := hW2
 have B2 : Hid (Below w.heap.size w W2) := by rw [hW2']; exact allocs_below _ _
 have HX : Hid (W2.heap[w.heap.size]? = some (bkO X (.slice (some ⟨bI, oI, none⟩) LI.length cI))) := by rw [hW2']; exact allocs_heap _ w 0 (by simp)
 have HI : Hid (W2.heap[w.heap.size + 1]? = some (inO I (.slice av I.args.length cva))) := by rw [hW2']; exact allocs_heap _ w 1 (by simp)
 have hz2 : W2.heap.size = w.heap.size + 2 := by rw [hW2']; exact allocs_size _ _
 have HW2 := Lib.hid hW2
 clear hW2 hW2'
 have g1 : decide ((n : Int) < (Q.blks.length : Int)) = true := decide_eq_true (by omega)
 have g2 : decide (n < Q.blks.length) = true := decide_eq_true hn
 have g3 : decide ((at' : Int) < (LI.length : Int)) = true := decide_eq_true (by omega)
 have g4 : decide (at' < LI.length) = true := decide_eq_true hk
 go_enter Tryz.func22, Tryz.ntmps22
 go_wp2_with fail
 clear c0 c1 c2 c3 c4 d0 d1 d2 d3 d4 d5 d6 d7 d8 d9 d10 y9
 rw [← HW2.out]
 clear HW2
 have HBD := Lib.hid (HBD.out.below B2.out)
 have HE0 := Lib.hid HBD.out.ext
 have HSB := Lib.hid (HSB.out.keep (Ext.below B2.out))
 have HSI := Lib.hid (HSI.out.keep (Ext.below B2.out))
 have HKB : Hid (∀ x ∈ LB, KrS w0 W2 x) := fun x hx => (HKB.out x hx).below B2.out
 have gk : ((I.obj.toNat : Nat) : Int) = I.obj := Int.toNat_of_nonneg ho0.1
 obtain ⟨-, -, y2, -, -, -, -, -, -, -, -, lb2⟩ := cl11 HBD.out.bx
 obtain ⟨-, -, -, -, -, z5, -, -, -, -, -, l2⟩ := cl11 HI.out
 replace t0 := HE0.out _ _ t0
 replace t1 := HE0.out _ _ t1
 replace t2 := HE0.out _ _ t2
 replace t3 := HE0.out _ _ t3
 replace t4 := HE0.out _ _ t4
 replace t5 := HE0.out _ _ t5
 have lbp : bp < W2.heap.size := World.block_lt_of_cell? W2 _ t0
 generalize I.obj.toNat = kq at *
 rw [← gk] at z5
 clear gk ho0
 have g5 : decide ((kq : Int) < (m.procs.length : Int)) = true := decide_eq_true (by omega)
 have g6 : decide (kq < m.procs.length) = true := decide_eq_true hno
 refine wp_region_late [0, 1, 2, 3, 4, 5, 6, 7, 8] (fun z => z = bb ∨ z = w.heap.size + 1 ∨ z = bp) (by kernel_rfl) ?_
 show wpH _ _ _ _ _ _ _ _ W2.drew
 refine H_mobs [0, 1, 2, 3, 4, 5, 6, 7, 8] _ _ _ _ (by kernel_rfl) ?_
 simp only [List.map_cons, List.map_nil, List.getElem?_toArray, List.getElem?_cons_succ, List.getElem?_cons_zero, Option.getD_some, List.size_toArray, List.length_cons, List.length_nil, Nat.reduceAdd, Nat.reduceSub]
 repeat (go_big_quiet_step (fail))
 refine wpQuiet_nil ?_
 clear t0 t1 t2 t3 t4 t5 y2 z5 g5 g6
 refine H_loud1 9 _ rfl (by kernel_rfl) ?_
 simp only [List.getElem_toArray, List.getElem_cons_succ, List.getElem_cons_zero]
 go_wp2_with fail
 refine ⟨keep_below (w := W2.drew) (below_alloc _ _) (fun z hz => by show z < W2.heap.size; omega), ?_⟩
 refine H_late 10 _ rfl (by kernel_rfl) ?_
 simp only [List.getElem_toArray, List.getElem_cons_succ, List.getElem_cons_zero]
 go_wp2_with fail
 refine H_done (by kernel_rfl) ?_ _
 obtain ⟨W3, hW3⟩ : ∃ W3, W3 = (W2.alloc (.cells #[.string qnm, .bool q.void, .int .i64 q.params, .int .i64 q.regs, .slice qao q.objs.length qco, .slice qab q.blks.length qcb] 35)).drew := ⟨_, rfl⟩
 have B3 : Hid (Below W2.heap.size W2 W3) := by rw [hW3]; exact (below_alloc W2 _).drew
 have HQ : Hid (W3.heap[w.heap.size + 2]? = some (prO qnm q (.slice qao q.objs.length qco) (.slice qab q.blks.length qcb))) := by rw [hW3, ← hz2]; exact heap_alloc_new W2 _
 rw [← hW3]
 clear hW3
 have BB := Lib.hid (B2.out.trans (B3.out.mono B2.out.size))
 have HX := Lib.hid ((B3.out.block _ (by omega)).trans HX.out)
 have HI := Lib.hid ((B3.out.block _ (by omega)).trans HI.out)
 have HBD := Lib.hid (HBD.out.below B3.out)
 have HE0 := Lib.hid HBD.out.ext
 have HSB := Lib.hid (HSB.out.keep (Ext.below B3.out))
 have HSI := Lib.hid (HSI.out.keep (Ext.below B3.out))
 have HKB : Hid (∀ x ∈ LB, KrS w0 W3 x) := fun x hx => (HKB.out x hx).below B3.out
 clear B2 B3 hz2 lbb lb2 l2 lbp lbB lbI
 obtain ⟨-, sqsz, -⟩ := small_ops hsm
 have hql : q.blks.length ≤ 24 := by omega
 obtain ⟨-, -, -, -, -, -, -, y7, -, y9, -, lb3⟩ := cl11 HBD.out.bx
 obtain ⟨x0, x1, x2, x3, x4, x5, l3⟩ := cl6 HQ.out
 go_wp2_with fail
 go_quiet (fail)
 go_wp2_with fail
 clear y7 y9 x0 x1 x2 x3 x4 x5
 obtain ⟨W4, hW4⟩ : ∃ W4, W4 = W3.drewN nq := ⟨_, rfl⟩
 have B4 : Hid (Below W3.heap.size W3 W4) := by rw [hW4]; exact il_drew (Below.refl _ _) _
 rw [← hW4]
 clear hW4
 have BB := Lib.hid (BB.out.trans (B4.out.mono BB.out.size))
 have HX := Lib.hid ((B4.out.block _ (Array.getElem?_eq_some_iff.1 HX.out).1).trans HX.out)
 have HI := Lib.hid ((B4.out.block _ (Array.getElem?_eq_some_iff.1 HI.out).1).trans HI.out)
 have HQ := Lib.hid ((B4.out.block _ (Array.getElem?_eq_some_iff.1 HQ.out).1).trans HQ.out)
 have HBD := Lib.hid (HBD.out.below B4.out)
 have HE0 := Lib.hid HBD.out.ext
 have HSB := Lib.hid (HSB.out.keep (Ext.below B4.out))
 have HSI := Lib.hid (HSI.out.keep (Ext.below B4.out))
 have HKB : Hid (∀ x ∈ LB, KrS w0 W4 x) := fun x hx => (HKB.out x hx).below B4.out
 clear B4 lb3 l3
 have l2 := (Array.getElem?_eq_some_iff.1 HQ.out).1
 have hal : I.args.length ≤ 1000 := by have := hHq.p6; omega
 have hqi : ∀ n, n < q.blks.length → (q.blks.getD n default).ins.length ≤ 1000 ∧ ∀ k, k < (q.blks.getD n default).ins.length → ((q.blks.getD n default).ins.getD k default).args.length ≤ 1000 := fun n hn => by
  have hx : q.blks.getD n default ∈ q.blks := getD_in hn
  have := insN_mem hx
  exact ⟨by omega, fun k hk => by rw [small_args hq hsm hx (getD_in hk)]; exact Nat.zero_le _⟩
 have hQ0 : 0 ≤ Q.regs := by have := hHQ.p0; have := hHQ.pr; omega
 have HHD : Hid (∀ w', Ext W4 w' → Calls Tryz.prog 39 #[.agg #[.string qnm, .bool q.void, .int .i64 q.params, .int .i64 q.regs, .slice qao q.objs.length qco, .slice qab q.blks.length qcb], .slice av I.args.length cva, .int .i64 Q.regs] w' (HandQ w0 q I.args Q.regs w')) := fun w' he =>
  handed_c w0 q _ _ I.args Q.regs w' ⟨qnm, _, _, rfl, (HQO.out.ext HE0.out).ext he, (HQB.out.ext HE0.out).ext he⟩ ((HAN.out.ext HE0.out).ext he) hal ⟨hQ0, by have := hHQ.r8; omega⟩ hHq.b1 (by omega) hqi (by have := hHq.r8; omega) hqo.regs ⟨hHq.p0, by have := hHq.p6; omega⟩
 clear hqi
 obtain ⟨c0, c1, c2, c3, c4, lx⟩ := cl5 HX.out
 obtain ⟨d0, d1, d2, d3, d4, d5, d6, d7, d8, d9, d10, li⟩ := cl11 HI.out
 obtain ⟨e0, e1, e2, e3, e4, e5, lq⟩ := cl6 HQ.out
 refine wp_region_late [0, 1, 2, 3, 4, 5, 6, 7, 11] (fun z => z = w.heap.size ∨ z = w.heap.size + 1 ∨ z = w.heap.size + 2) (by kernel_rfl) ?_
 show wpH _ _ _ _ _ _ _ _ W4.drew
 refine H_mobs [0, 1, 2, 3, 4, 5, 6, 7] _ _ _ _ (by kernel_rfl) ?_
 simp only [List.map_cons, List.map_nil, List.getElem?_toArray, List.getElem?_cons_succ, List.getElem?_cons_zero, Option.getD_some, List.size_toArray, List.length_cons, List.length_nil, Nat.reduceAdd, Nat.reduceSub]
 repeat (go_big_quiet_step (fail))
 refine wpQuiet_nil ?_
 clear c0 c1 c2 c3 c4 d0 d1 d2 d3 d4 d5 d6 d7 d8 d9 d10 e0 e1 e2 e3 e4 e5
 refine H_loud1 8 _ rfl (by kernel_rfl) ?_
 simp only [List.getElem_toArray, List.getElem_cons_succ, List.getElem_cons_zero]
 go_wp2_with fail
 refine (HHD.out W4.drew (Ext.below (Below.refl _ _).drew)).mono ?_
 rintro e w8 ⟨v8, L8, rfl, hL8, hA8, hb8⟩
 obtain ⟨a8, c8, e8⟩ := hA8.form
 subst e8
 have HA8 := Lib.hid hA8
 have HL8 := Lib.hid hL8
 have B8 : Hid (Below W4.heap.size W4 w8) := (Below.refl _ _).drew.trans hb8
 clear hA8 hL8 HHD
 go_wp2_with fail
 refine ⟨keep_below (w := W4.drew) hb8 (fun z hz => by show z < W4.heap.size; omega), ?_⟩
 clear hb8
 have hl8 : L8.length ≤ 20000 := by
  have := hand_53 hsm hHq.b1 (by have := hHq.p6; omega : I.args.length ≤ 6) Q.regs
  rw [← HL8.out, List.length_map] at this
  omega
 refine H_loud1 9 _ rfl (by kernel_rfl) ?_
 simp only [List.getElem_toArray, List.getElem_cons_succ, List.getElem_cons_zero]
 go_wp2_with fail
 have lw8 := B8.out.size
 refine ⟨keep_below (below_alloc _ _) (fun z hz => by omega), ?_⟩
 have H9 := heap_alloc_new w8 (.cells #[.slice (some ⟨bI, oI, none⟩) at' cI, .slice a8 L8.length c8] 49)
 have B9 := below_alloc w8 (.cells #[.slice (some ⟨bI, oI, none⟩) at' cI, .slice a8 L8.length c8] 49)
 refine H_loud1 10 _ rfl (by kernel_rfl) ?_
 simp only [List.getElem_toArray, List.getElem_cons_succ, List.getElem_cons_zero]
 go_wp2_with fail
 have hLt : ∀ y ∈ LI.take at', RdI w0 y.2 y.1.args := fun y hy => HAI.out y (List.mem_of_mem_take hy)
 refine (concatS (w0 := w0) _ _ (LI.take at') L8 w8.heap.size _ H9 ((HSI.out.keep (Ext.below (B8.out.trans (B9.mono lw8)))).takeI (by omega)) (src_own (HA8.out.below B9).own) hLt HA8.out.args (by rw [List.length_take]; omega)).mono ?_
 rintro e w10 ⟨v10, rfl, hA10, hb10⟩
 have hb10' : Below w8.heap.size w8 w10 := B9.trans (hb10.mono B9.size)
 go_wp2_with fail
 refine ⟨keep_below hb10 (fun z hz => by simp; omega), ?_⟩
 have B10 : Hid (Below W4.heap.size W4 w10) := B8.out.trans (hb10'.mono lw8)
 have HLH : Hid ((LI.take at' ++ L8).map Prod.fst = X.ins.take at' ++ handL q I.args Q.regs) := by show _ = _; rw [List.map_append, HL8.out, List.map_take, HLI.out]
 have hlh : (LI.take at' ++ L8).length ≤ 30000 := by rw [List.length_append, List.length_take]; omega
 have hb8l : W4.heap.size ≤ (w8.alloc (.cells #[.slice (some ⟨bI, oI, none⟩) at' cI, .slice a8 L8.length c8] 49)).heap.size := by simp; omega
 have HA10 := Lib.hid (hA10.base hb8l)
 clear hA10 hb10 hb10' hb8l hLt H9 B9 HA8 HL8 B8 lw8 hl8
 obtain ⟨a10, c10, e10⟩ := HA10.out.form
 subst e10
 generalize LI.take at' ++ L8 = LH at *
 refine H_mobs [11] _ _ _ _ (by kernel_rfl) ?_
 simp only [List.map_cons, List.map_nil, List.getElem?_toArray, List.getElem?_cons_succ, List.getElem?_cons_zero, Option.getD_some, List.size_toArray, List.length_cons, List.length_nil, Nat.reduceAdd, Nat.reduceSub]
 repeat (go_big_quiet_step (fail))
 refine wpQuiet_nil ?_
 refine H_done (by kernel_rfl) ?_ _
 have BB := Lib.hid (BB.out.trans (B10.out.mono BB.out.size))
 have HX := Lib.hid ((B10.out.block _ lx).trans HX.out)
 have HI := Lib.hid ((B10.out.block _ li).trans HI.out)
 have HQ := Lib.hid ((B10.out.block _ lq).trans HQ.out)
 have HBD := Lib.hid (HBD.out.below B10.out)
 have HE0 := Lib.hid HBD.out.ext
 have HSB := Lib.hid (HSB.out.keep (Ext.below B10.out))
 have HSI := Lib.hid (HSI.out.keep (Ext.below B10.out))
 have HKB : Hid (∀ x ∈ LB, KrS w0 w10 x) := fun x hx => (HKB.out x hx).below B10.out
 have hz4 := BB.out.size
 have HA10 := Lib.hid (HA10.out.base (show w.heap.size ≤ W4.heap.size by omega))
 clear B10 lx li lq hz4
 have hX5 := HX.out
 obtain ⟨c0, c1, c2, c3, c4, lx⟩ := cl5 hX5
 have hk1 : at' + 1 ≤ LI.length := hk
 obtain ⟨LR, hLR⟩ : ∃ LR, LR = LI.drop (at' + 1) := ⟨_, rfl⟩
 have HLR := Lib.hid hLR
 clear hLR
 go_upto_region 6 with (fail)
 go_cut [13] from 67 to 82 (fun v wx => ∃ b v13, v = .pointer (some ⟨b, 0, none⟩) ∧ Hid (wx.heap[b]? = some (bkO ⟨X.ins.drop (at' + 1), X.fin, X.a, X.to, X.els⟩ v13)) ∧ Hid (InA w0 w.heap.size wx v13 LR) ∧ Hid (Below w10.heap.size w10 wx) ∧ w10.heap.size ≤ b)
 case first =>
  have hwz : w.heap.size ≤ w10.heap.size := BB.out.size
  have HDA : Hid (∀ y ∈ LR, RdI w0 y.2 y.1.args) := fun y hy => HAI.out y (List.mem_of_mem_drop (by rw [← HLR.out]; exact hy))
  have hdl : LR.length ≤ 1000000 := by rw [HLR.out, List.length_drop]; omega
  by_cases hcp : cI = at' + 1
  ·subst hcp
   have HSD : Hid (∀ W, Below w10.heap.size w10 W → Src W (.slice (some ⟨bI, oI, none⟩) 0 0) LR.length (LR.flatMap inCells)) := fun W hW => by rw [HLR.out]; exact Src.dropZ hi1
   refine wp_region_late [0, 1, 2, 3, 4, 6, 7, 8, 9, 10, 11, 12, 13, 14] (fun z => z = w.heap.size) (by kernel_rfl) ?_
   show wpH _ _ _ _ _ _ _ _ w10.drew
   refine H_mobs [0, 1, 2, 3, 4, 6, 7, 8, 9, 10, 11, 12, 13] _ _ _ _ (by kernel_rfl) ?_
   simp only [List.map_cons, List.map_nil, List.getElem?_toArray, List.getElem?_cons_succ, List.getElem?_cons_zero, Option.getD_some, List.size_toArray, List.length_cons, List.length_nil, Nat.reduceAdd, Nat.reduceSub]
   repeat (go_big_quiet_step (fail))
   refine wpQuiet_nil ?_
   clear c0 c1 c2 c3 c4
   refine H_loud2 5 15 _ _ rfl rfl (by kernel_rfl) ?_ ?_
   all_goals simp only [List.getElem_toArray, List.getElem_cons_succ, List.getElem_cons_zero]
   ·go_wp2_with fail
    refine (cloneS (w0 := w0) _ LR w10.drew (HSD.out w10.drew (Below.refl _ _).drew) HDA.out hdl).mono ?_
    rintro e w11 ⟨v11, rfl, hA11, hb11⟩
    obtain ⟨a11, c11, e11⟩ := hA11.form
    subst e11
    have hz11 : w10.heap.size ≤ w11.heap.size := hb11.size
    go_wp2_with fail
    refine ⟨keep_below hb11 (fun z hz => by show z < w10.heap.size; omega), ?_⟩
    refine H_mobs [14] _ _ _ _ (by kernel_rfl) ?_
    simp only [List.map_cons, List.map_nil, List.getElem?_toArray, List.getElem?_cons_succ, List.getElem?_cons_zero, Option.getD_some, List.size_toArray, List.length_cons, List.length_nil, Nat.reduceAdd, Nat.reduceSub]
    repeat (go_big_quiet_step (fail))
    refine wpQuiet_nil ?_
    refine H_loud1 15 _ rfl (by kernel_rfl) ?_
    simp only [List.getElem_toArray, List.getElem_cons_succ, List.getElem_cons_zero]
    go_wp2_with fail
    refine ⟨keep_below (below_alloc _ _) (fun z hz => by omega), ?_⟩
    refine H_late 16 _ rfl (by kernel_rfl) ?_
    simp only [List.getElem_toArray, List.getElem_cons_succ, List.getElem_cons_zero]
    go_wp2_with fail
    refine H_done (by kernel_rfl) ?_ _
    go_wp2_with fail
    go_meet
    case rel => exact ⟨w11.heap.size, _, rfl, heap_alloc_new w11 _, ((hA11.below (below_alloc _ _)).base hwz), (Below.refl _ _).drew.trans (hb11.trans ((below_alloc _ _).mono hz11)), hz11⟩
   ·go_wp2_with fail
    have hzz := heap_alloc_new w10.drew (.cells #[.slice none 0 0, .int .i64 0, .int .i64 0, .int .i64 0, .int .i64 0] 51)
    have bzz := below_alloc w10.drew (.cells #[.slice none 0 0, .int .i64 0, .int .i64 0, .int .i64 0, .int .i64 0] 51)
    have szz : (w10.drew.alloc (.cells #[.slice none 0 0, .int .i64 0, .int .i64 0, .int .i64 0, .int .i64 0] 51)).heap.size = w10.heap.size + 1 := by simp
    have hlt1 : w10.heap.size < (w10.drew.alloc (.cells #[.slice none 0 0, .int .i64 0, .int .i64 0, .int .i64 0, .int .i64 0] 51)).heap.size := by rw [szz]; omega
    have hle1 : w10.heap.size + 1 ≤ (w10.drew.alloc (.cells #[.slice none 0 0, .int .i64 0, .int .i64 0, .int .i64 0, .int .i64 0] 51)).heap.size := by rw [szz]; exact Nat.le_refl _
    refine ⟨keep_below (w := w10.drew) bzz (fun z hz => by show z < w10.heap.size; omega), ?_⟩
    have bz2 : Below w10.heap.size w10 (w10.drew.alloc (.cells #[.slice none 0 0, .int .i64 0, .int .i64 0, .int .i64 0, .int .i64 0] 51)) := (Below.refl _ _).drew.trans bzz
    refine H_loud1 5 _ rfl (by kernel_rfl) ?_
    simp only [List.getElem_toArray, List.getElem_cons_succ, List.getElem_cons_zero]
    go_wp2_with fail
    refine (cloneS (w0 := w0) _ LR _ (HSD.out _ bz2) HDA.out hdl).mono ?_
    rintro e w11 ⟨v11, rfl, hA11, hb11⟩
    obtain ⟨a11, c11, e11⟩ := hA11.form
    subst e11
    have hA11' : InA w0 (w10.heap.size + 1) w11 (.slice a11 LR.length c11) LR := hA11.base hle1
    have hz11 := (hb11.block w10.heap.size hlt1).trans hzz
    have bz3 : Below w10.heap.size w10 w11 := bz2.trans (hb11.mono bz2.size)
    go_wp2_with fail
    refine ⟨keep_below hb11 (fun z hz => Nat.lt_of_le_of_lt (by omega) hlt1), ?_⟩
    clear hzz bzz bz2 hb11 hA11 HSD
    obtain ⟨p0, p1, p2, p3, p4, lp⟩ := cl5 hz11
    have fp := fun o => frozen_of_heap hz11 o
    have fp0 := fp 0
    have fp1 := fp 1
    have fp2 := fp 2
    have fp3 := fp 3
    have fp4 := fp 4
    clear fp
    refine H_mobs [14] _ _ _ _ (by kernel_rfl) ?_
    simp only [List.map_cons, List.map_nil, List.getElem?_toArray, List.getElem?_cons_succ, List.getElem?_cons_zero, Option.getD_some, List.size_toArray, List.length_cons, List.length_nil, Nat.reduceAdd, Nat.reduceSub]
    repeat (go_big_quiet_step (fail))
    refine wpQuiet_nil ?_
    refine H_late 16 _ rfl (by kernel_rfl) ?_
    simp only [List.getElem_toArray, List.getElem_cons_succ, List.getElem_cons_zero]
    go_wp2_with fail
    refine H_done (by kernel_rfl) ?_ _
    go_wp2_with fail
    go_meet
    case rel => exact ⟨w10.heap.size, _, rfl, put5o hz11 ⟨X.ins.drop (at' + 1), X.fin, X.a, X.to, X.els⟩ _, (hA11'.set5 (Nat.lt_succ_self _) _ _ _ _ _).base (by omega), below5 bz3 (Nat.le_refl _) _ _ _ _ _, Nat.le_refl _⟩
  ·have HSD : Hid (∀ W, Below w10.heap.size w10 W → Src W (.slice (some ⟨bI, oI + (at' + 1) * 11, none⟩) (LI.length - (at' + 1)) (cI - (at' + 1))) LR.length (LR.flatMap inCells)) := fun W hW => by rw [HLR.out]; exact (HSI.out.keep (Ext.below hW)).dropI hk1
   refine wp_region_late [0, 1, 2, 3, 4, 6, 7, 8, 9, 10, 11, 12, 13, 14] (fun z => z = w.heap.size) (by kernel_rfl) ?_
   show wpH _ _ _ _ _ _ _ _ w10.drew
   refine H_mobs [0, 1, 2, 3, 4, 6, 7, 8, 9, 10, 11, 12, 13] _ _ _ _ (by kernel_rfl) ?_
   simp only [List.map_cons, List.map_nil, List.getElem?_toArray, List.getElem?_cons_succ, List.getElem?_cons_zero, Option.getD_some, List.size_toArray, List.length_cons, List.length_nil, Nat.reduceAdd, Nat.reduceSub]
   repeat (go_big_quiet_step (fail))
   refine wpQuiet_nil ?_
   clear c0 c1 c2 c3 c4
   refine H_loud2 5 15 _ _ rfl rfl (by kernel_rfl) ?_ ?_
   all_goals simp only [List.getElem_toArray, List.getElem_cons_succ, List.getElem_cons_zero]
   ·go_wp2_with fail
    refine (cloneS (w0 := w0) _ LR w10.drew (HSD.out w10.drew (Below.refl _ _).drew) HDA.out hdl).mono ?_
    rintro e w11 ⟨v11, rfl, hA11, hb11⟩
    obtain ⟨a11, c11, e11⟩ := hA11.form
    subst e11
    have hz11 : w10.heap.size ≤ w11.heap.size := hb11.size
    go_wp2_with fail
    refine ⟨keep_below hb11 (fun z hz => by show z < w10.heap.size; omega), ?_⟩
    refine H_mobs [14] _ _ _ _ (by kernel_rfl) ?_
    simp only [List.map_cons, List.map_nil, List.getElem?_toArray, List.getElem?_cons_succ, List.getElem?_cons_zero, Option.getD_some, List.size_toArray, List.length_cons, List.length_nil, Nat.reduceAdd, Nat.reduceSub]
    repeat (go_big_quiet_step (fail))
    refine wpQuiet_nil ?_
    refine H_loud1 15 _ rfl (by kernel_rfl) ?_
    simp only [List.getElem_toArray, List.getElem_cons_succ, List.getElem_cons_zero]
    go_wp2_with fail
    refine ⟨keep_below (below_alloc _ _) (fun z hz => by omega), ?_⟩
    refine H_late 16 _ rfl (by kernel_rfl) ?_
    simp only [List.getElem_toArray, List.getElem_cons_succ, List.getElem_cons_zero]
    go_wp2_with fail
    refine H_done (by kernel_rfl) ?_ _
    go_wp2_with fail
    go_meet
    case rel => exact ⟨w11.heap.size, _, rfl, heap_alloc_new w11 _, ((hA11.below (below_alloc _ _)).base hwz), (Below.refl _ _).drew.trans (hb11.trans ((below_alloc _ _).mono hz11)), hz11⟩
   ·go_wp2_with fail
    have hzz := heap_alloc_new w10.drew (.cells #[.slice none 0 0, .int .i64 0, .int .i64 0, .int .i64 0, .int .i64 0] 51)
    have bzz := below_alloc w10.drew (.cells #[.slice none 0 0, .int .i64 0, .int .i64 0, .int .i64 0, .int .i64 0] 51)
    have szz : (w10.drew.alloc (.cells #[.slice none 0 0, .int .i64 0, .int .i64 0, .int .i64 0, .int .i64 0] 51)).heap.size = w10.heap.size + 1 := by simp
    have hlt1 : w10.heap.size < (w10.drew.alloc (.cells #[.slice none 0 0, .int .i64 0, .int .i64 0, .int .i64 0, .int .i64 0] 51)).heap.size := by rw [szz]; omega
    have hle1 : w10.heap.size + 1 ≤ (w10.drew.alloc (.cells #[.slice none 0 0, .int .i64 0, .int .i64 0, .int .i64 0, .int .i64 0] 51)).heap.size := by rw [szz]; exact Nat.le_refl _
    refine ⟨keep_below (w := w10.drew) bzz (fun z hz => by show z < w10.heap.size; omega), ?_⟩
    have bz2 : Below w10.heap.size w10 (w10.drew.alloc (.cells #[.slice none 0 0, .int .i64 0, .int .i64 0, .int .i64 0, .int .i64 0] 51)) := (Below.refl _ _).drew.trans bzz
    refine H_loud1 5 _ rfl (by kernel_rfl) ?_
    simp only [List.getElem_toArray, List.getElem_cons_succ, List.getElem_cons_zero]
    go_wp2_with fail
    refine (cloneS (w0 := w0) _ LR _ (HSD.out _ bz2) HDA.out hdl).mono ?_
    rintro e w11 ⟨v11, rfl, hA11, hb11⟩
    obtain ⟨a11, c11, e11⟩ := hA11.form
    subst e11
    have hA11' : InA w0 (w10.heap.size + 1) w11 (.slice a11 LR.length c11) LR := hA11.base hle1
    have hz11 := (hb11.block w10.heap.size hlt1).trans hzz
    have bz3 : Below w10.heap.size w10 w11 := bz2.trans (hb11.mono bz2.size)
    go_wp2_with fail
    refine ⟨keep_below hb11 (fun z hz => Nat.lt_of_le_of_lt (by omega) hlt1), ?_⟩
    clear hzz bzz bz2 hb11 hA11 HSD
    obtain ⟨p0, p1, p2, p3, p4, lp⟩ := cl5 hz11
    have fp := fun o => frozen_of_heap hz11 o
    have fp0 := fp 0
    have fp1 := fp 1
    have fp2 := fp 2
    have fp3 := fp 3
    have fp4 := fp 4
    clear fp
    refine H_mobs [14] _ _ _ _ (by kernel_rfl) ?_
    simp only [List.map_cons, List.map_nil, List.getElem?_toArray, List.getElem?_cons_succ, List.getElem?_cons_zero, Option.getD_some, List.size_toArray, List.length_cons, List.length_nil, Nat.reduceAdd, Nat.reduceSub]
    repeat (go_big_quiet_step (fail))
    refine wpQuiet_nil ?_
    refine H_late 16 _ rfl (by kernel_rfl) ?_
    simp only [List.getElem_toArray, List.getElem_cons_succ, List.getElem_cons_zero]
    go_wp2_with fail
    refine H_done (by kernel_rfl) ?_ _
    go_wp2_with fail
    go_meet
    case rel => exact ⟨w10.heap.size, _, rfl, put5o hz11 ⟨X.ins.drop (at' + 1), X.fin, X.a, X.to, X.els⟩ _, (hA11'.set5 (Nat.lt_succ_self _) _ _ _ _ _).base (by omega), below5 bz3 (Nat.le_refl _) _ _ _ _ _, Nat.le_refl _⟩
 case rest =>
  obtain ⟨b13, v13, rfl, HR13, HAR, B13, hle13⟩ := hcut
  generalize wc = wx at *
  have hw10 : w.heap.size ≤ w10.heap.size := BB.out.size
  have hbb0 : bb < w.heap.size := H00.out.lt
  clear c0 c1 c2 c3 c4 lx hX5
  have BB := Lib.hid (BB.out.trans (B13.out.mono BB.out.size))
  have HI := Lib.hid ((B13.out.block _ (Array.getElem?_eq_some_iff.1 HI.out).1).trans HI.out)
  have HQ := Lib.hid ((B13.out.block _ (Array.getElem?_eq_some_iff.1 HQ.out).1).trans HQ.out)
  have HBD := Lib.hid (HBD.out.below B13.out)
  have HE0 := Lib.hid HBD.out.ext
  have HSB := Lib.hid (HSB.out.keep (Ext.below B13.out))
  have HKB : Hid (∀ x ∈ LB, KrS w0 wx x) := fun x hx => (HKB.out x hx).below B13.out
  have HA10 := Lib.hid (HA10.out.below B13.out)
  clear B13 HX HSI
  have hLBl : LB.length ≤ 1000000 := by omega
  obtain ⟨-, -, -, -, -, -, -, -, -, y9, -, lbw⟩ := cl11 HBD.out.bx
  rw [lB] at y9
  have HLN := Lib.hid lB
  clear lB
  go_wp2_with fail
  refine (cloneN (w0 := w0) _ LB wx HSB.out HKB.out HE0.out hLBl).mono ?_
  rintro e w14 ⟨v14, rfl, hN14, hb14⟩
  have hzx : w.heap.size ≤ wx.heap.size := BB.out.size
  have hnl : n < LB.length := by rw [HLN.out]; exact hn
  obtain ⟨gN, oN, cN, e14, hn1, hn2, hncell⟩ := (src_own hN14.own).atB (k := n) hnl
  have hg14 : wx.heap.size ≤ gN := (own_lt hN14.own (by rw [e14]; rfl)).1
  have ho14 : oN = 0 := by
   obtain ⟨-, ⟨e, -⟩ | ⟨g, cap, cur, e, -⟩⟩ := hN14.own
   ·rw [e] at e14; simp at e14
   ·rw [e] at e14; simp at e14; exact e14.1.2.symm
  subst ho14
  subst e14
  have n0 := hncell 0 _ rfl (by decide)
  have n1 := hncell 1 _ rfl (by decide)
  have n2 := hncell 2 _ rfl (by decide)
  have n3 := hncell 3 _ rfl (by decide)
  have n4 := hncell 4 _ rfl (by decide)
  simp only [Nat.zero_add, Nat.add_zero] at n0 n1 n2 n3 n4
  have z0 := World.ownsRow.frozenAt hN14.own (n * 5)
  have z1 := World.ownsRow.frozenAt hN14.own (n * 5 + 1)
  have z2 := World.ownsRow.frozenAt hN14.own (n * 5 + 2)
  have z3 := World.ownsRow.frozenAt hN14.own (n * 5 + 3)
  have z4 := World.ownsRow.frozenAt hN14.own (n * 5 + 4)
  have hK10 : KrS w0 w14 ((⟨X.ins.take at' ++ handL q I.args Q.regs, 1, -1, (Q.blks.length : Int), 0⟩ : Bk), .slice a10 LH.length c10) := (HA10.out.below hb14).kr HLH.out
  have HN5 := Lib.hid (hN14.put5 hnl hK10)
  have HB5 := Lib.hid (below5k (n * 5) hb14 hg14 (.slice a10 LH.length c10) (.int .i64 1) (.int .i64 (-1)) (.int .i64 (Q.blks.length : Int)) (.int .i64 0) (b := gN))
  have hsetL : LB.length = (LB.set n ((⟨X.ins.take at' ++ handL q I.args Q.regs, 1, -1, (Q.blks.length : Int), 0⟩ : Bk), .slice a10 LH.length c10)).length := by rw [List.length_set]
  have HSF : Hid ((LB.set n ((⟨X.ins.take at' ++ handL q I.args Q.regs, 1, -1, (Q.blks.length : Int), 0⟩ : Bk), .slice a10 LH.length c10)).map Prod.fst = Q.blks.set n ⟨X.ins.take at' ++ handL q I.args Q.regs, 1, -1, (Q.blks.length : Int), 0⟩) := by show _ = _; rw [List.map_set, HLB.out]
  obtain ⟨L5, hL5⟩ : ∃ L5, L5 = LB.set n ((⟨X.ins.take at' ++ handL q I.args Q.regs, 1, -1, (Q.blks.length : Int), 0⟩ : Bk), .slice a10 LH.length c10) := ⟨_, rfl⟩
  rw [← hL5] at HN5 HSF hsetL
  have HS5 := Lib.hid hsetL
  clear hL5 hsetL hK10 hncell HKB HSB y9
  have HI14 := Lib.hid ((hb14.block _ (Array.getElem?_eq_some_iff.1 HI.out).1).trans HI.out)
  have hQbl : Q.blks.length + q.blks.length ≤ 3000 := by omega
  obtain ⟨e0, e1, e2, e3, e4, e5, lq⟩ := cl6 ((hb14.block _ (Array.getElem?_eq_some_iff.1 HQ.out).1).trans HQ.out)
  have hqn : w.heap.size + 2 ≠ gN := by have := (Array.getElem?_eq_some_iff.1 HQ.out).1; omega
  clear hN14 hb14
  go_wp2_with fail
  clear n0 n1 n2 n3 n4 z0 z1 z2 z3 z4 e0 e1 e2 e3 e4 e5 lq hqn
  have HN5 : Hid (NxS w0 wx.heap.size (((((w14.setCell ⟨gN, n * 5, none⟩ (.slice a10 LH.length c10)).setCell ⟨gN, n * 5 + 1, none⟩ (.int .i64 1)).setCell ⟨gN, n * 5 + 2, none⟩ (.int .i64 (-1))).setCell ⟨gN, n * 5 + 3, none⟩ (.int .i64 (Q.blks.length : Int))).setCell ⟨gN, n * 5 + 4, none⟩ (.int .i64 0)) (.slice (some ⟨gN, 0, none⟩) LB.length cN) L5) := HN5
  have HB5 : Hid (Below wx.heap.size wx (((((w14.setCell ⟨gN, n * 5, none⟩ (.slice a10 LH.length c10)).setCell ⟨gN, n * 5 + 1, none⟩ (.int .i64 1)).setCell ⟨gN, n * 5 + 2, none⟩ (.int .i64 (-1))).setCell ⟨gN, n * 5 + 3, none⟩ (.int .i64 (Q.blks.length : Int))).setCell ⟨gN, n * 5 + 4, none⟩ (.int .i64 0))) := HB5
  obtain ⟨w15, hw15⟩ : ∃ w15, w15 = (((((w14.setCell ⟨gN, n * 5, none⟩ (.slice a10 LH.length c10)).setCell ⟨gN, n * 5 + 1, none⟩ (.int .i64 1)).setCell ⟨gN, n * 5 + 2, none⟩ (.int .i64 (-1))).setCell ⟨gN, n * 5 + 3, none⟩ (.int .i64 (Q.blks.length : Int))).setCell ⟨gN, n * 5 + 4, none⟩ (.int .i64 0)) := ⟨_, rfl⟩
  rw [← hw15] at HN5 HB5
  rw [← hw15]
  clear hw15
  have hw15 := HB5.out.size
  go_loopw [14, 97] (fun v i wr => ∃ (k : Nat) (L : List (Bk × Value)), k ≤ q.blks.length ∧ i = .int .i64 (k : Int) ∧ Hid (NxS w0 wx.heap.size wr v L) ∧ Hid (L.map Prod.fst = Q.blks.set n ⟨X.ins.take at' ++ handL q I.args Q.regs, 1, -1, (Q.blks.length : Int), 0⟩ ++ (q.blks.take k).map (fun y => movB y Q.regs (Q.blks.length : Int) I.d ((Q.blks.length : Int) + (q.blks.length : Int)))) ∧ Hid (Below wx.heap.size wx wr)) (fun _ i _ => q.blks.length - (intOf i).toNat)
  case atStart => exact ⟨0, L5, Nat.zero_le _, rfl, HN5, by show _ = _; rw [HSF.out, List.take_zero, List.map_nil, List.append_nil], HB5⟩
  case round =>
   clear HN5 HSF HB5 hw15 HS5
   obtain ⟨k, L, hkq', rfl, N, HIS, HBW⟩ := hrel
   have hLlen : L.length = Q.blks.length + k := by
    have := congrArg List.length HIS.out
    rw [List.length_map, List.length_append, List.length_set, List.length_map, List.length_take] at this
    omega
   have hLl : L.length ≤ 5000 := by omega
   have HLLEN := Lib.hid hLlen
   clear hLlen
   obtain ⟨av', cv', ev⟩ := N.out.form
   subst ev
   have HIr := (HBW.out.block _ (Array.getElem?_eq_some_iff.1 HI.out).1).trans HI.out
   have HQr := (HBW.out.block _ (Array.getElem?_eq_some_iff.1 HQ.out).1).trans HQ.out
   have HEr : Ext w0 wr := HE0.out.trans (Ext.below HBW.out)
   by_cases hlt : k < q.blks.length
   ·obtain ⟨by', oy, vy, eqy, hvy, k0, k1, k2, k3, k4⟩ := (RdBks.at HQB.out).2 k hlt
    have hym : q.blks.getD k default ∈ q.blks := getD_in hlt
    obtain ⟨m1, m2, m3, m4, m5⟩ := small_bd hq hsm hym
    have HTK : Hid ((q.blks.take (k + 1)).map (fun y => movB y Q.regs (Q.blks.length : Int) I.d ((Q.blks.length : Int) + (q.blks.length : Int))) = (q.blks.take k).map (fun y => movB y Q.regs (Q.blks.length : Int) I.d ((Q.blks.length : Int) + (q.blks.length : Int))) ++ [movB (q.blks.getD k default) Q.regs (Q.blks.length : Int) I.d ((Q.blks.length : Int) + (q.blks.length : Int))]) := by
     show _ = _
     rw [List.take_succ_eq_append_getElem hlt, List.map_append]
     simp [List.getD, hlt]
    have HVY := Lib.hid hvy
    subst eqy
    obtain ⟨ay, cy, rfl, -⟩ := hvy
    replace k0 := HEr _ _ k0
    replace k1 := HEr _ _ k1
    replace k2 := HEr _ _ k2
    replace k3 := HEr _ _ k3
    replace k4 := HEr _ _ k4
    have lby : by' < wr.heap.size := World.block_lt_of_cell? wr _ k0
    obtain ⟨-, d1, -, -, -, -, -, -, -, -, -, li⟩ := cl11 HIr
    have HER := Lib.hid HEr
    have q1 : decide ((k : Int) < (q.blks.length : Int)) = true := decide_eq_true (by omega)
    have q2 : decide (k < q.blks.length) = true := decide_eq_true hlt
    clear HEr hym
    generalize q.blks.getD k default = y at *
    have HMV : Hid (∀ W, Below wr.heap.size wr W → Calls Tryz.prog 42 #[.agg #[.slice ay y.ins.length cy, .int .i64 y.fin, .int .i64 y.a, .int .i64 y.to, .int .i64 y.els], .int .i64 Q.regs, .int .i64 (Q.blks.length : Int), .int .i64 I.d, .int .i64 ((Q.blks.length : Int) + (q.blks.length : Int))] W (MovQ w0 y Q.regs (Q.blks.length : Int) I.d ((Q.blks.length : Int) + (q.blks.length : Int)) W)) :=
     fun W hW => moved_c w0 y _ Q.regs _ I.d _ W (HER.out.trans (Ext.below hW)) HVY.out (by omega) m2 ⟨hQ0, by have := hHQ.r8; omega⟩ (by omega) m3 m4 m5
    obtain ⟨Y, hY⟩ : ∃ Y, Y = movB y Q.regs (Q.blks.length : Int) I.d ((Q.blks.length : Int) + (q.blks.length : Int)) := ⟨_, rfl⟩
    rw [← hY] at HTK
    have HY := Lib.hid hY
    clear hY m1 m2 m3 m4 m5
    go_wp2_with fail
    refine (HMV.out _ (below_alloc _ _)).mono ?_
    rintro e w16 ⟨v16, LQ, rfl, hLQ, hAQ, hb16⟩
    rw [← HY.out] at hLQ ⊢
    obtain ⟨aq, cq, eq⟩ := hAQ.form
    subst eq
    have hb16' : Below wr.heap.size wr w16 := (below_alloc wr _).trans (hb16.mono (by simp))
    have B17 := Lib.hid (hb16'.trans ((below_alloc w16 (.cells #[.slice aq LQ.length cq, .int .i64 Y.fin, .int .i64 Y.a, .int .i64 Y.to, .int .i64 Y.els] 51)).mono hb16'.size))
    have HKY := Lib.hid ((hAQ.kr hLQ).below (below_alloc w16 (.cells #[.slice aq LQ.length cq, .int .i64 Y.fin, .int .i64 Y.a, .int .i64 Y.to, .int .i64 Y.els] 51)))
    have N17 := Lib.hid (N.out.below B17.out)
    have HCX : Hid (∀ jj u, (bkCells (Y, .slice aq LQ.length cq))[jj]? = some u → (w16.alloc (.cells #[.slice aq LQ.length cq, .int .i64 Y.fin, .int .i64 Y.a, .int .i64 Y.to, .int .i64 Y.els] 51)).cell? ⟨w16.heap.size, jj, none⟩ = some u) := cell_newX w16 (bkCells (Y, .slice aq LQ.length cq)) 51 _ rfl
    have hz17 : wx.heap.size ≤ (w16.alloc (.cells #[.slice aq LQ.length cq, .int .i64 Y.fin, .int .i64 Y.a, .int .i64 Y.to, .int .i64 Y.els] 51)).heap.size := Nat.le_trans HBW.out.size B17.out.size
    clear hb16 hb16' hAQ hLQ N HMV k0 k1 k2 k3 k4 d1 li lby HIr HQr
    have h1c : ∀ u ∈ bkCells (Y, .slice aq LQ.length cq), u.oneCell' = true := fun u hu => by
     simp only [bkCells, List.mem_cons, List.not_mem_nil, or_false] at hu
     rcases hu with rfl | rfl | rfl | rfl | rfl <;> rfl
    go_wp2_with (at_builtin; go_loud (refine appG 33 51 info_bk Tryz.underlying33 rfl (by decide) (by decide) (bkCells (Y, .slice aq LQ.length cq)) rfl h1c N17.out.own rfl rfl rfl rfl HCX.out (by omega) hz17 ?_); intro v18 w18 O18 G18 D18)
    have N18 := Lib.hid (N17.out.app HKY.out O18 G18)
    have B18 : Hid (Below wx.heap.size wx w18) := (HBW.out.trans (B17.out.mono HBW.out.size)).grown G18 hz17 (fun j hj => (own_lt N17.out.own hj).1)
    clear O18 G18 D18 N17 HCX HKY B17 hz17
    go_roundw
    case rel => exact ⟨k + 1, L ++ [(Y, .slice aq LQ.length cq)], by omega, by go_num, N18, by show _ = _; rw [List.map_append, HIS.out, HTK.out, List.append_assoc]; rfl, B18⟩
    case measure => simp [intOf]; omega
   ·obtain rfl : k = q.blks.length := by omega
    rw [List.take_length] at HIS
    have q1 : decide ((q.blks.length : Int) < (q.blks.length : Int)) = false := decide_eq_false (by omega)
    have q2 : decide (q.blks.length < q.blks.length) = false := decide_eq_false (by omega)
    have HBDr := Lib.hid (HBD.out.below HBW.out)
    have HRr := Lib.hid ((HBW.out.block _ (Array.getElem?_eq_some_iff.1 HR13.out).1).trans HR13.out)
    have HARr := Lib.hid (HAR.out.below HBW.out)
    have HER := Lib.hid HEr
    have l13 : b13 < wx.heap.size := (Array.getElem?_eq_some_iff.1 HR13.out).1
    have lqx : w.heap.size + 2 < wx.heap.size := (Array.getElem?_eq_some_iff.1 HQ.out).1
    have lbx : bb < wx.heap.size := HBD.out.lt
    clear HIr HEr hlt
    obtain ⟨voa, voc, evo, -⟩ := HBD.out.ob
    subst evo
    obtain ⟨-, -, -, -, y4, y5, y6, y7, y8, y9, -, lbr⟩ := cl11 HBDr.out.bx
    go_wp2_with fail
    clear y4 y5 y6 y7 y8 y9 lbr
    obtain ⟨W21, hW21⟩ : ∃ W21, W21 = wr.alloc (.cells #[.string nm, .bool Q.void, .int .i64 Q.params, .int .i64 Q.regs, .slice voa Q.objs.length voc, .slice (some ⟨bB, oB, none⟩) LB.length cB] 35) := ⟨_, rfl⟩
    have B21 : Hid (Below wr.heap.size wr W21) := by rw [hW21]; exact below_alloc wr _
    have HW21 : Hid (W21.heap[wr.heap.size]? = some (.cells #[.string nm, .bool Q.void, .int .i64 Q.params, .int .i64 Q.regs, .slice voa Q.objs.length voc, .slice (some ⟨bB, oB, none⟩) LB.length cB] 35 (0, 0))) := heap_of_alloc wr _ _ hW21
    rw [← hW21]
    clear hW21
    have hzr : wx.heap.size ≤ wr.heap.size := HBW.out.size
    have l21 : wr.heap.size < W21.heap.size := (Array.getElem?_eq_some_iff.1 HW21.out).1
    have HR21 := Lib.hid ((B21.out.block _ (by omega)).trans HRr.out)
    have HQ21 := Lib.hid ((B21.out.block _ (by omega)).trans ((HBW.out.block _ lqx).trans HQ.out))
    have HB21 := Lib.hid ((B21.out.block _ (by omega)).trans HBDr.out.bx)
    have N21 := Lib.hid (N.out.below B21.out)
    have A21 := Lib.hid (HARr.out.below B21.out)
    have B21w := Lib.hid (HBW.out.trans (B21.out.mono hzr))
    obtain ⟨a13, c13, e13⟩ := A21.out.form
    subst e13
    obtain ⟨p0, p1, p2, p3, p4, lp13⟩ := cl5 HR21.out
    obtain ⟨e0, e1, e2, e3, e4, e5, lq21⟩ := cl6 HQ21.out
    clear N HARr HRr HBDr HQr B21
    refine wp_region_late [0, 2, 3, 6, 7, 8, 9] (fun z => z = b13 ∨ z = w.heap.size + 2) (by kernel_rfl) ?_
    show wpH _ _ _ _ _ _ _ _ W21.drew
    have hregs : Q.regs + q.regs ≤ 100000 ∧ 0 ≤ q.regs := by have := hHQ.r8; have := hHq.r8; have := hHq.p0; have := hHq.pr; omega
    obtain ⟨hr1, hr2⟩ := hregs
    refine H_pures [1] _ _ _ _ (by kernel_rfl) ?_
    simp only [List.map_cons, List.map_nil, List.getElem?_toArray, List.getElem?_cons_succ, List.getElem?_cons_zero, Option.getD_some, List.size_toArray, List.length_cons, List.length_nil, Nat.reduceAdd, Nat.reduceSub]
    repeat (go_big_quiet_step (fail))
    refine wpQuiet_nil ?_
    refine H_mobs [0, 2, 3, 6, 7, 8, 9] _ _ _ _ (by kernel_rfl) ?_
    simp only [List.map_cons, List.map_nil, List.getElem?_toArray, List.getElem?_cons_succ, List.getElem?_cons_zero, Option.getD_some, List.size_toArray, List.length_cons, List.length_nil, Nat.reduceAdd, Nat.reduceSub]
    repeat (go_big_quiet_step (fail))
    refine wpQuiet_nil ?_
    clear p0 p1 p2 p3 p4 e0 e1 e2 e3 e4 e5
    refine H_loud1 4 _ rfl (by kernel_rfl) ?_
    simp only [List.getElem_toArray, List.getElem_cons_succ, List.getElem_cons_zero]
    go_wp2_with fail
    refine ⟨keep_below (w := W21.drew) (below_alloc _ _) (fun z hz => by show z < W21.heap.size; omega), ?_⟩
    have HCX : Hid (∀ jj u, (bkCells ((⟨X.ins.drop (at' + 1), X.fin, X.a, X.to, X.els⟩ : Bk), .slice a13 LR.length c13))[jj]? = some u → (W21.drew.alloc (.cells #[.slice a13 LR.length c13, .int .i64 X.fin, .int .i64 X.a, .int .i64 X.to, .int .i64 X.els] 51)).cell? ⟨W21.drew.heap.size, jj, none⟩ = some u) := cell_newX W21.drew (bkCells ((⟨X.ins.drop (at' + 1), X.fin, X.a, X.to, X.els⟩ : Bk), .slice a13 LR.length c13)) 51 _ rfl
    have h1c : ∀ u ∈ bkCells ((⟨X.ins.drop (at' + 1), X.fin, X.a, X.to, X.els⟩ : Bk), Value.slice a13 LR.length c13), u.oneCell' = true := fun u hu => by
     simp only [bkCells, List.mem_cons, List.not_mem_nil, or_false] at hu
     rcases hu with rfl | rfl | rfl | rfl | rfl <;> rfl
    have B22 : Below W21.heap.size W21 (W21.drew.alloc (.cells #[.slice a13 LR.length c13, .int .i64 X.fin, .int .i64 X.a, .int .i64 X.to, .int .i64 X.els] 51)) := (Below.refl _ _).drew.trans (below_alloc W21.drew (.cells #[.slice a13 LR.length c13, .int .i64 X.fin, .int .i64 X.a, .int .i64 X.to, .int .i64 X.els] 51))
    have N22 := Lib.hid (N21.out.below B22)
    have B22w := Lib.hid (B21w.out.trans (B22.mono B21w.out.size))
    have K22 : Hid (KrS w0 (W21.drew.alloc (.cells #[.slice a13 LR.length c13, .int .i64 X.fin, .int .i64 X.a, .int .i64 X.to, .int .i64 X.els] 51)) ((⟨X.ins.drop (at' + 1), X.fin, X.a, X.to, X.els⟩ : Bk), .slice a13 LR.length c13)) := (A21.out.below B22).kr (by rw [HLR.out, List.map_drop, HLI.out])
    have HB22 := Lib.hid ((B22.block _ (by omega)).trans HB21.out)
    have HW22 := Lib.hid ((B22.block _ l21).trans HW21.out)
    have hz22 : wx.heap.size ≤ (W21.drew.alloc (.cells #[.slice a13 LR.length c13, .int .i64 X.fin, .int .i64 X.a, .int .i64 X.to, .int .i64 X.els] 51)).heap.size := B22w.out.size
    have l22 : wr.heap.size < (W21.drew.alloc (.cells #[.slice a13 LR.length c13, .int .i64 X.fin, .int .i64 X.a, .int .i64 X.to, .int .i64 X.els] 51)).heap.size := (Array.getElem?_eq_some_iff.1 HW22.out).1
    refine H_loud1 5 _ rfl (by kernel_rfl) ?_
    simp only [List.getElem_toArray, List.getElem_cons_succ, List.getElem_cons_zero]
    refine appG 33 51 info_bk Tryz.underlying33 rfl (by decide) (by decide) _ rfl h1c N22.out.own rfl rfl rfl rfl HCX.out (by omega) hz22 ?_
    intro v23 w23 O23 G23 D23
    have hob : ∀ z, z < wx.heap.size → some z ≠ (Value.slice av' L.length cv').ownBlock := fun z hz e => by have := (own_lt N22.out.own e.symm).1; omega
    have hwn : some wr.heap.size ≠ (Value.slice av' L.length cv').ownBlock := fun e => il_not N22.out.own HW22.out (by decide) e.symm
    have N23 := Lib.hid (N22.out.app K22.out O23 G23)
    obtain ⟨a23, c23, e23⟩ := N23.out.form
    subst e23
    have HB23 := Lib.hid ((G23.block _ (Nat.lt_of_lt_of_le lbx hz22) (hob _ lbx)).trans HB22.out)
    have HW23 := Lib.hid ((G23.block _ l22 hwn).trans HW22.out)
    have B23 : Hid (Below wx.heap.size wx w23) := B22w.out.grown G23 hz22 (fun j hj => (own_lt N22.out.own hj).1)
    have HK23 : Hid (Keep (fun z => z = b13 ∨ z = w.heap.size + 2) (W21.drew.alloc (.cells #[.slice a13 LR.length c13, .int .i64 X.fin, .int .i64 X.a, .int .i64 X.to, .int .i64 X.els] 51)) w23) := fun b o hz => by
     have hzx : b < wx.heap.size := by omega
     exact World.cell?_of_block (w := W21.drew.alloc (.cells #[.slice a13 LR.length c13, .int .i64 X.fin, .int .i64 X.a, .int .i64 X.to, .int .i64 X.els] 51)) (a := ⟨b, o, none⟩) (G23.block _ (Nat.lt_of_lt_of_le hzx hz22) (hob _ hzx))
    clear O23 G23 D23 N22 HCX K22 HB22 HW22 B22 B22w hz22 l22 hob hwn h1c A21 N21 B21w HB21 HW21 HQ21 HR21 l21 lp13 lq21
    go_wp2_with fail
    refine ⟨HK23.out, ?_⟩
    clear HK23
    refine H_loud1 10 _ rfl (by kernel_rfl) ?_
    simp only [List.getElem_toArray, List.getElem_cons_succ, List.getElem_cons_zero]
    go_wp2_with fail
    refine ⟨Keep.refl _ _, ?_⟩
    refine H_loud1 11 _ rfl (by kernel_rfl) ?_
    simp only [List.getElem_toArray, List.getElem_cons_succ, List.getElem_cons_zero]
    go_wp2_with fail
    refine ⟨Keep.refl _ _, ?_⟩
    refine H_loud1 12 _ rfl (by kernel_rfl) ?_
    simp only [List.getElem_toArray, List.getElem_cons_succ, List.getElem_cons_zero]
    go_wp2_with fail
    refine ⟨Keep.refl _ _, ?_⟩
    obtain ⟨-, -, -, -, -, -, -, y7, -, y9, -, lb23⟩ := cl11 HB23.out
    have f7 := frozen_of_heap HB23.out 7
    have f9 := frozen_of_heap HB23.out 9
    have hl13 : b13 < w23.heap.size ∧ w.heap.size + 2 < w23.heap.size := ⟨Nat.lt_of_lt_of_le l13 B23.out.size, Nat.lt_of_lt_of_le lqx B23.out.size⟩
    refine H_loud1 13 _ rfl (by kernel_rfl) ?_
    simp only [List.getElem_toArray, List.getElem_cons_succ, List.getElem_cons_zero]
    go_wp2_with fail
    refine ⟨fun b o hz => (But.setCell bb 9 w23 _).cell (by omega) (by omega), ?_⟩
    refine H_loud1 14 _ rfl (by kernel_rfl) ?_
    simp only [List.getElem_toArray, List.getElem_cons_succ, List.getElem_cons_zero]
    go_wp2_with fail
    refine ⟨Keep.refl _ _, ?_⟩
    refine H_loud1 15 _ rfl (by kernel_rfl) ?_
    simp only [List.getElem_toArray, List.getElem_cons_succ, List.getElem_cons_zero]
    go_wp2_with fail
    refine ⟨Keep.refl _ _, ?_⟩
    refine H_loud1 16 _ rfl (by kernel_rfl) ?_
    simp only [List.getElem_toArray, List.getElem_cons_succ, List.getElem_cons_zero]
    go_wp2_with fail
    refine ⟨Keep.refl _ _, ?_⟩
    refine H_loud1 17 _ rfl (by kernel_rfl) ?_
    simp only [List.getElem_toArray, List.getElem_cons_succ, List.getElem_cons_zero]
    go_wp2_with fail
    refine ⟨fun b o hz => (But.setCell bb 7 _ _).cell (by simp; omega) (by omega), ?_⟩
    refine H_done (by kernel_rfl) ?_ _
    clear y7 y9 f7 f9
    have HQ'b : Hid ((L ++ [((⟨X.ins.drop (at' + 1), X.fin, X.a, X.to, X.els⟩ : Bk), Value.slice a13 LR.length c13)]).map Prod.fst = (putX q Q n at' X I).blks) := by
     show _ = _
     rw [List.map_append, HIS.out, List.append_assoc]
     rfl
    have hlen1 : (L ++ [((⟨X.ins.drop (at' + 1), X.fin, X.a, X.to, X.els⟩ : Bk), Value.slice a13 LR.length c13)]).length = L.length + 1 := by rw [List.length_append, List.length_singleton]
    rw [hlen1] at N23
    have hb23w : Below w.heap.size w w23 := BB.out.trans (B23.out.mono hzx)
    have hbut : But bb w23 ((w23.setCell ⟨bb, 9, none⟩ (.slice a23 (L.length + 1) c23)).setCell ⟨bb, 7, none⟩ (.int .i64 (Q.regs + q.regs))) := (But.setCell _ _ _ _).trans (But.setCell _ _ _ _)
    have HBX24 : ((w23.setCell ⟨bb, 9, none⟩ (.slice a23 (L.length + 1) c23)).setCell ⟨bb, 7, none⟩ (.int .i64 (Q.regs + q.regs))).heap[bb]? = some (.cells #[vg, vd, .slice (some ⟨bp, op, none⟩) m.procs.length cp, .int .i64 m.main, .string nm, .bool (putX q Q n at' X I).void, .int .i64 (putX q Q n at' X I).params, .int .i64 (putX q Q n at' X I).regs, .slice voa Q.objs.length voc, .slice a23 (L.length + 1) c23, .bool false] 62) := by
     have h1 := heap_setCell_same w23 bb 9 _ _ (.slice a23 (L.length + 1) c23) HB23.out
     exact heap_setCell_same _ bb 7 _ _ (.int .i64 (Q.regs + q.regs)) h1
    have BD24 : Hid (BdW w0 m bb ((w23.setCell ⟨bb, 9, none⟩ (.slice a23 (L.length + 1) c23)).setCell ⟨bb, 7, none⟩ (.int .i64 (Q.regs + q.regs))) (putX q Q n at' X I) false vg vd (.slice (some ⟨bp, op, none⟩) m.procs.length cp) (.slice voa Q.objs.length voc) nm (.slice a23 (L.length + 1) c23)) :=
     ⟨HBX24, H00.out.md, H00.out.ob, by
       have := N23.out.bks
       rw [HQ'b.out] at this
       exact this.but hbut HB23.out (by decide) (by decide), H00.out.le, (H00.out.be.trans (hb23w.mono H00.out.be.size)).setCell (p := ⟨bb, 9, none⟩) H00.out.le _ |>.setCell (p := ⟨bb, 7, none⟩) H00.out.le _⟩
    have HBT : Hid (But bb w ((w23.setCell ⟨bb, 9, none⟩ (.slice a23 (L.length + 1) c23)).setCell ⟨bb, 7, none⟩ (.int .i64 (Q.regs + q.regs)))) := (But.below hb23w).trans hbut
    have HW24 : Hid (((w23.setCell ⟨bb, 9, none⟩ (.slice a23 (L.length + 1) c23)).setCell ⟨bb, 7, none⟩ (.int .i64 (Q.regs + q.regs))).heap[wr.heap.size]? = _) := (hbut.block _ (Array.getElem?_eq_some_iff.1 HW23.out).1 (by omega)).trans HW23.out
    have HSP : Hid (SzP (putX q Q n at' X I)) := putX_sz HZQ.out (by rw [← LIX.out]; exact hXl) (fun b hb => by have := insN_mem hb; omega) (by have := hand_53 hsm hHq.b1 (by have := hHq.p6; omega : I.args.length ≤ 6) Q.regs; omega) (by omega)
    clear HBX24 hbut hb23w N23 HB23 HW23 hlen1 HQ'b
    generalize (w23.setCell ⟨bb, 9, none⟩ (.slice a23 (L.length + 1) c23)).setCell ⟨bb, 7, none⟩ (.int .i64 (Q.regs + q.regs)) = w24 at *
    generalize putX q Q n at' X I = P' at *
    have HBDL := Lib.hid BD24.out.lt
    have HZZ : Hid (∀ w', Ext w24 w' → Calls Tryz.prog 31 #[.agg #[.string nm, .bool P'.void, .int .i64 P'.params, .int .i64 P'.regs, .slice voa Q.objs.length voc, .slice a23 (L.length + 1) c23]] w' fun e w'' => e = .returned (.int .i64 ((P'.blks.length : Int) + (insN P' : Int))) ∧ Below w'.heap.size w' w'') := fun w' he => size_c P' _ w' (BD24.out.prv.ext he) HSP.out
    obtain ⟨-, -, -, -, y4, y5, y6, y7, y8, y9, -, lb24⟩ := cl11 BD24.out.bx
    clear HSP HBW HIS HLLEN
    by_cases h1 : 2000 < P'.blks.length + insN P'
    ·have g1 : decide (2000 < (P'.blks.length : Int) + (insN P' : Int)) = true := decide_eq_true (by omega)
     go_wp2_with fail
     refine (HZZ.out w24 (Ext.below (Below.refl _ _))).mono ?_
     rintro e w25 ⟨rfl, hb25⟩
     have HBIG : Hid (2000 < P'.blks.length + insN P' ∨ 8000 < P'.regs) := .inl h1
     clear y4 y5 y6 y7 y8 y9 lb24
     have HB25 := (hb25.block _ HBDL.out).trans BD24.out.bx
     have HW25 := (hb25.block _ (Array.getElem?_eq_some_iff.1 HW24.out).1).trans HW24.out
     have HBT25 : But bb w w25 := HBT.out.trans (But.below hb25)
     obtain ⟨y0, y1, y2, y3, y4, y5, y6, y7, y8, y9, y10, lb25⟩ := cl11 HB25
     obtain ⟨z0, z1, z2, z3, z4, z5, lz⟩ := cl6 HW25
     have fy := fun o => frozen_of_heap HB25 o
     have f4 := fy 4
     have f5 := fy 5
     have f6 := fy 6
     have f7 := fy 7
     have f8 := fy 8
     have f9 := fy 9
     have f10 := fy 10
     have HFB : Hid ((((((((w25.setCell ⟨bb, 4, none⟩ (.string nm)).setCell ⟨bb, 5, none⟩ (.bool Q.void)).setCell ⟨bb, 6, none⟩ (.int .i64 Q.params)).setCell ⟨bb, 7, none⟩ (.int .i64 Q.regs)).setCell ⟨bb, 8, none⟩ (.slice voa Q.objs.length voc)).setCell ⟨bb, 9, none⟩ (.slice (some ⟨bB, oB, none⟩) LB.length cB)).setCell ⟨bb, 10, none⟩ (.bool true)).heap[bb]? = some (.cells #[vg, vd, .slice (some ⟨bp, op, none⟩) m.procs.length cp, .int .i64 m.main, .string nm, .bool Q.void, .int .i64 Q.params, .int .i64 Q.regs, .slice voa Q.objs.length voc, .slice (some ⟨bB, oB, none⟩) LB.length cB, .bool true] 62)) := by
      have h1 := heap_setCell_same w25 bb 4 _ _ (.string nm) HB25
      have h2 := heap_setCell_same _ bb 5 _ _ (.bool Q.void) h1
      have h3 := heap_setCell_same _ bb 6 _ _ (.int .i64 Q.params) h2
      have h4 := heap_setCell_same _ bb 7 _ _ (.int .i64 Q.regs) h3
      have h5 := heap_setCell_same _ bb 8 _ _ (.slice voa Q.objs.length voc) h4
      have h6 := heap_setCell_same _ bb 9 _ _ (.slice (some ⟨bB, oB, none⟩) LB.length cB) h5
      exact heap_setCell_same _ bb 10 _ _ (.bool true) h6
     have HFT : Hid (But bb w (((((((w25.setCell ⟨bb, 4, none⟩ (.string nm)).setCell ⟨bb, 5, none⟩ (.bool Q.void)).setCell ⟨bb, 6, none⟩ (.int .i64 Q.params)).setCell ⟨bb, 7, none⟩ (.int .i64 Q.regs)).setCell ⟨bb, 8, none⟩ (.slice voa Q.objs.length voc)).setCell ⟨bb, 9, none⟩ (.slice (some ⟨bB, oB, none⟩) LB.length cB)).setCell ⟨bb, 10, none⟩ (.bool true))) :=
      (((((((HBT25.trans (But.setCell _ _ _ _)).trans (But.setCell _ _ _ _)).trans (But.setCell _ _ _ _)).trans (But.setCell _ _ _ _)).trans (But.setCell _ _ _ _)).trans (But.setCell _ _ _ _)).trans (But.setCell _ _ _ _))
     have HEND := Lib.hid (H00.out.turn HFT.out HFB.out)
     clear fy HB25 HW25 HBT25 hb25
     go_wp2_with fail
     go_end0
     exact PutQ.yes HPUT.out HBIG.out HFT.out HEND.out
    ·have g1 : decide (2000 < (P'.blks.length : Int) + (insN P' : Int)) = false := decide_eq_false (by omega)
     by_cases h2 : 8000 < P'.regs
     ·have g2 : decide (8000 < P'.regs) = true := decide_eq_true h2
      go_wp2_with fail
      refine (HZZ.out w24 (Ext.below (Below.refl _ _))).mono ?_
      rintro e w25 ⟨rfl, hb25⟩
      have HBIG : Hid (2000 < P'.blks.length + insN P' ∨ 8000 < P'.regs) := .inr h2
      clear y4 y5 y6 y7 y8 y9 lb24
      have HB25 := (hb25.block _ HBDL.out).trans BD24.out.bx
      have HW25 := (hb25.block _ (Array.getElem?_eq_some_iff.1 HW24.out).1).trans HW24.out
      have HBT25 : But bb w w25 := HBT.out.trans (But.below hb25)
      obtain ⟨y0, y1, y2, y3, y4, y5, y6, y7, y8, y9, y10, lb25⟩ := cl11 HB25
      obtain ⟨z0, z1, z2, z3, z4, z5, lz⟩ := cl6 HW25
      have fy := fun o => frozen_of_heap HB25 o
      have f4 := fy 4
      have f5 := fy 5
      have f6 := fy 6
      have f7 := fy 7
      have f8 := fy 8
      have f9 := fy 9
      have f10 := fy 10
      have HFB : Hid ((((((((w25.setCell ⟨bb, 4, none⟩ (.string nm)).setCell ⟨bb, 5, none⟩ (.bool Q.void)).setCell ⟨bb, 6, none⟩ (.int .i64 Q.params)).setCell ⟨bb, 7, none⟩ (.int .i64 Q.regs)).setCell ⟨bb, 8, none⟩ (.slice voa Q.objs.length voc)).setCell ⟨bb, 9, none⟩ (.slice (some ⟨bB, oB, none⟩) LB.length cB)).setCell ⟨bb, 10, none⟩ (.bool true)).heap[bb]? = some (.cells #[vg, vd, .slice (some ⟨bp, op, none⟩) m.procs.length cp, .int .i64 m.main, .string nm, .bool Q.void, .int .i64 Q.params, .int .i64 Q.regs, .slice voa Q.objs.length voc, .slice (some ⟨bB, oB, none⟩) LB.length cB, .bool true] 62)) := by
       have h1 := heap_setCell_same w25 bb 4 _ _ (.string nm) HB25
       have h2 := heap_setCell_same _ bb 5 _ _ (.bool Q.void) h1
       have h3 := heap_setCell_same _ bb 6 _ _ (.int .i64 Q.params) h2
       have h4 := heap_setCell_same _ bb 7 _ _ (.int .i64 Q.regs) h3
       have h5 := heap_setCell_same _ bb 8 _ _ (.slice voa Q.objs.length voc) h4
       have h6 := heap_setCell_same _ bb 9 _ _ (.slice (some ⟨bB, oB, none⟩) LB.length cB) h5
       exact heap_setCell_same _ bb 10 _ _ (.bool true) h6
      have HFT : Hid (But bb w (((((((w25.setCell ⟨bb, 4, none⟩ (.string nm)).setCell ⟨bb, 5, none⟩ (.bool Q.void)).setCell ⟨bb, 6, none⟩ (.int .i64 Q.params)).setCell ⟨bb, 7, none⟩ (.int .i64 Q.regs)).setCell ⟨bb, 8, none⟩ (.slice voa Q.objs.length voc)).setCell ⟨bb, 9, none⟩ (.slice (some ⟨bB, oB, none⟩) LB.length cB)).setCell ⟨bb, 10, none⟩ (.bool true))) :=
       (((((((HBT25.trans (But.setCell _ _ _ _)).trans (But.setCell _ _ _ _)).trans (But.setCell _ _ _ _)).trans (But.setCell _ _ _ _)).trans (But.setCell _ _ _ _)).trans (But.setCell _ _ _ _)).trans (But.setCell _ _ _ _))
      have HEND := Lib.hid (H00.out.turn HFT.out HFB.out)
      clear fy HB25 HW25 HBT25 hb25
      go_wp2_with fail
      go_end0
      exact PutQ.yes HPUT.out HBIG.out HFT.out HEND.out
     ·have g2 : decide (8000 < P'.regs) = false := decide_eq_false h2
      go_wp2_with fail
      refine (HZZ.out w24 (Ext.below (Below.refl _ _))).mono ?_
      rintro e w25 ⟨rfl, hb25⟩
      clear y4 y5 y6 y7 y8 y9 lb24
      have BD25 := Lib.hid (BD24.out.below hb25)
      have HBT25 := Lib.hid (HBT.out.trans (But.below hb25))
      clear hb25 BD24 HBT HW24
      obtain ⟨-, -, -, -, y4, y5, y6, y7, y8, y9, -, lb25⟩ := cl11 BD25.out.bx
      go_wp2_with fail
      go_end0
      exact PutQ.no HPUT.out h1 (Int.not_lt.2 h2) HBT25.out BD25.out
end Go.Proofs.YtchoiankeohonaaGreatDoor
