/-
 The document's run: a step; plain facts of the machine of single steps.
-/
import Derived.Test.YtedihiodmgnlpaaZIrrunRuns37
import Derived.Test.YtedihiodmgnlpaaZIrrunRuns12
set_option linter.all false
namespace Go.Proofs.Ytedihiodmgnlpaa
open Go.ChangeShapes Go.WideShapes Go.ChangeAt Go.RowKit
set_option maxHeartbeats 4000000
set_option linter.unusedVariables false
set_option maxRecDepth 20000

structure GoodFr (m : Md) (fr : Fr) : Prop where
 n : fr.n < m.procs.length
 b : fr.b < (pk m fr.n).blks.length
 i : fr.i ≤ ((pk m fr.n).blks.getD fr.b default).ins.length
 r : (fr.regs.length : Int) = (pk m fr.n).regs
 w : ∀ x ∈ fr.regs, 0 ≤ x ∧ x < 4294967296
 l : 0 ≤ fr.low ∧ fr.low ≤ 65536
theorem GoodFr.k {m : Md} {f : Kf} (h : GoodFr m f.fr) : GoodK m f := ⟨h.n, h.b, h.i, h.r⟩
/-- what holds of the machine after N steps -/
structure MInv (m : Md) (N : Nat) (M : Ms) : Prop where
 fr : ∀ fr ∈ M.stk, GoodFr m fr
 up : ∀ fr ∈ M.stk.tail, 1 ≤ fr.i
 mem : MemOk M.s.mem
 i0 : 0 ≤ M.s.ins
 i1 : M.s.ins ≤ N
 o1 : M.s.out.length ≤ N
 d1 : M.stk.length ≤ N + 1
def StepQ (k : PK) (M : Ms) (w' : World) : Prop := ∃ vt vo fs, Pm k w' vt vo M.s M.fin fs ∧ M.stk = stkF fs
theorem st6_heap {w : World} {g : Nat} {t : TypeId} {z0 z1 z2 z3 z4 z5 : Value} (h : w.heap[g]? = some (.cells #[z0, z1, z2, z3, z4, z5] t (0, 0))) (a b c d e f : Value) :
  ((((((w.setCell ⟨g, 0, none⟩ a).setCell ⟨g, 1, none⟩ b).setCell ⟨g, 2, none⟩ c).setCell ⟨g, 3, none⟩ d).setCell ⟨g, 4, none⟩ e).setCell ⟨g, 5, none⟩ f).heap[g]? = some (.cells #[a, b, c, d, e, f] t (0, 0)) :=
 st1_heap (st1_heap (st1_heap (st1_heap (st1_heap (st1_heap h 0 a) 1 b) 2 c) 3 d) 4 e) 5 f
theorem below_st6 {B : Nat} {w0 w : World} {g : Nat} (h : Below B w0 w) (hg : B ≤ g) (a b c d e f : Value) : Below B w0 ((((((w.setCell ⟨g, 0, none⟩ a).setCell ⟨g, 1, none⟩ b).setCell ⟨g, 2, none⟩ c).setCell ⟨g, 3, none⟩ d).setCell ⟨g, 4, none⟩ e).setCell ⟨g, 5, none⟩ f) :=
 (((((h.setCell (p := ⟨g, 0, none⟩) hg _).setCell (p := ⟨g, 1, none⟩) hg _).setCell (p := ⟨g, 2, none⟩) hg _).setCell (p := ⟨g, 3, none⟩) hg _).setCell (p := ⟨g, 4, none⟩) hg _).setCell (p := ⟨g, 5, none⟩) hg _
section
variable {k : PK} {w0 w : World} {vt vo : Value} {s : Oc} {dn : Bool} {fs : List Kf} {f g : Kf}
theorem step_ret {m : Md} {inp : List Int} {K : Bk} (hb : (pk m f.n).blks.getD f.b default = K) (hl : f.i = K.ins.length) (hf : K.fin = 3) : stepM m inp ⟨stkF (fs ++ [f]), false, s⟩ = backM m (stkF fs) (if K.a ≠ -1 then rg f.regs K.a else 0) s := by
 subst hb
 rw [stkF_snoc]
 exact (if_pos hl).trans (if_pos hf)
theorem step_go {m : Md} {inp : List Int} {K : Bk} (hb : (pk m f.n).blks.getD f.b default = K) (hl : f.i = K.ins.length) (hf : K.fin ≠ 3) : stepM m inp ⟨stkF (fs ++ [f]), false, s⟩ = ⟨stkF (fs ++ [{ f with b := (if K.fin = 2 ∧ rg f.regs K.a = 0 then K.els else K.to).toNat, i := 0 }]), false, s⟩ := by
 subst hb
 rw [stkF_snoc, stkF_snoc]
 exact (if_pos hl).trans (if_neg hf)
theorem backM_nil (m : Md) (v : Int) (s : Oc) : backM m (stkF []) v s = ⟨[], false, { s with exit := v % 256 }⟩ := rfl
theorem backM_cons (m : Md) (v : Int) (s : Oc) (g : Kf) : backM m (stkF (fs ++ [g])) v s = ⟨stkF (fs ++ [backTop m g v]), false, s⟩ := by
 rw [stkF_snoc, stkF_snoc]
 by_cases hd : (((pk m g.n).blks.getD g.b default).ins.getD (g.i - 1) default).d ≠ -1
 ·have e1 : backTop m g v = { g with regs := g.regs.set (((pk m g.n).blks.getD g.b default).ins.getD (g.i - 1) default).d.toNat v } := if_pos hd
  rw [e1]
  exact congrArg (fun x => Ms.mk (x :: stkF fs) false s) (if_pos hd)
 ·have e1 : backTop m g v = g := if_neg hd
  rw [e1]
  exact congrArg (fun x => Ms.mk (x :: stkF fs) false s) (if_neg hd)
theorem mdOk_in {m : Md} (h : MdOk m) {n b i : Nat} (hn : n < m.procs.length) (hb : b < (pk m n).blks.length) (hi : i < ((pk m n).blks.getD b default).ins.length) : InOk (((pk m n).blks.getD b default).ins.getD i default) := by
 have h1 : pk m n ∈ m.procs := by unfold pk; simp [List.getD, hn]
 have h2 := (h.procs _ h1).blks ((pk m n).blks.getD b default) (by simp [List.getD, hb])
 obtain ⟨K, hK⟩ : ∃ K, (pk m n).blks.getD b default = K := ⟨_, rfl⟩
 rw [hK] at h2 hi ⊢
 exact h2.ins _ (by simp [List.getD, hi])
theorem slL_getD (l : List Sl) (n k : Nat) (h : k < n) : (slL l n).getD k 0 = slE l k := by unfold slL; simp [List.getD, h]
theorem grown_trans_below {w w1 w3 : World} {row : Option Nat} (hg : w.grownBy w1 row) (hb : Below w1.heap.size w1 w3) : w.grownBy w3 row :=
 ⟨hb.os.trans hg.os, hb.tape.trans hg.tape, hb.output.trans hg.output, Nat.le_trans hg.size hb.size, fun k hk hr => (hb.block k (Nat.lt_of_lt_of_le hk hg.size)).trans (hg.block k hk hr)⟩
theorem Pm.app0 {w1 : World} (h : Pm k w vt vo s dn fs) (hg : w.grownBy w1 vo.ownBlock) : w1.cell? ⟨k.br, 8, none⟩ = some vo ∧ w1.frozen? ⟨k.br, 8, none⟩ = false ∧ k.br < w1.heap.size := by
 have bx1 := h.bx.kept hg (rows_ne h.bx h.oo (by decide))
 exact ⟨bx1.cellAt 8 (by decide), bx1.frozenAt 8, (own_lt bx1 rfl).2⟩
theorem stkF_new (fs : List Kf) (n bg : Nat) (regs : List Int) (low : Int) : (⟨n, regs, low, 0, 0⟩ : Fr) :: stkF fs = stkF (fs ++ [⟨n, bg, regs, low, 0, 0⟩]) := by rw [stkF_snoc]; rfl
theorem step_call {m : Md} {inp : List Int} {K : Bk} {I : In} (hb : (pk m f.n).blks.getD f.b default = K) (hl : f.i ≠ K.ins.length) (hi : K.ins.getD f.i default = I) (h9 : I.op = 9) : stepM m inp ⟨stkF (fs ++ [f]), false, s⟩ = enterM m (stkF (fs ++ [{ f with i := f.i + 1 }])) I.obj.toNat (I.args.map (rg f.regs)) f.low s := by
 subst hb
 subst hi
 rw [stkF_snoc, stkF_snoc]
 exact (if_neg hl).trans (if_pos h9)
theorem step_some {m : Md} {inp : List Int} {K : Bk} {I : In} {regs : List Int} {s' : Oc} (hb : (pk m f.n).blks.getD f.b default = K) (hl : f.i ≠ K.ins.length) (hi : K.ins.getD f.i default = I) (h9 : I.op ≠ 9) (hx : insM m inp (pk m f.n) f.low I f.regs s = some (regs, s')) :
  stepM m inp ⟨stkF (fs ++ [f]), false, s⟩ = ⟨stkF (fs ++ [{ f with i := f.i + 1, regs := regs }]), false, s'⟩ := by
 subst hb
 subst hi
 rw [stkF_snoc, stkF_snoc]
 refine (if_neg hl).trans ((if_neg h9).trans ?_)
 show (match insM m inp (pk m f.n) f.low (((pk m f.n).blks.getD f.b default).ins.getD f.i default) f.regs s with | none => _ | some (regs, s) => _) = _
 rw [hx]
 rfl
theorem step_none {m : Md} {inp : List Int} {K : Bk} {I : In} (hb : (pk m f.n).blks.getD f.b default = K) (hl : f.i ≠ K.ins.length) (hi : K.ins.getD f.i default = I) (h9 : I.op ≠ 9) (hx : insM m inp (pk m f.n) f.low I f.regs s = none) :
  stepM m inp ⟨stkF (fs ++ [f]), false, s⟩ = ⟨stkF (fs ++ [{ f with i := f.i + 1 }]), true, { s with e := 12 }⟩ := by
 subst hb
 subst hi
 rw [stkF_snoc, stkF_snoc]
 refine (if_neg hl).trans ((if_neg h9).trans ?_)
 show (match insM m inp (pk m f.n) f.low (((pk m f.n).blks.getD f.b default).ins.getD f.i default) f.regs s with | none => _ | some (regs, s) => _) = _
 rw [hx]
 rfl
theorem fin_snoc (s : Oc) (x : Kf) : Ms.fin ⟨stkF (fs ++ [x]), false, s⟩ = false := by rw [stkF_snoc]; rfl
theorem okI_d {m : Md} {p : Pr} {i : In} (h : okI m p i = true) : i.d = -1 ∨ 0 ≤ i.d ∧ i.d < p.regs := by
 unfold okI at h
 have R : ∀ b, regF p i.d b = true → i.d = -1 ∨ 0 ≤ i.d ∧ i.d < p.regs := fun b hb => by
  unfold regF at hb
  cases b
  ·exact .inl (by simpa using hb)
  ·exact .inr (by simpa using hb)
 simp only [Bool.and_eq_true] at h
 by_cases h9 : i.op = 9
 ·rw [if_pos h9] at h
  simp only [callF, Bool.and_eq_true] at h
  exact R _ h.2.1.2.2.2.1
 ·rw [if_neg h9] at h
  simp only [Bool.and_eq_true] at h
  exact R _ h.2.1.1
theorem step_c {bt c L N : Nat} (h : Pm k w (.slice (some ⟨bt, 0, none⟩) (L + 1) c) vo s false (fs ++ [f])) (hL : fs.length = L) (hok : okM k.m = true) (hmd : MdOk k.m) (hI : MInv k.m N ⟨stkF (fs ++ [f]), false, s⟩) (hN : N ≤ 50000) (hen : k.en = enM k.m) (hen2 : k.en ≤ 65536) (hil : k.inp.length ≤ 1000000) (hiw : ∀ x ∈ k.inp, 0 ≤ x ∧ x < 4294967296) :
  Calls Try.prog 64 #[.pointer (some ⟨k.br, 0, none⟩)] w fun e w' => e = .returned (.tuple #[]) ∧ StepQ k (stepM k.m k.inp ⟨stkF (fs ++ [f]), false, s⟩) w' := by
 obtain ⟨M, hM⟩ : ∃ M, stepM k.m k.inp ⟨stkF (fs ++ [f]), false, s⟩ = M := ⟨_, rfl⟩
 rw [hM]
 have HM := Lib.hid hM
 clear hM
 have hgf : GoodFr k.m f.fr := hI.fr _ (by rw [stkF_snoc]; exact List.mem_cons_self)
 have hgk := hgf.k
 obtain ⟨vg, vd, vp, hme, hvg, hvd, hvp⟩ := h.md
 simp only [Value.agg.injEq, Array.mk.injEq, List.cons.injEq] at hme
 obtain ⟨-, -, hme, -, -⟩ := hme
 have HME := Lib.hid hme
 clear hvg hvd hme
 have hP := okM_proc hok hgk.n
 have hH := okP_head hP
 have hB := okP_blk hP hgk.b
 obtain ⟨ap, cp, rfl, hp1, hp2, -⟩ := id hvp
 obtain ⟨bp, op, tnm, tvo, tvb, hap, hto, htb, t0, t1, t2, t3, t4, t5⟩ := (RdPrs.at6 hvp).2 f.n hgk.n
 subst hap
 have hpk : k.m.procs.getD f.n default = pk k.m f.n := rfl
 rw [hpk] at hto htb t1 t2 t3
 obtain ⟨T, hT0⟩ : ∃ T, pk k.m f.n = T := ⟨_, rfl⟩
 have hgb := hgk.b
 have hgi := hgk.i
 have hgr := hgk.r
 have hgn := hgk.n
 rw [hT0] at hto htb t1 t2 t3 hH hB hP hgb hgi hgr
 obtain ⟨tao, tco, rfl, hto1, hto2, -⟩ := id hto
 obtain ⟨tab, tcb, rfl, htb1, htb2, -⟩ := id htb
 obtain ⟨bb, ob, vi, hab, hvi, u0, u1, u2, u3, u4⟩ := (RdBks.at htb).2 f.b hgb
 subst hab
 obtain ⟨K, hK0⟩ : ∃ K, T.blks.getD f.b default = K := ⟨_, rfl⟩
 rw [hK0] at hvi u1 u2 u3 u4 hB hgi
 obtain ⟨ai, ci, rfl, hi1, hi2, -⟩ := id hvi
 have HK0' : Hid ((pk k.m f.n).blks.getD f.b default = K) := by show _ = _; rw [hT0]; exact hK0
 have HT0 := Lib.hid hT0
 have HK0 := Lib.hid hK0
 clear hT0 hK0 hpk
 unfold maxLen at hp2 hto2 htb2 hi2
 obtain ⟨⟨g0, g1, g2, g3, g4⟩, lbt, hc1, hc2, fzt⟩ := h.top hL
 have c5 := h.c5
 have c2 := h.c2
 have lbr := h.brLt.2
 rw [HME.out] at c2
 have HPA := Lib.hid (fun w' (hw : Below w.heap.size w w') => h.grow hw)
 have HWP := Lib.hid (fun w' (hw : Below w.heap.size w w') => Ext.below (h.grow hw).below)
 obtain ⟨W1, hW1⟩ : ∃ W1, W1 = w.alloc (.cells #[.int .i64 f.n, .slice (some ⟨f.bg, 0, none⟩) f.regs.length f.regs.length, .int .i64 f.low, .int .i64 f.b, .int .i64 f.i] 160) := ⟨_, rfl⟩
 have HB1 := Lib.hid (heap_of_alloc w _ _ hW1)
 have B1 : Hid (Below w.heap.size w W1) := by rw [hW1]; exact below_alloc w _
 have lb1 : w.heap.size < W1.heap.size := (Array.getElem?_eq_some_iff.1 HB1.out).1
 go_enter Try.func64, Try.ntmps64
 go_upto_region 2 with (fail)
 rw [← hW1]
 clear hW1 g0 g1 g2 g3 g4 fzt c5
 have x := fun j => cell_of_heap HB1.out j
 have x0 := x 0
 simp only [List.getElem?_toArray, List.getElem?_cons_zero, List.getElem?_cons_succ] at x0
 clear x
 replace c2 := Ext.below B1.out _ _ c2
 have hex := HWP.out W1 B1.out
 replace t0 := hex _ _ t0
 replace t1 := hex _ _ t1
 replace t2 := hex _ _ t2
 replace t3 := hex _ _ t3
 replace t4 := hex _ _ t4
 replace t5 := hex _ _ t5
 have lbp : bp < W1.heap.size := World.block_lt_of_cell? W1 _ t1
 have lbr1 : k.br < W1.heap.size := by omega
 clear hex
 refine wp_region_junk (fun _ => True) (by kernel_rfl) ?_
 refine J_mobs [0, 1, 2, 3, 4, 5, 6, 7, 8] _ _ _ _ (by kernel_rfl) ?_
 simp only [List.map_cons, List.map_nil, List.getElem?_toArray, List.getElem?_cons_succ, List.getElem?_cons_zero, Option.getD_some, List.size_toArray, List.length_cons, List.length_nil, Nat.reduceAdd, Nat.reduceSub]
 repeat (go_big_quiet_step (fail))
 refine wpQuiet_nil ?_
 refine J_loud1 9 _ rfl (by kernel_rfl) ?_
 simp only [List.getElem_toArray, List.getElem_cons_succ, List.getElem_cons_zero]
 intro wj hj
 go_wp2_with fail
 refine ⟨KeepX.below (below_alloc _ _), ?_⟩
 obtain ⟨W2, hW2⟩ : ∃ W2, W2 = wj.alloc (.cells #[.string ⟨#[]⟩, .bool false, .int .i64 0, .int .i64 0, .slice none 0 0, .slice none 0 0] 113) := ⟨_, rfl⟩
 rw [← hW2]
 have HZ := Lib.hid (heap_of_alloc wj _ _ hW2)
 have B2 : Hid (Below W1.heap.size W1 W2) := by rw [hW2]; exact hj.trans ((below_alloc wj _).mono hj.size)
 obtain ⟨bq, hbq⟩ : ∃ b, b = wj.heap.size := ⟨_, rfl⟩
 rw [← hbq] at HZ ⊢
 have hbq1 : W1.heap.size ≤ bq := by rw [hbq]; exact hj.size
 clear hW2 hj hbq c2 t0 t1 t2 t3 t4 t5 x0
 refine J_last 10 _ rfl (by kernel_rfl) ?_
 simp only [List.getElem_toArray, List.getElem_cons_succ, List.getElem_cons_zero]
 intro wj hj
 have HZ := Lib.hid ((hj.block bq (Array.getElem?_eq_some_iff.1 HZ.out).1).trans HZ.out)
 have Bj : Hid (Below W1.heap.size W1 wj) := B2.out.trans (hj.mono B2.out.size)
 have e := fun j => cell_of_heap HZ.out j
 have e0 := e 0
 have e1 := e 1
 have e2 := e 2
 have e3 := e 3
 have e4 := e 4
 have e5 := e 5
 simp only [List.getElem?_toArray, List.getElem?_cons_zero, List.getElem?_cons_succ] at e0 e1 e2 e3 e4 e5
 have fe := frozen_of_heap HZ.out
 have lbc : bq < wj.heap.size := (Array.getElem?_eq_some_iff.1 HZ.out).1
 clear e hj
 go_wp2_with fail
 have HZ2 := Lib.hid (st6_heap HZ.out (.string tnm) (.bool T.void) (.int .i64 T.params) (.int .i64 T.regs) (.slice tao T.objs.length tco) (.slice (some ⟨bb, ob, none⟩) T.blks.length tcb))
 have B3 := Lib.hid (below_st6 Bj.out hbq1 (.string tnm) (.bool T.void) (.int .i64 T.params) (.int .i64 T.regs) (.slice tao T.objs.length tco) (.slice (some ⟨bb, ob, none⟩) T.blks.length tcb))
 refine J_done (by kernel_rfl) (fun wk hk => ?_) _
 have HPX := Lib.hid ((hk.block bq (Array.getElem?_eq_some_iff.1 HZ2.out).1).trans HZ2.out)
 have B4 := Lib.hid (B3.out.trans (hk.mono B3.out.size))
 clear e0 e1 e2 e3 e4 e5 fe HZ2 B3 hk
 have HCX := Lib.hid ((B4.out.block w.heap.size lb1).trans HB1.out)
 have B5 : Hid (Below w.heap.size w wk) := B1.out.trans (B4.out.mono B1.out.size)
 have lk1 : w.heap.size < wk.heap.size := (Array.getElem?_eq_some_iff.1 HCX.out).1
 have lk2 : bq < wk.heap.size := (Array.getElem?_eq_some_iff.1 HPX.out).1
 have hex := HWP.out wk B5.out
 replace u0 := hex _ _ u0
 replace u1 := hex _ _ u1
 replace u2 := hex _ _ u2
 replace u3 := hex _ _ u3
 replace u4 := hex _ _ u4
 have lbb : bb < wk.heap.size := World.block_lt_of_cell? wk _ u1
 have x := fun j => cell_of_heap HCX.out j
 have x3 := x 3
 have p := fun j => cell_of_heap HPX.out j
 have p5 := p 5
 simp only [List.getElem?_toArray, List.getElem?_cons_zero, List.getElem?_cons_succ] at x3 p5
 obtain ⟨W6, hW6⟩ : ∃ W6, W6 = wk.alloc (.cells #[.slice ai K.ins.length ci, .int .i64 K.fin, .int .i64 K.a, .int .i64 K.to, .int .i64 K.els] 116) := ⟨_, rfl⟩
 have HBX := Lib.hid (heap_of_alloc wk _ _ hW6)
 have B6 : Hid (Below wk.heap.size wk W6) := by rw [hW6]; exact below_alloc wk _
 go_upto_region 4 with (fail)
 rw [← hW6]
 clear hW6 u0 u1 u2 u3 u4 x p x3 p5 hex
 have HCX := Lib.hid ((B6.out.block w.heap.size lk1).trans HCX.out)
 have HPX := Lib.hid ((B6.out.block bq lk2).trans HPX.out)
 have B7 : Hid (Below w.heap.size w W6) := B5.out.trans (B6.out.mono B5.out.size)
 obtain ⟨bk, hbk⟩ : ∃ b, b = wk.heap.size := ⟨_, rfl⟩
 rw [← hbk] at HBX ⊢
 have l1 : w.heap.size < W6.heap.size := (Array.getElem?_eq_some_iff.1 HCX.out).1
 have l2 : bq < W6.heap.size := (Array.getElem?_eq_some_iff.1 HPX.out).1
 have l3 : bk < W6.heap.size := (Array.getElem?_eq_some_iff.1 HBX.out).1
 have hbk1 : w.heap.size < bk := by omega
 have hbq2 : w.heap.size < bq := by omega
 clear hbk
 have HP6 := Lib.hid (HPA.out W6 B7.out)
 have x := fun j => cell_of_heap HCX.out j
 have x1 := x 1
 have x2 := x 2
 have x3 := x 3
 have x4 := x 4
 have y := fun j => cell_of_heap HBX.out j
 have y0 := y 0
 have y1 := y 1
 have y2 := y 2
 have y3 := y 3
 have y4 := y 4
 simp only [List.getElem?_toArray, List.getElem?_cons_zero, List.getElem?_cons_succ] at x1 x2 x3 x4 y0 y1 y2 y3 y4
 clear x y B1 B2 B4 B5 B6 Bj
 by_cases hi : f.i = K.ins.length
 ·have hHI := Lib.hid hi
  rw [hi] at x4
  have HEN := Lib.hid (end_cases (okB_end hB))
  have HMS := Lib.hid hI
  have hrw := hgf.w
  have hrg : ∀ n, 0 ≤ rg f.regs n ∧ rg f.regs n < 4294967296 := rg_words hgf.w
  clear hi
  rcases HEN.out with ⟨q1, q2, q3⟩ | ⟨q1, q2, q3, q4, q5, q6, q7⟩ | ⟨q1, q2⟩
  ·have HX := Lib.hid (end_go HP6.out hL K (.slice ai K.ins.length ci) K.to.toNat (.inl ⟨q1, by omega⟩))
   have HME2 : Hid (M = ⟨stkF (fs ++ [{ f with b := K.to.toNat, i := 0 }]), false, s⟩) := by
    show _ = _
    rw [← HM.out, step_go HK0'.out hHI.out (by omega), if_neg (by omega)]
   clear q1 q2 q3
   go_wp2_with fail
   refine HX.out.mono ?_
   rintro e w5 ⟨rfl, hq⟩
   go_wp2_with fail
   refine bodyPost_ret (results_none rfl _ _ _) rfl ?_
   rw [HME2.out]
   exact ⟨rfl, .slice (some ⟨bt, 0, none⟩) (L + 1) c, vo, _, by rw [fin_snoc]; exact hq, rfl⟩
  ·have HX := Lib.hid (end_go HP6.out hL K (.slice ai K.ins.length ci) (if rg f.regs K.a = 0 then K.els else K.to).toNat (.inr ⟨q1, q6, by omega, by split <;> omega⟩))
   have e2 : (if K.fin = 2 ∧ rg f.regs K.a = 0 then K.els else K.to) = (if rg f.regs K.a = 0 then K.els else K.to) := by simp only [q1, true_and]
   have HME2 : Hid (M = ⟨stkF (fs ++ [{ f with b := (if rg f.regs K.a = 0 then K.els else K.to).toNat, i := 0 }]), false, s⟩) := by
    show _ = _
    rw [← HM.out, step_go HK0'.out hHI.out (by omega), e2]
   clear q1 q2 q3 q4 q5 q6 q7 e2
   go_wp2_with fail
   refine HX.out.mono ?_
   rintro e w5 ⟨rfl, hq⟩
   go_wp2_with fail
   refine bodyPost_ret (results_none rfl _ _ _) rfl ?_
   rw [HME2.out]
   exact ⟨rfl, .slice (some ⟨bt, 0, none⟩) (L + 1) c, vo, _, by rw [fin_snoc]; exact hq, rfl⟩
  ·have hv : 0 ≤ (if K.a ≠ -1 then rg f.regs K.a else 0) ∧ (if K.a ≠ -1 then rg f.regs K.a else 0) < 4294967296 := by
    split
    ·exact hrg _
    ·exact ⟨by decide, by decide⟩
   have HBK : Hid (∀ wj, Below W6.heap.size W6 wj → Calls Try.prog 131 #[.pointer (some ⟨k.br, 0, none⟩), .int .u32 (if K.a ≠ -1 then rg f.regs K.a else 0)] wj fun e w' => e = .returned (.tuple #[]) ∧ StepQ k (backM k.m (stkF fs) (if K.a ≠ -1 then rg f.regs K.a else 0) s) w') := fun wj hwj => by
    have hpj := HP6.out.grow hwj
    rcases List.eq_nil_or_concat fs with rfl | ⟨fs', g, rfl⟩
    ·obtain rfl : L = 0 := by simpa using hL.symm
     refine (back_nil hpj _ hv.1 hv.2).mono ?_
     rintro e w5 ⟨rfl, vt', hq⟩
     rw [backM_nil]
     exact ⟨rfl, vt', vo, [], hq, rfl⟩
    ·rw [List.concat_eq_append] at *
     obtain ⟨L', rfl⟩ : ∃ L', L = L' + 1 := ⟨fs'.length, by simpa using hL.symm⟩
     have hL' : fs'.length = L' := by simpa using hL
     have hgg : GoodFr k.m g.fr := HMS.out.fr _ (by rw [stkF_snoc, stkF_snoc]; simp)
     have hup : 1 ≤ g.i := HMS.out.up g.fr (by rw [stkF_snoc, stkF_snoc]; simp)
     have hbb := okB_ins (okP_blk (okM_proc hok hgg.n) hgg.b) (i := g.i - 1) (by have := hgg.i; show g.i - 1 < _; have h2 : g.fr.i = g.i := rfl; omega)
     have hdd := okI_d hbb
     have hrr := hgg.r
     refine (back_cons hpj hL' _ hv.1 hv.2 hgg.k hup (by rcases hdd with h | ⟨h, h'⟩; exact .inl h; exact .inr ⟨h, by rw [show (g.regs.length : Int) = (pk k.m g.n).regs from hrr]; exact h'⟩)).mono ?_
     rintro e w5 ⟨rfl, hq⟩
     rw [backM_cons]
     exact ⟨rfl, .slice (some ⟨bt, 0, none⟩) (L' + 1) c, vo, _, by rw [fin_snoc]; exact hq, rfl⟩
   have HX := Lib.hid (end_ret HP6.out hL K (.slice ai K.ins.length ci) q1 (by rcases q2 with h | ⟨h, h'⟩; exact .inl h; exact .inr ⟨h, by omega⟩) _ HBK.out)
   have HME2 : Hid (M = backM k.m (stkF fs) (if K.a ≠ -1 then rg f.regs K.a else 0) s) := by
    show _ = _
    rw [← HM.out, step_ret HK0'.out hHI.out q1]
   clear q1 q2 hv
   go_wp2_with fail
   refine HX.out.mono ?_
   rintro e w5 ⟨rfl, hq⟩
   go_wp2_with fail
   refine bodyPost_ret (results_none rfl _ _ _) rfl ?_
   rw [HME2.out]
   exact ⟨rfl, hq⟩
 ·have hlt : f.i < K.ins.length := by omega
  have hNL := Lib.hid hi
  have hOK := okB_ins hB hlt
  obtain ⟨b3, o3, va, ha3, -, hva, z0, z1, z2, z3, z4, z5, z6, z7, z8, z9, z10⟩ := (RdIns.at hvi).2 f.i hlt
  subst ha3
  obtain ⟨I, hI0⟩ : ∃ I, K.ins.getD f.i default = I := ⟨_, rfl⟩
  rw [hI0] at hOK hva z0 z1 z2 z3 z4 z5 z6 z7 z8 z10
  have HI0 := Lib.hid hI0
  clear hI0 hi
  have g4 : ((f.i : Int) == (K.ins.length : Int)) = false := beq_eq_false_iff_ne.2 (by omega)
  have g5 : decide (K.ins.length ≤ f.i) = false := decide_eq_false (by omega)
  have hIok : InOk I := by
   have := mdOk_in hmd hgn (b := f.b) (i := f.i) (by rw [HT0.out]; exact hgb) (by rw [HK0'.out]; exact hlt)
   rw [HK0'.out, HI0.out] at this
   exact this
  obtain ⟨op0, idd, ia, ib, ifn, iobj, ioff, isz, inum, iargs, ilog⟩ := I
  dsimp only at *
  obtain ⟨aa, ca, rfl, haa1, haa2, -⟩ := id hva
  unfold maxLen at haa2
  have hex := HWP.out W6 B7.out
  replace z0 := hex _ _ z0
  replace z1 := hex _ _ z1
  replace z2 := hex _ _ z2
  replace z3 := hex _ _ z3
  replace z4 := hex _ _ z4
  replace z5 := hex _ _ z5
  replace z6 := hex _ _ z6
  replace z7 := hex _ _ z7
  replace z8 := hex _ _ z8
  replace z9 := hex _ _ z9
  replace z10 := hex _ _ z10
  have lb3 : b3 < W6.heap.size := World.block_lt_of_cell? W6 _ z0
  obtain ⟨W7, hW7⟩ : ∃ W7, W7 = W6.alloc (.cells #[.int .i64 op0, .int .i64 idd, .int .i64 ia, .int .i64 ib, .int .i64 ifn, .int .i64 iobj, .int .i64 ioff, .int .i64 isz, .int .u32 inum, .slice aa iargs.length ca, .bool ilog] 119) := ⟨_, rfl⟩
  have HI7 := Lib.hid (heap_of_alloc W6 _ _ hW7)
  have B8 : Hid (Below W6.heap.size W6 W7) := by rw [hW7]; exact below_alloc W6 _
  go_upto_region 7 with (fail)
  rw [← hW7]
  obtain ⟨bi, hbi⟩ : ∃ b, b = W6.heap.size := ⟨_, rfl⟩
  rw [← hbi] at HI7 ⊢
  have hbi1 : bk < bi := by omega
  have HCX := Lib.hid ((B8.out.block w.heap.size l1).trans HCX.out)
  have HPX := Lib.hid ((B8.out.block bq l2).trans HPX.out)
  have B9 : Hid (Below w.heap.size w W7) := B7.out.trans (B8.out.mono B7.out.size)
  clear hW7 hbi z0 z1 z2 z3 z4 z5 z6 z7 z8 z9 z10 hex x1 x2 x3 x4 y0 y1 y2 y3 y4 HBX g4 g5
  have HP7 := Lib.hid (HPA.out W7 B9.out)
  obtain ⟨⟨q0, q1, q2, q3, q4⟩, lbt7, -, -, fzt⟩ := HP7.out.top hL
  have c5 := HP7.out.c5
  have lbr7 := HP7.out.brLt.2
  have x := fun j => cell_of_heap HCX.out j
  have x4 := x 4
  simp only [List.getElem?_toArray, List.getElem?_cons_zero, List.getElem?_cons_succ] at x4
  have l7c : w.heap.size < W7.heap.size := (Array.getElem?_eq_some_iff.1 HCX.out).1
  clear x q0 q1 q2 q3
  refine wp_region_junk (fun _ => True) (by kernel_rfl) ?_
  refine J_mobs [0, 1, 2, 3, 4, 5, 6, 7, 8, 9] _ _ _ _ (by kernel_rfl) ?_
  simp only [List.map_cons, List.map_nil, List.getElem?_toArray, List.getElem?_cons_succ, List.getElem?_cons_zero, Option.getD_some, List.size_toArray, List.length_cons, List.length_nil, Nat.reduceAdd, Nat.reduceSub]
  repeat (go_big_quiet_step (fail))
  refine wpQuiet_nil ?_
  refine J_last 10 _ rfl (by kernel_rfl) ?_
  simp only [List.getElem_toArray, List.getElem_cons_succ, List.getElem_cons_zero]
  intro wj hj
  have Bj2 : Below w.heap.size w wj := B9.out.trans (hj.mono B9.out.size)
  obtain ⟨⟨-, -, -, -, q4j⟩, lbtj, -, -, fztj⟩ := (h.grow Bj2).top hL
  have fzj4 := fztj (L * 5 + 4)
  have HPj := Lib.hid ((h.grow Bj2).setTop hL 4 (by decide) (.int .i64 ((f.i : Int) + 1)) (f' := { f with i := f.i + 1 }) (by simp [Kf.cells]) rfl rfl)
  have HIj := Lib.hid ((heap_setCell_other wj ⟨bt, L * 5 + 4, none⟩ bi (.int .i64 ((f.i : Int) + 1)) (by simp only; omega)).trans ((hj.block bi (Array.getElem?_eq_some_iff.1 HI7.out).1).trans HI7.out))
  have HCj := Lib.hid ((heap_setCell_other wj ⟨bt, L * 5 + 4, none⟩ w.heap.size (.int .i64 ((f.i : Int) + 1)) (by simp only; omega)).trans ((hj.block w.heap.size l7c).trans HCX.out))
  have HPXj := Lib.hid ((heap_setCell_other wj ⟨bt, L * 5 + 4, none⟩ bq (.int .i64 ((f.i : Int) + 1)) (by simp only; omega)).trans ((hj.block bq (Array.getElem?_eq_some_iff.1 HPX.out).1).trans HPX.out))
  clear fztj fzt
  go_wp2_with fail
  refine J_done (by kernel_rfl) (fun W8 hk => ?_) _
  have HI8 := Lib.hid ((hk.block bi (Array.getElem?_eq_some_iff.1 HIj.out).1).trans HIj.out)
  have HC8 := Lib.hid ((hk.block w.heap.size (Array.getElem?_eq_some_iff.1 HCj.out).1).trans HCj.out)
  have HX8 := Lib.hid ((hk.block bq (Array.getElem?_eq_some_iff.1 HPXj.out).1).trans HPXj.out)
  have HP8 := Lib.hid (HPj.out.grow hk)
  have l8i : bi < W8.heap.size := (Array.getElem?_eq_some_iff.1 HI8.out).1
  have l8c : w.heap.size < W8.heap.size := (Array.getElem?_eq_some_iff.1 HC8.out).1
  have l8q : bq < W8.heap.size := (Array.getElem?_eq_some_iff.1 HX8.out).1
  clear c5 x4 q4 q4j fzj4 hk hj HIj HCj HPXj HPj
  have hfb : f.bg < w.heap.size := h.fr.lt.2
  have hw8 : w.heap.size ≤ W8.heap.size := Nat.le_of_lt l8c
  have hbi2 : w.heap.size < bi := by omega
  have HOLD : Hid (Old k w W8 (.slice (some ⟨bt, 0, none⟩) (L + 1) c) vo (fs ++ [{ f with i := f.i + 1 }])) := by
   refine ⟨hw8, h.brLt.2, h.bmLt.2, fun g hg => (own_lt h.tt hg).2, fun g hg => (own_lt h.oo hg).2, fun g hg => ?_⟩
   rcases List.mem_append.1 hg with hg | hg
   ·exact (h.rr g (List.mem_append_left _ hg)).lt.2
   ·rw [List.mem_singleton.1 hg]; exact hfb
  have hrw := hgf.w
  have hlo := hgf.l
  have hflow : f.fr.low = f.low := rfl
  have hfregs : f.fr.regs = f.regs := rfl
  rw [hfregs] at hrw
  rw [hflow] at hlo
  have HWD : Hid (∀ n : Nat, 0 ≤ f.regs.getD n 0 ∧ f.regs.getD n 0 < 4294967296) := fun n => by
   by_cases hn : n < f.regs.length
   ·exact hrw _ (by simp [List.getD, hn])
   ·have : f.regs.getD n 0 = 0 := by simp [List.getD, Nat.le_of_not_lt hn]
    omega
  have HRW := Lib.hid hrw
  have HCX8 : Hid (∀ n : Nat, n < f.regs.length → W8.cell? ⟨f.bg, n, none⟩ = some (.int .u32 (f.regs.getD n 0))) := fun n hn => HP8.out.fr.cX n hn
  have hcap : f.regs.length ≤ 9223372036854775807 := h.fr.cap
  have lfb8 : f.bg < W8.heap.size := by omega
  have hnum := hIok.num
  dsimp only at hnum
  unfold okI at hOK
  simp only [Bool.and_eq_true, decide_eq_true_eq] at hOK
  obtain ⟨⟨ho1, ho2, -⟩, hOK⟩ := hOK
  have HMS := Lib.hid hI
  have HVA := Lib.hid hva
  clear hflow hfregs hrw hIok hI hgf hgk hP hB hva hvp htb hvi
  by_cases h9 : op0 = 9
  ·obtain rfl : op0 = 9 := h9
   rw [if_pos rfl] at hOK
   simp only [Bool.and_eq_true] at hOK
   obtain ⟨hc, -, -⟩ := hOK
   unfold callF at hc
   simp only [Bool.and_eq_true, decide_eq_true_eq] at hc
   obtain ⟨k1, k2, k3, -, k5⟩ := hc
   rw [List.all_eq_true] at k5
   obtain ⟨no, rfl⟩ := Int.eq_ofNat_of_zero_le k1
   have hno : no < k.m.procs.length := by omega
   rw [Int.toNat_natCast] at k3
   have hHn := okP_head (okM_proc hok hno)
   have hall : iargs.length ≤ 6 := by have := hHn.p6; have h3 : (pk k.m no).params = (k.m.procs.getD no default).params := rfl; omega
   have HAR : Hid (∀ j, j < iargs.length → 0 ≤ iargs.getD j 0 ∧ iargs.getD j 0 < (f.regs.length : Int)) := fun j hj => by
    have h3 := regF_yes (k5 (iargs.getD j 0) (by simp [List.getD, hj]))
    have := hgr
    omega
   have HENM : Hid (M = enterM k.m (stkF (fs ++ [{ f with i := f.i + 1 }])) no (iargs.map (rg f.regs)) f.low s) := by
    have := step_call (m := k.m) (inp := k.inp) (s := s) (fs := fs) HK0'.out hNL.out HI0.out rfl
    dsimp only at this
    rw [Int.toNat_natCast] at this
    exact HM.out.symm.trans this
   have HAT := Lib.hid (RdI.at' HVA.out).2
   have HE8 : Hid (Ext k.wp W8) := Ext.below HP8.out.below
   have hd1 := HMS.out.d1
   dsimp only at hd1
   rw [stkF_len, List.length_append, List.length_singleton, hL] at hd1
   have hG := okM_globs hok
   have hgE := slE_small hG.1 (by have := hG.2.1; omega) k.m.globs.length (Nat.le_refl _)
   have hen0 : 0 ≤ k.en := by rw [hen]; unfold enM; omega
   have HNP : Hid (Head (pk k.m no)) := hHn
   have HPAR : Hid (((iargs.map (rg f.regs)).length : Int) = (pk k.m no).params) := by show _ = _; rw [List.length_map]; exact k3
   have HWA : Hid (∀ x ∈ iargs.map (rg f.regs), 0 ≤ x ∧ x < 4294967296) := fun x hx => by
    obtain ⟨y, -, rfl⟩ := List.mem_map.1 hx
    exact rg_words HRW.out y
   have HEN := Lib.hid hen
   clear k1 k2 k3 k5 hHn hgr hG hgE hen
   have z := fun j => cell_of_heap HI8.out j
   have z0 := z 0
   have z1 := z 1
   have z2 := z 2
   have z3 := z 3
   have z4 := z 4
   have z5 := z 5
   have z6 := z 6
   have z8 := z 8
   have z9 := z 9
   have y := fun j => cell_of_heap HC8.out j
   have y1 := y 1
   have y2 := y 2
   simp only [List.getElem?_toArray, List.getElem?_cons_zero, List.getElem?_cons_succ] at z0 z1 z2 z3 z4 z5 z6 z8 z9 y1 y2
   clear z y
   go_wp2_with fail
   clear z0 z1 z2 z3 z4 z5 z6 z8 z9 y1 y2
   go_loopw [11, 12] (fun o i wr => ∃ j : Nat, j ≤ iargs.length ∧ i = .int .i64 (j : Int) ∧ Hid (wr.ownsRow W8.heap.size 35 1 o j ((iargs.take j).map fun n => Value.int .u32 (rg f.regs n))) ∧ Hid (Below W8.heap.size W8 wr)) (fun _ i _ => iargs.length - (intOf i).toNat)
   case atStart => exact ⟨0, Nat.zero_le _, rfl, own_nil _ _ _ _, Below.refl _ _⟩
   case round =>
    obtain ⟨j, hjl, rfl, O, B⟩ := hrel
    have HIr := Lib.hid ((B.out.block bi l8i).trans HI8.out)
    have HCr := Lib.hid ((B.out.block w.heap.size l8c).trans HC8.out)
    have lri : bi < wr.heap.size := (Array.getElem?_eq_some_iff.1 HIr.out).1
    have lrc : w.heap.size < wr.heap.size := (Array.getElem?_eq_some_iff.1 HCr.out).1
    have z := fun j => cell_of_heap HIr.out j
    have z0 := z 0
    have z5 := z 5
    have z9 := z 9
    have y := fun j => cell_of_heap HCr.out j
    have y1 := y 1
    have y2 := y 2
    simp only [List.getElem?_toArray, List.getElem?_cons_zero, List.getElem?_cons_succ] at z0 z5 z9 y1 y2
    clear z y
    by_cases hlt2 : j < iargs.length
    ·obtain ⟨ba, oa, rfl, hcA⟩ := HAT.out j hlt2
     have yA := Ext.below B.out _ _ (HE8.out _ _ hcA)
     have lbA8 : ba < W8.heap.size := World.block_lt_of_cell? W8 _ (HE8.out _ _ hcA)
     have lbA : ba < wr.heap.size := World.block_lt_of_cell? wr _ yA
     obtain ⟨hn0, hn1⟩ := HAR.out j hlt2
     have HT2 : Hid ((iargs.take (j + 1)).map (fun n => Value.int .u32 (rg f.regs n)) = (iargs.take j).map (fun n => Value.int .u32 (rg f.regs n)) ++ [.int .u32 (rg f.regs (iargs.getD j 0))]) := by
      show _ = _
      rw [take_snoc _ j hlt2, List.map_append]; rfl
     generalize iargs.getD j 0 = an at *
     obtain ⟨nn, rfl⟩ := Int.eq_ofNat_of_zero_le hn0
     have hrg : rg f.regs (nn : Int) = f.regs.getD nn 0 := by simp [rg]
     rw [hrg] at HT2
     have hnn : nn < f.regs.length := by omega
     have ca := Ext.below B.out _ _ (HCX8.out nn hnn)
     have lfbr : f.bg < wr.heap.size := by have := B.out.size; omega
     generalize f.regs.getD nn 0 = XA at *
     clear hrg hcA
     have hs2 : mB w.heap.size bi f.bg w.heap.size ∨ w.heap.size = ba := .inl (mB1 _ _ _)
     have hs3 : mB w.heap.size bi f.bg bi ∨ bi = ba := .inl (mB2 _ _ _)
     have hs4 : mB w.heap.size bi f.bg f.bg ∨ f.bg = ba := .inl (mB3 _ _ _)
     have hs5 : mB w.heap.size bi f.bg ba ∨ ba = ba := .inr rfl
     have hSB : ∀ b, (mB w.heap.size bi f.bg b ∨ b = ba) → b < W8.heap.size := fun b hb => by
      rcases hb with (rfl | rfl | rfl) | rfl <;> assumption
     have HSB := Lib.hid hSB
     clear hSB
     obtain ⟨ao, co, rfl⟩ := row_shape O.out
     go_wp2_with fail
     refine wp_region_junk (fun b => mB w.heap.size bi f.bg b ∨ b = ba) (by kernel_rfl) ?_
     refine J_mobs [0, 1, 2, 3, 4, 5, 6, 7, 8, 9] _ _ _ _ (by kernel_rfl) ?_
     simp only [List.map_cons, List.map_nil, List.getElem?_toArray, List.getElem?_cons_succ, List.getElem?_cons_zero, Option.getD_some, List.size_toArray, List.length_cons, List.length_nil, Nat.reduceAdd, Nat.reduceSub]
     repeat (go_big_quiet_step (fail))
     refine wpQuiet_nil ?_
     refine J_loud1 10 _ rfl (by kernel_rfl) ?_
     simp only [List.getElem_toArray, List.getElem_cons_succ, List.getElem_cons_zero]
     intro wj hj
     go_wp2_with fail
     refine ⟨KeepX.below (below_alloc _ _), ?_⟩
     have hj0 : Below wr.heap.size wr (wj.alloc (.cells #[.int .u32 XA] 35)) := hj.trans ((below_alloc wj _).mono hj.size)
     have hq := fun j u hu => cell_new1 wj (.int .u32 XA) 35 wj.heap.size rfl j u hu
     clear hj
     generalize hWA : wj.alloc (.cells #[.int .u32 XA] 35) = WA at *
     refine J_loud1 11 _ rfl (by kernel_rfl) ?_
     simp only [List.getElem_toArray, List.getElem_cons_succ, List.getElem_cons_zero]
     intro wj hj
     have hj1 : Below wr.heap.size wr wj := hj0.trans (hj.mono hj0.size)
     have hj2 : Below W8.heap.size W8 wj := B.out.trans (hj1.mono B.out.size)
     refine appG 25 35 infoU32r Try.underlying25 rfl (by decide) (by decide) [.int .u32 XA] rfl (by simp [Value.oneCell']) (own_below O.out hj1) rfl rfl rfl rfl (cell_ext hq hj) (by omega) hj2.size ?_
     intro v2 w2 O2 G2 D2
     obtain ⟨av2, cv2, rfl⟩ := row_shape O2
     have hrow : ∀ g, (Value.slice ao j co).ownBlock = some g → W8.heap.size ≤ g := fun g hg => (own_lt O.out hg).1
     refine ⟨fun b o v hb hv => cell_grown G2 (fun e => by have := HSB.out b hb; have := hrow b e.symm; omega) hv, ?_⟩
     have HO2 := Lib.hid O2
     have HB2 := Lib.hid (below_grown hj2 G2 hj2.size hrow)
     simp only [Act.put, List.setIfInBounds_toArray, List.set_cons_succ, List.set_cons_zero]
     clear hj hj0 hj1 hq hWA hj2 O2 G2 D2 hrow
     refine J_mobs [12] _ _ _ _ (by kernel_rfl) ?_
     simp only [List.map_cons, List.map_nil, List.getElem?_toArray, List.getElem?_cons_succ, List.getElem?_cons_zero, Option.getD_some, List.size_toArray, List.length_cons, List.length_nil, Nat.reduceAdd, Nat.reduceSub]
     repeat (go_big_quiet_step (fail))
     refine wpQuiet_nil ?_
     refine J_done (by kernel_rfl) (fun wk2 hk => ?_) _
     have HO3 : Hid (wk2.ownsRow W8.heap.size 35 1 (.slice av2 (j + 1) cv2) (j + 1) ((iargs.take (j + 1)).map fun n => Value.int .u32 (rg f.regs n))) := by show World.ownsRow _ _ _ _ _ _ _; rw [HT2.out]; exact own_below HO2.out hk
     have HB3 := Lib.hid (HB2.out.trans (hk.mono HB2.out.size))
     clear hk HO2 HB2 z0 z5 z9 y1 y2 yA ca
     go_wp2_with fail
     go_roundw
     case rel => exact ⟨j + 1, by omega, by go_num, HO3, HB3⟩
     case measure => first | (simp [intOf]; done) | (simp [intOf]; omega)
    ·obtain rfl : j = iargs.length := by omega
     have hWr := args_of_own O.out
     obtain ⟨ao, co, rfl⟩ := row_shape O.out
     have hold2 : Old k w wr (.slice (some ⟨bt, 0, none⟩) (L + 1) c) vo (fs ++ [{ f with i := f.i + 1 }]) := ⟨Nat.le_trans hw8 B.out.size, HOLD.out.br, HOLD.out.bm, HOLD.out.tt, HOLD.out.oo, HOLD.out.fr⟩
     have HX := Lib.hid (enter_c (HP8.out.grow B.out) hold2 no (iargs.map (rg f.regs)) _ f.low hno HNP.out hWr HWA.out HPAR.out hlo.1 hlo.2 hen0 (by omega) (by rw [List.length_append, List.length_singleton]; omega))
     clear hWr hold2
     go_wp2_with fail
     refine HX.out.mono ?_
     rintro e w5 ⟨rfl, hs5, hcs⟩
     have HIF := Lib.hid ((hs5.keep bi (Nat.le_of_lt hbi2) lri).trans HIr.out)
     have HCS := Lib.hid hcs
     clear hs5 hcs z0 z5 z9 y1 y2
     have zf := cell_of_heap HIF.out 0
     simp only [List.getElem?_toArray, List.getElem?_cons_zero, List.getElem?_cons_succ] at zf
     have lzf : bi < w5.heap.size := (Array.getElem?_eq_some_iff.1 HIF.out).1
     go_wp2_with fail
     go_end0
     rw [HENM.out]
     rcases HCS.out with ⟨hfull, hp5⟩ | ⟨hnf, vt5, bg5, hp5⟩
     ·have e1 : enterM k.m (stkF (fs ++ [{ f with i := f.i + 1 }])) no (iargs.map (rg f.regs)) f.low s = ⟨stkF (fs ++ [{ f with i := f.i + 1 }]), true, { s with e := 8 }⟩ := if_pos (by rw [stkF_len, ← HEN.out]; exact hfull)
      rw [e1]
      exact ⟨rfl, .slice (some ⟨bt, 0, none⟩) (L + 1) c, vo, _, hp5, rfl⟩
     ·have e1 : enterM k.m (stkF (fs ++ [{ f with i := f.i + 1 }])) no (iargs.map (rg f.regs)) f.low s = ⟨⟨no, iargs.map (rg f.regs) ++ List.replicate ((pk k.m no).regs.toNat - (iargs.map (rg f.regs)).length) 0, f.low - longM (pk k.m no), 0, 0⟩ :: stkF (fs ++ [{ f with i := f.i + 1 }]), false, s⟩ := if_neg (by rw [stkF_len, ← HEN.out]; exact hnf)
      rw [e1]
      exact ⟨rfl, vt5, vo, _, hp5, stkF_new _ _ _ _ _⟩
  ·rw [if_neg h9] at hOK
   simp only [Bool.and_eq_true] at hOK
   obtain ⟨⟨hd, ha, hb⟩, hm⟩ := hOK
   have hcase : op0 = 1 ∨ op0 = 2 ∨ op0 = 3 ∨ op0 = 4 ∨ op0 = 5 ∨ op0 = 6 ∨ op0 = 7 ∨ op0 = 8 ∨ op0 = 10 ∨ op0 = 11 ∨ op0 = 12 := by omega
   have RD : ∀ {r : Int} {b : Bool}, regF T r b = true → b = true → ∃ n : Nat, r = (n : Int) ∧ n < f.regs.length := fun {r b} h1 h2 => by
    subst h2
    have h3 := regF_yes h1
    exact ⟨r.toNat, by omega, by have := hgr; omega⟩
   unfold moreF at hm
   clear h9
   have HT : Hid (pk k.m f.n = T) := HT0.out
   clear hgr
   rcases hcase with rfl | rfl | rfl | rfl | rfl | rfl | rfl | rfl | rfl | rfl | rfl
   ·obtain ⟨nd, rfl, hnd⟩ := RD hd rfl
    clear hd ha hb hm RD
    obtain ⟨V0, V1⟩ := hnum
    have HME2 : Hid (M = ⟨stkF (fs ++ [{ f with i := f.i + 1, regs := f.regs.set nd inum }]), false, s⟩) := HM.out.symm.trans (step_some HK0'.out hNL.out HI0.out (show (1 : Int) ≠ 9 by decide) rfl)
    have z := fun j => cell_of_heap HI8.out j
    have z0 := z 0
    have z1 := z 1
    have z2 := z 2
    have z3 := z 3
    have z4 := z 4
    have z5 := z 5
    have z6 := z 6
    have z8 := z 8
    have z9 := z 9
    have y := fun j => cell_of_heap HC8.out j
    have y1 := y 1
    have y2 := y 2
    simp only [List.getElem?_toArray, List.getElem?_cons_zero, List.getElem?_cons_succ] at z0 z1 z2 z3 z4 z5 z6 z8 z9 y1 y2
    clear z y
    have HPq := HP8.out.grow (Below.refl W8.heap.size W8)
    have hfrq := HPq.fr
    have czq : W8.cell? ⟨f.bg, nd, none⟩ = some (.int .u32 (f.regs.getD nd 0)) := hfrq.cX nd hnd
    have fzq : W8.frozen? ⟨f.bg, nd, none⟩ = false := hfrq.fz nd
    have lbq : f.bg < W8.heap.size := hfrq.lt.2
    have HPs : Hid (Pm k (W8.setCell ⟨f.bg, nd, none⟩ (.int .u32 (inum))) (.slice (some ⟨bt, 0, none⟩) (L + 1) c) vo s false (fs ++ [{ f with i := f.i + 1, regs := f.regs.set nd (inum) }])) := HPq.setR nd (inum) V0 V1
    have HIs := Lib.hid ((heap_setCell_other W8 ⟨f.bg, nd, none⟩ bi (.int .u32 (inum)) (by simp only; omega)).trans (((Below.refl W8.heap.size W8).block bi l8i).trans HI8.out))
    generalize f.regs.getD nd 0 = ZZ at czq
    clear HPq hfrq
    go_upto_region 10 with (fail)
    obtain ⟨W9, hW9⟩ : ∃ W9, W9 = W8.setCell ⟨f.bg, nd, none⟩ (.int .u32 inum) := ⟨_, rfl⟩
    rw [← hW9] at HPs HIs ⊢
    clear hW9 czq fzq lbq
    clear z0 z1 z2 z3 z4 z5 z6 z8 z9 y1 y2
    have HPF := HPs
    have HIF := HIs
    have zf := cell_of_heap HIF.out 0
    simp only [List.getElem?_toArray, List.getElem?_cons_zero, List.getElem?_cons_succ] at zf
    have lzf : bi < W9.heap.size := (Array.getElem?_eq_some_iff.1 HIF.out).1
    go_wp2_with fail
    go_end0
    rw [HME2.out]
    exact ⟨rfl, .slice (some ⟨bt, 0, none⟩) (L + 1) c, vo, _, by rw [fin_snoc]; exact HPF.out, rfl⟩
   ·obtain ⟨nd, rfl, hnd⟩ := RD hd rfl
    obtain ⟨na, rfl, hna⟩ := RD ha rfl
    clear hd ha hb hm RD
    obtain ⟨V0, V1⟩ := HWD.out na
    have HME2 : Hid (M = ⟨stkF (fs ++ [{ f with i := f.i + 1, regs := f.regs.set nd (f.regs.getD na 0) }]), false, s⟩) := HM.out.symm.trans (step_some HK0'.out hNL.out HI0.out (show (2 : Int) ≠ 9 by decide) rfl)
    have ca := HCX8.out na hna
    generalize f.regs.getD na 0 = XA at *
    have z := fun j => cell_of_heap HI8.out j
    have z0 := z 0
    have z1 := z 1
    have z2 := z 2
    have z3 := z 3
    have z4 := z 4
    have z5 := z 5
    have z6 := z 6
    have z8 := z 8
    have z9 := z 9
    have y := fun j => cell_of_heap HC8.out j
    have y1 := y 1
    have y2 := y 2
    simp only [List.getElem?_toArray, List.getElem?_cons_zero, List.getElem?_cons_succ] at z0 z1 z2 z3 z4 z5 z6 z8 z9 y1 y2
    clear z y
    go_wp2_with fail
    refine wp_region_junk (fun _ => True) (by kernel_rfl) ?_
    refine J_mobs [0, 1, 2, 3, 4, 5, 6, 7, 8, 9, 10] _ _ _ _ (by kernel_rfl) ?_
    simp only [List.map_cons, List.map_nil, List.getElem?_toArray, List.getElem?_cons_succ, List.getElem?_cons_zero, Option.getD_some, List.size_toArray, List.length_cons, List.length_nil, Nat.reduceAdd, Nat.reduceSub]
    repeat (go_big_quiet_step (fail))
    refine wpQuiet_nil ?_
    refine J_last 11 _ rfl (by kernel_rfl) ?_
    simp only [List.getElem_toArray, List.getElem_cons_succ, List.getElem_cons_zero]
    intro wj hj
    have HPq := HP8.out.grow (hj)
    have hfrq := HPq.fr
    have czq : wj.cell? ⟨f.bg, nd, none⟩ = some (.int .u32 (f.regs.getD nd 0)) := hfrq.cX nd hnd
    have fzq : wj.frozen? ⟨f.bg, nd, none⟩ = false := hfrq.fz nd
    have lbq : f.bg < wj.heap.size := hfrq.lt.2
    have HPs : Hid (Pm k (wj.setCell ⟨f.bg, nd, none⟩ (.int .u32 (XA))) (.slice (some ⟨bt, 0, none⟩) (L + 1) c) vo s false (fs ++ [{ f with i := f.i + 1, regs := f.regs.set nd (XA) }])) := HPq.setR nd (XA) V0 V1
    have HIs := Lib.hid ((heap_setCell_other wj ⟨f.bg, nd, none⟩ bi (.int .u32 (XA)) (by simp only; omega)).trans (((hj).block bi l8i).trans HI8.out))
    generalize f.regs.getD nd 0 = ZZ at czq
    clear HPq hfrq
    go_wp2_with fail
    refine J_done (by kernel_rfl) (fun wz hk => ?_) _
    have HPF := Lib.hid (HPs.out.grow hk)
    have HIF := Lib.hid ((hk.block bi (Array.getElem?_eq_some_iff.1 HIs.out).1).trans HIs.out)
    clear hk HPs HIs czq fzq lbq
    clear z0 z1 z2 z3 z4 z5 z6 z8 z9 y1 y2
    clear ca hj
    have zf := cell_of_heap HIF.out 0
    simp only [List.getElem?_toArray, List.getElem?_cons_zero, List.getElem?_cons_succ] at zf
    have lzf : bi < wz.heap.size := (Array.getElem?_eq_some_iff.1 HIF.out).1
    go_wp2_with fail
    go_end0
    rw [HME2.out]
    exact ⟨rfl, .slice (some ⟨bt, 0, none⟩) (L + 1) c, vo, _, by rw [fin_snoc]; exact HPF.out, rfl⟩
   ·obtain ⟨nd, rfl, hnd⟩ := RD hd rfl
    obtain ⟨na, rfl, hna⟩ := RD ha rfl
    obtain ⟨nb, rfl, hnb⟩ := RD hb rfl
    clear hd ha hb hm RD
    have WA := HWD.out na
    have WB := HWD.out nb
    obtain ⟨V0, V1⟩ := fnF_bd ifn (f.regs.getD na 0) (f.regs.getD nb 0) WA.1 WA.2 WB.1 WB.2
    have HME2 : Hid (M = ⟨stkF (fs ++ [{ f with i := f.i + 1, regs := f.regs.set nd (fnF ifn (f.regs.getD na 0) (f.regs.getD nb 0)) }]), false, s⟩) := HM.out.symm.trans (step_some HK0'.out hNL.out HI0.out (show (3 : Int) ≠ 9 by decide) rfl)
    have HFN := Lib.hid (fun w' => rfn_c ifn (f.regs.getD na 0) (f.regs.getD nb 0) w' WA.1 WA.2 WB.1 WB.2)
    have ca := HCX8.out na hna
    have cb := HCX8.out nb hnb
    generalize fnF ifn (f.regs.getD na 0) (f.regs.getD nb 0) = FV at *
    generalize f.regs.getD na 0 = XA at *
    generalize f.regs.getD nb 0 = XB at *
    clear WA WB
    have z := fun j => cell_of_heap HI8.out j
    have z0 := z 0
    have z1 := z 1
    have z2 := z 2
    have z3 := z 3
    have z4 := z 4
    have z5 := z 5
    have z6 := z 6
    have z8 := z 8
    have z9 := z 9
    have y := fun j => cell_of_heap HC8.out j
    have y1 := y 1
    have y2 := y 2
    simp only [List.getElem?_toArray, List.getElem?_cons_zero, List.getElem?_cons_succ] at z0 z1 z2 z3 z4 z5 z6 z8 z9 y1 y2
    clear z y
    go_wp2_with fail
    refine wp_region_junk (fun _ => True) (by kernel_rfl) ?_
    refine J_mobs [0, 1, 2, 3, 4, 5, 6, 7, 8, 9, 10, 11, 12, 13, 14, 15, 16, 17] _ _ _ _ (by kernel_rfl) ?_
    simp only [List.map_cons, List.map_nil, List.getElem?_toArray, List.getElem?_cons_succ, List.getElem?_cons_zero, Option.getD_some, List.size_toArray, List.length_cons, List.length_nil, Nat.reduceAdd, Nat.reduceSub]
    repeat (go_big_quiet_step (fail))
    refine wpQuiet_nil ?_
    refine J_loud1 18 _ rfl (by kernel_rfl) ?_
    simp only [List.getElem_toArray, List.getElem_cons_succ, List.getElem_cons_zero]
    intro wj hj
    go_wp2_with fail
    refine (HFN.out wj).mono ?_
    rintro e w5 ⟨rfl, hb5⟩
    go_wp2_with fail
    refine ⟨KeepX.below hb5, ?_⟩
    have hjA := Lib.hid (hj.trans (hb5.mono hj.size))
    clear hj hb5
    refine J_mobs [19] _ _ _ _ (by kernel_rfl) ?_
    simp only [List.map_cons, List.map_nil, List.getElem?_toArray, List.getElem?_cons_succ, List.getElem?_cons_zero, Option.getD_some, List.size_toArray, List.length_cons, List.length_nil, Nat.reduceAdd, Nat.reduceSub]
    repeat (go_big_quiet_step (fail))
    refine wpQuiet_nil ?_
    refine J_last 20 _ rfl (by kernel_rfl) ?_
    simp only [List.getElem_toArray, List.getElem_cons_succ, List.getElem_cons_zero]
    intro wj hj
    have hjB := Lib.hid (hjA.out.trans (hj.mono hjA.out.size))
    clear hj
    have HPq := HP8.out.grow (hjB.out)
    have hfrq := HPq.fr
    have czq : wj.cell? ⟨f.bg, nd, none⟩ = some (.int .u32 (f.regs.getD nd 0)) := hfrq.cX nd hnd
    have fzq : wj.frozen? ⟨f.bg, nd, none⟩ = false := hfrq.fz nd
    have lbq : f.bg < wj.heap.size := hfrq.lt.2
    have HPs : Hid (Pm k (wj.setCell ⟨f.bg, nd, none⟩ (.int .u32 (FV))) (.slice (some ⟨bt, 0, none⟩) (L + 1) c) vo s false (fs ++ [{ f with i := f.i + 1, regs := f.regs.set nd (FV) }])) := HPq.setR nd (FV) V0 V1
    have HIs := Lib.hid ((heap_setCell_other wj ⟨f.bg, nd, none⟩ bi (.int .u32 (FV)) (by simp only; omega)).trans (((hjB.out).block bi l8i).trans HI8.out))
    generalize f.regs.getD nd 0 = ZZ at czq
    clear HPq hfrq
    go_wp2_with fail
    refine J_done (by kernel_rfl) (fun wz hk => ?_) _
    have HPF := Lib.hid (HPs.out.grow hk)
    have HIF := Lib.hid ((hk.block bi (Array.getElem?_eq_some_iff.1 HIs.out).1).trans HIs.out)
    clear hk HPs HIs czq fzq lbq
    clear z0 z1 z2 z3 z4 z5 z6 z8 z9 y1 y2
    clear ca cb
    have zf := cell_of_heap HIF.out 0
    simp only [List.getElem?_toArray, List.getElem?_cons_zero, List.getElem?_cons_succ] at zf
    have lzf : bi < wz.heap.size := (Array.getElem?_eq_some_iff.1 HIF.out).1
    go_wp2_with fail
    go_end0
    rw [HME2.out]
    exact ⟨rfl, .slice (some ⟨bt, 0, none⟩) (L + 1) c, vo, _, by rw [fin_snoc]; exact HPF.out, rfl⟩
   ·obtain ⟨nd, rfl, hnd⟩ := RD hd rfl
    obtain ⟨na, rfl, hna⟩ := RD ha rfl
    clear hd ha hb hm RD
    have WA := HWD.out na
    obtain ⟨V0, V1⟩ := fnF_bd ifn (f.regs.getD na 0) 0 WA.1 WA.2 (by decide) (by decide)
    have HME2 : Hid (M = ⟨stkF (fs ++ [{ f with i := f.i + 1, regs := f.regs.set nd (fnF ifn (f.regs.getD na 0) 0) }]), false, s⟩) := HM.out.symm.trans (step_some HK0'.out hNL.out HI0.out (show (4 : Int) ≠ 9 by decide) rfl)
    have HFN := Lib.hid (fun w' => rfn_c ifn (f.regs.getD na 0) 0 w' WA.1 WA.2 (by decide) (by decide))
    have ca := HCX8.out na hna
    generalize fnF ifn (f.regs.getD na 0) 0 = FV at *
    generalize f.regs.getD na 0 = XA at *
    clear WA
    have z := fun j => cell_of_heap HI8.out j
    have z0 := z 0
    have z1 := z 1
    have z2 := z 2
    have z3 := z 3
    have z4 := z 4
    have z5 := z 5
    have z6 := z 6
    have z8 := z 8
    have z9 := z 9
    have y := fun j => cell_of_heap HC8.out j
    have y1 := y 1
    have y2 := y 2
    simp only [List.getElem?_toArray, List.getElem?_cons_zero, List.getElem?_cons_succ] at z0 z1 z2 z3 z4 z5 z6 z8 z9 y1 y2
    clear z y
    go_wp2_with fail
    refine wp_region_junk (fun _ => True) (by kernel_rfl) ?_
    refine J_mobs [0, 1, 2, 3, 4, 5, 6, 7, 8, 9, 10, 11] _ _ _ _ (by kernel_rfl) ?_
    simp only [List.map_cons, List.map_nil, List.getElem?_toArray, List.getElem?_cons_succ, List.getElem?_cons_zero, Option.getD_some, List.size_toArray, List.length_cons, List.length_nil, Nat.reduceAdd, Nat.reduceSub]
    repeat (go_big_quiet_step (fail))
    refine wpQuiet_nil ?_
    refine J_loud1 12 _ rfl (by kernel_rfl) ?_
    simp only [List.getElem_toArray, List.getElem_cons_succ, List.getElem_cons_zero]
    intro wj hj
    go_wp2_with fail
    refine (HFN.out wj).mono ?_
    rintro e w5 ⟨rfl, hb5⟩
    go_wp2_with fail
    refine ⟨KeepX.below hb5, ?_⟩
    have hjA := Lib.hid (hj.trans (hb5.mono hj.size))
    clear hj hb5
    refine J_mobs [13] _ _ _ _ (by kernel_rfl) ?_
    simp only [List.map_cons, List.map_nil, List.getElem?_toArray, List.getElem?_cons_succ, List.getElem?_cons_zero, Option.getD_some, List.size_toArray, List.length_cons, List.length_nil, Nat.reduceAdd, Nat.reduceSub]
    repeat (go_big_quiet_step (fail))
    refine wpQuiet_nil ?_
    refine J_last 14 _ rfl (by kernel_rfl) ?_
    simp only [List.getElem_toArray, List.getElem_cons_succ, List.getElem_cons_zero]
    intro wj hj
    have hjB := Lib.hid (hjA.out.trans (hj.mono hjA.out.size))
    clear hj
    have HPq := HP8.out.grow (hjB.out)
    have hfrq := HPq.fr
    have czq : wj.cell? ⟨f.bg, nd, none⟩ = some (.int .u32 (f.regs.getD nd 0)) := hfrq.cX nd hnd
    have fzq : wj.frozen? ⟨f.bg, nd, none⟩ = false := hfrq.fz nd
    have lbq : f.bg < wj.heap.size := hfrq.lt.2
    have HPs : Hid (Pm k (wj.setCell ⟨f.bg, nd, none⟩ (.int .u32 (FV))) (.slice (some ⟨bt, 0, none⟩) (L + 1) c) vo s false (fs ++ [{ f with i := f.i + 1, regs := f.regs.set nd (FV) }])) := HPq.setR nd (FV) V0 V1
    have HIs := Lib.hid ((heap_setCell_other wj ⟨f.bg, nd, none⟩ bi (.int .u32 (FV)) (by simp only; omega)).trans (((hjB.out).block bi l8i).trans HI8.out))
    generalize f.regs.getD nd 0 = ZZ at czq
    clear HPq hfrq
    go_wp2_with fail
    refine J_done (by kernel_rfl) (fun wz hk => ?_) _
    have HPF := Lib.hid (HPs.out.grow hk)
    have HIF := Lib.hid ((hk.block bi (Array.getElem?_eq_some_iff.1 HIs.out).1).trans HIs.out)
    clear hk HPs HIs czq fzq lbq
    clear z0 z1 z2 z3 z4 z5 z6 z8 z9 y1 y2
    clear ca
    have zf := cell_of_heap HIF.out 0
    simp only [List.getElem?_toArray, List.getElem?_cons_zero, List.getElem?_cons_succ] at zf
    have lzf : bi < wz.heap.size := (Array.getElem?_eq_some_iff.1 HIF.out).1
    go_wp2_with fail
    go_end0
    rw [HME2.out]
    exact ⟨rfl, .slice (some ⟨bt, 0, none⟩) (L + 1) c, vo, _, by rw [fin_snoc]; exact HPF.out, rfl⟩
   ·obtain ⟨na, rfl, hna⟩ := RD ha rfl
    have hd0 : 0 ≤ idd ∧ idd < (f.regs.length : Int) := by obtain ⟨nd, hdd, hnd⟩ := RD hd rfl; omega
    have hsz : isz = 1 ∨ isz = 4 := by simp at hm; exact hm.1
    have hof : -32768 ≤ ioff ∧ ioff ≤ 32768 := by simp [offF] at hm; omega
    clear hd ha hb hm RD
    cases hp : placeF (addrM f.regs ⟨5, idd, na, ib, ifn, iobj, ioff, isz, inum, iargs, ilog⟩) isz
    ·have HME2 : Hid (M = ⟨stkF (fs ++ [{ f with i := f.i + 1 }]), true, { s with e := 12 }⟩) := HM.out.symm.trans (step_none HK0'.out hNL.out HI0.out (show (5 : Int) ≠ 9 by decide) (by rw [insM_5 rfl, hp]; rfl))
     have HX := Lib.hid (mem_no 5 HP8.out HOLD.out ⟨5, idd, na, ib, ifn, iobj, ioff, isz, inum, iargs, ilog⟩ (.slice aa iargs.length ca) (.int .i64 f.n) (.int .i64 f.low) (.int .i64 f.b) (.int .i64 f.i) rfl (by show (0 : Int) ≤ (na : Int); omega) (by show (na : Int) < (f.regs.length : Int); omega) hsz hof.1 hof.2 hp)
     clear hp
     have z := fun j => cell_of_heap HI8.out j
     have z0 := z 0
     have z1 := z 1
     have z2 := z 2
     have z3 := z 3
     have z4 := z 4
     have z5 := z 5
     have z6 := z 6
     have z7 := z 7
     have z8 := z 8
     have z9 := z 9
     have z10 := z 10
     have y := fun j => cell_of_heap HC8.out j
     have y0 := y 0
     have y1 := y 1
     have y2 := y 2
     have y3 := y 3
     have y4 := y 4
     simp only [List.getElem?_toArray, List.getElem?_cons_zero, List.getElem?_cons_succ] at z0 z1 z2 z3 z4 z5 z6 z7 z8 z9 z10 y0 y1 y2 y3 y4
     clear z y
     go_wp2_with fail
     refine HX.out.mono ?_
     rintro e w5 ⟨rfl, hs5, hp5⟩
     have HIF := Lib.hid ((hs5.keep bi (Nat.le_of_lt hbi2) l8i).trans HI8.out)
     have HPF := Lib.hid hp5
     clear hs5 hp5
     clear z0 z1 z2 z3 z4 z5 z6 z7 z8 z9 z10 y0 y1 y2 y3 y4
     have zf := cell_of_heap HIF.out 0
     simp only [List.getElem?_toArray, List.getElem?_cons_zero, List.getElem?_cons_succ] at zf
     have lzf : bi < w5.heap.size := (Array.getElem?_eq_some_iff.1 HIF.out).1
     go_wp2_with fail
     go_end0
     rw [HME2.out]
     exact ⟨rfl, .slice (some ⟨bt, 0, none⟩) (L + 1) c, vo, _, HPF.out, rfl⟩
    ·have HME2 : Hid (M = ⟨stkF (fs ++ [{ f with i := f.i + 1, regs := f.regs.set idd.toNat (loadP s.mem (addrM f.regs ⟨5, idd, na, ib, ifn, iobj, ioff, isz, inum, iargs, ilog⟩ - 268435456).toNat isz.toNat) }]), false, s⟩) := HM.out.symm.trans (step_some HK0'.out hNL.out HI0.out (show (5 : Int) ≠ 9 by decide) (by rw [insM_5 rfl, hp]; rfl))
     have HX := Lib.hid (mem_load HP8.out HOLD.out HMS.out.mem ⟨5, idd, na, ib, ifn, iobj, ioff, isz, inum, iargs, ilog⟩ (.slice aa iargs.length ca) (.int .i64 f.n) (.int .i64 f.low) (.int .i64 f.b) (.int .i64 f.i) rfl (by show (0 : Int) ≤ (na : Int); omega) (by show (na : Int) < (f.regs.length : Int); omega) hsz hof.1 hof.2 (by show (0 : Int) ≤ idd; omega) (by show idd < (f.regs.length : Int); omega) hp)
     clear hp
     have z := fun j => cell_of_heap HI8.out j
     have z0 := z 0
     have z1 := z 1
     have z2 := z 2
     have z3 := z 3
     have z4 := z 4
     have z5 := z 5
     have z6 := z 6
     have z7 := z 7
     have z8 := z 8
     have z9 := z 9
     have z10 := z 10
     have y := fun j => cell_of_heap HC8.out j
     have y0 := y 0
     have y1 := y 1
     have y2 := y 2
     have y3 := y 3
     have y4 := y 4
     simp only [List.getElem?_toArray, List.getElem?_cons_zero, List.getElem?_cons_succ] at z0 z1 z2 z3 z4 z5 z6 z7 z8 z9 z10 y0 y1 y2 y3 y4
     clear z y
     go_wp2_with fail
     refine HX.out.mono ?_
     rintro e w5 ⟨rfl, hs5, vo5, hp5⟩
     have HIF := Lib.hid ((hs5.keep bi (Nat.le_of_lt hbi2) l8i).trans HI8.out)
     have HPF := Lib.hid hp5
     clear hs5 hp5
     clear z0 z1 z2 z3 z4 z5 z6 z7 z8 z9 z10 y0 y1 y2 y3 y4
     have zf := cell_of_heap HIF.out 0
     simp only [List.getElem?_toArray, List.getElem?_cons_zero, List.getElem?_cons_succ] at zf
     have lzf : bi < w5.heap.size := (Array.getElem?_eq_some_iff.1 HIF.out).1
     go_wp2_with fail
     go_end0
     rw [HME2.out]
     exact ⟨rfl, .slice (some ⟨bt, 0, none⟩) (L + 1) c, vo5, _, by rw [fin_snoc]; exact HPF.out, rfl⟩
   ·obtain ⟨na, rfl, hna⟩ := RD ha rfl
    have hd0 : 0 ≤ ib ∧ ib < (f.regs.length : Int) := by obtain ⟨nd, hdd, hnd⟩ := RD hb rfl; omega
    have hsz : isz = 1 ∨ isz = 4 := by simp at hm; exact hm.1
    have hof : -32768 ≤ ioff ∧ ioff ≤ 32768 := by simp [offF] at hm; omega
    clear hd ha hb hm RD
    cases hp : placeF (addrM f.regs ⟨6, idd, na, ib, ifn, iobj, ioff, isz, inum, iargs, ilog⟩) isz
    ·have HME2 : Hid (M = ⟨stkF (fs ++ [{ f with i := f.i + 1 }]), true, { s with e := 12 }⟩) := HM.out.symm.trans (step_none HK0'.out hNL.out HI0.out (show (6 : Int) ≠ 9 by decide) (by rw [insM_6 rfl, hp]; rfl))
     have HX := Lib.hid (mem_no 6 HP8.out HOLD.out ⟨6, idd, na, ib, ifn, iobj, ioff, isz, inum, iargs, ilog⟩ (.slice aa iargs.length ca) (.int .i64 f.n) (.int .i64 f.low) (.int .i64 f.b) (.int .i64 f.i) rfl (by show (0 : Int) ≤ (na : Int); omega) (by show (na : Int) < (f.regs.length : Int); omega) hsz hof.1 hof.2 hp)
     clear hp
     have z := fun j => cell_of_heap HI8.out j
     have z0 := z 0
     have z1 := z 1
     have z2 := z 2
     have z3 := z 3
     have z4 := z 4
     have z5 := z 5
     have z6 := z 6
     have z7 := z 7
     have z8 := z 8
     have z9 := z 9
     have z10 := z 10
     have y := fun j => cell_of_heap HC8.out j
     have y0 := y 0
     have y1 := y 1
     have y2 := y 2
     have y3 := y 3
     have y4 := y 4
     simp only [List.getElem?_toArray, List.getElem?_cons_zero, List.getElem?_cons_succ] at z0 z1 z2 z3 z4 z5 z6 z7 z8 z9 z10 y0 y1 y2 y3 y4
     clear z y
     go_wp2_with fail
     refine HX.out.mono ?_
     rintro e w5 ⟨rfl, hs5, hp5⟩
     have HIF := Lib.hid ((hs5.keep bi (Nat.le_of_lt hbi2) l8i).trans HI8.out)
     have HPF := Lib.hid hp5
     clear hs5 hp5
     clear z0 z1 z2 z3 z4 z5 z6 z7 z8 z9 z10 y0 y1 y2 y3 y4
     have zf := cell_of_heap HIF.out 0
     simp only [List.getElem?_toArray, List.getElem?_cons_zero, List.getElem?_cons_succ] at zf
     have lzf : bi < w5.heap.size := (Array.getElem?_eq_some_iff.1 HIF.out).1
     go_wp2_with fail
     go_end0
     rw [HME2.out]
     exact ⟨rfl, .slice (some ⟨bt, 0, none⟩) (L + 1) c, vo, _, HPF.out, rfl⟩
    ·have HME2 : Hid (M = ⟨stkF (fs ++ [{ f with i := f.i + 1, regs := f.regs }]), false, { s with mem := storeP s.mem (addrM f.regs ⟨6, idd, na, ib, ifn, iobj, ioff, isz, inum, iargs, ilog⟩ - 268435456).toNat (rg f.regs ib) isz.toNat }⟩) := HM.out.symm.trans (step_some HK0'.out hNL.out HI0.out (show (6 : Int) ≠ 9 by decide) (by rw [insM_6 rfl, hp]; rfl))
     have HX := Lib.hid (mem_store HP8.out HOLD.out ⟨6, idd, na, ib, ifn, iobj, ioff, isz, inum, iargs, ilog⟩ (.slice aa iargs.length ca) (.int .i64 f.n) (.int .i64 f.low) (.int .i64 f.b) (.int .i64 f.i) rfl (by show (0 : Int) ≤ (na : Int); omega) (by show (na : Int) < (f.regs.length : Int); omega) hsz hof.1 hof.2 (by show (0 : Int) ≤ ib; omega) (by show ib < (f.regs.length : Int); omega) hp)
     clear hp
     have z := fun j => cell_of_heap HI8.out j
     have z0 := z 0
     have z1 := z 1
     have z2 := z 2
     have z3 := z 3
     have z4 := z 4
     have z5 := z 5
     have z6 := z 6
     have z7 := z 7
     have z8 := z 8
     have z9 := z 9
     have z10 := z 10
     have y := fun j => cell_of_heap HC8.out j
     have y0 := y 0
     have y1 := y 1
     have y2 := y 2
     have y3 := y 3
     have y4 := y 4
     simp only [List.getElem?_toArray, List.getElem?_cons_zero, List.getElem?_cons_succ] at z0 z1 z2 z3 z4 z5 z6 z7 z8 z9 z10 y0 y1 y2 y3 y4
     clear z y
     go_wp2_with fail
     refine HX.out.mono ?_
     rintro e w5 ⟨rfl, hs5, vo5, hp5⟩
     have HIF := Lib.hid ((hs5.keep bi (Nat.le_of_lt hbi2) l8i).trans HI8.out)
     have HPF := Lib.hid hp5
     clear hs5 hp5
     clear z0 z1 z2 z3 z4 z5 z6 z7 z8 z9 z10 y0 y1 y2 y3 y4
     have zf := cell_of_heap HIF.out 0
     simp only [List.getElem?_toArray, List.getElem?_cons_zero, List.getElem?_cons_succ] at zf
     have lzf : bi < w5.heap.size := (Array.getElem?_eq_some_iff.1 HIF.out).1
     go_wp2_with fail
     go_end0
     rw [HME2.out]
     exact ⟨rfl, .slice (some ⟨bt, 0, none⟩) (L + 1) c, vo5, _, by rw [fin_snoc]; exact HPF.out, rfl⟩
   ·obtain ⟨nd, rfl, hnd⟩ := RD hd rfl
    have hob : 0 ≤ iobj ∧ iobj < (T.objs.length : Int) ∧ -32768 ≤ ioff ∧ ioff ≤ 32768 := by simp [offF] at hm; omega
    clear hd ha hb hm RD
    obtain ⟨ho3, ho4, ho5, ho6⟩ := hob
    obtain ⟨no, rfl⟩ := Int.eq_ofNat_of_zero_le ho3
    have hno : no < T.objs.length := by omega
    have hE := slE_small hH.sl hH.ol no (Nat.le_of_lt hno)
    have V0 : 0 ≤ (268435456 + f.low + slE T.objs no + ioff) % 4294967296 := Int.emod_nonneg _ (by decide)
    have V1 : (268435456 + f.low + slE T.objs no + ioff) % 4294967296 < 4294967296 := Int.emod_lt_of_pos _ (by decide)
    have HME2 : Hid (M = ⟨stkF (fs ++ [{ f with i := f.i + 1, regs := f.regs.set nd ((268435456 + f.low + slE T.objs no + ioff) % 4294967296) }]), false, s⟩) := HM.out.symm.trans (step_some HK0'.out hNL.out HI0.out (show (7 : Int) ≠ 9 by decide) (by rw [insM_7 rfl, HT.out]; rfl))
    have HPL := Lib.hid (fun w' (hw : Ext k.wp w') => rplace_c T.objs _ w' (hto.ext hw) (slot_sizes hH.sl) (by have := hH.ol; omega))
    have HE8 : Hid (Ext k.wp W8) := Ext.below HP8.out.below
    have HC := Lib.hid (fun w => rcut_c (268435456 + f.low + slE T.objs no + ioff) w (by omega) (by omega))
    have HGT : Hid ((slL T.objs T.objs.length).getD no 0 = slE T.objs no) := by show _ = _; rw [slL_getD _ _ _ hno]
    have p4 := cell_of_heap HX8.out 4
    simp only [List.getElem?_toArray, List.getElem?_cons_zero, List.getElem?_cons_succ] at p4
    have z := fun j => cell_of_heap HI8.out j
    have z0 := z 0
    have z1 := z 1
    have z2 := z 2
    have z3 := z 3
    have z4 := z 4
    have z5 := z 5
    have z6 := z 6
    have z8 := z 8
    have z9 := z 9
    have y := fun j => cell_of_heap HC8.out j
    have y1 := y 1
    have y2 := y 2
    simp only [List.getElem?_toArray, List.getElem?_cons_zero, List.getElem?_cons_succ] at z0 z1 z2 z3 z4 z5 z6 z8 z9 y1 y2
    clear z y
    clear hto
    go_wp2_with fail
    refine (HPL.out W8 HE8.out).mono ?_
    rintro e w5 ⟨u, rfl, O, hb5⟩
    obtain ⟨bo, co, rfl, hco1, hco2, hcc, lbo⟩ := own_int_at O no (by rw [slL_len]; exact hno) (by rw [slL_len])
    rw [HGT.out] at hcc
    have HB5 := Lib.hid hb5
    have HI8' := Lib.hid ((hb5.block bi l8i).trans HI8.out)
    have HC8' := Lib.hid ((hb5.block w.heap.size l8c).trans HC8.out)
    have l8i' : bi < w5.heap.size := (Array.getElem?_eq_some_iff.1 HI8'.out).1
    have l8c' : w.heap.size < w5.heap.size := (Array.getElem?_eq_some_iff.1 HC8'.out).1
    clear z0 z1 z2 z3 z4 z5 z6 z8 z9 y1 y2
    clear p4 O hb5
    have z := fun j => cell_of_heap HI8'.out j
    have z0 := z 0
    have z1 := z 1
    have z5 := z 5
    have z6 := z 6
    have y := fun j => cell_of_heap HC8'.out j
    have y1 := y 1
    have y2 := y 2
    simp only [List.getElem?_toArray, List.getElem?_cons_zero, List.getElem?_cons_succ] at z0 z1 z5 z6 y1 y2
    clear z y
    generalize slE T.objs no = EV at *
    go_wp2_with fail
    refine wp_region_junk (fun _ => True) (by kernel_rfl) ?_
    refine J_mobs [0, 1, 2, 3, 4, 5, 6, 7, 8, 9, 10, 11, 12, 13, 14, 15] _ _ _ _ (by kernel_rfl) ?_
    simp only [List.map_cons, List.map_nil, List.getElem?_toArray, List.getElem?_cons_succ, List.getElem?_cons_zero, Option.getD_some, List.size_toArray, List.length_cons, List.length_nil, Nat.reduceAdd, Nat.reduceSub]
    repeat (go_big_quiet_step (fail))
    refine wpQuiet_nil ?_
    refine J_loud1 16 _ rfl (by kernel_rfl) ?_
    simp only [List.getElem_toArray, List.getElem_cons_succ, List.getElem_cons_zero]
    intro wj hj
    go_wp2_with fail
    refine (HC.out wj).mono ?_
    rintro e w6 ⟨rfl, rfl⟩
    go_wp2_with fail
    refine ⟨KeepX.refl _ _, ?_⟩
    have hjA := Lib.hid (HB5.out.trans (hj.mono HB5.out.size))
    clear hj
    refine J_mobs [17] _ _ _ _ (by kernel_rfl) ?_
    simp only [List.map_cons, List.map_nil, List.getElem?_toArray, List.getElem?_cons_succ, List.getElem?_cons_zero, Option.getD_some, List.size_toArray, List.length_cons, List.length_nil, Nat.reduceAdd, Nat.reduceSub]
    repeat (go_big_quiet_step (fail))
    refine wpQuiet_nil ?_
    refine J_last 18 _ rfl (by kernel_rfl) ?_
    simp only [List.getElem_toArray, List.getElem_cons_succ, List.getElem_cons_zero]
    intro wj hj
    have hjB := Lib.hid (hjA.out.trans (hj.mono hjA.out.size))
    clear hj
    have HPq := HP8.out.grow (hjB.out)
    have hfrq := HPq.fr
    have czq : wj.cell? ⟨f.bg, nd, none⟩ = some (.int .u32 (f.regs.getD nd 0)) := hfrq.cX nd hnd
    have fzq : wj.frozen? ⟨f.bg, nd, none⟩ = false := hfrq.fz nd
    have lbq : f.bg < wj.heap.size := hfrq.lt.2
    have HPs : Hid (Pm k (wj.setCell ⟨f.bg, nd, none⟩ (.int .u32 ((268435456 + f.low + EV + ioff) % 4294967296))) (.slice (some ⟨bt, 0, none⟩) (L + 1) c) vo s false (fs ++ [{ f with i := f.i + 1, regs := f.regs.set nd ((268435456 + f.low + EV + ioff) % 4294967296) }])) := HPq.setR nd ((268435456 + f.low + EV + ioff) % 4294967296) V0 V1
    have HIs := Lib.hid ((heap_setCell_other wj ⟨f.bg, nd, none⟩ bi (.int .u32 ((268435456 + f.low + EV + ioff) % 4294967296)) (by simp only; omega)).trans (((hjB.out).block bi l8i).trans HI8.out))
    generalize f.regs.getD nd 0 = ZZ at czq
    clear HPq hfrq
    go_wp2_with fail
    refine J_done (by kernel_rfl) (fun wz hk => ?_) _
    have HPF := Lib.hid (HPs.out.grow hk)
    have HIF := Lib.hid ((hk.block bi (Array.getElem?_eq_some_iff.1 HIs.out).1).trans HIs.out)
    clear hk HPs HIs czq fzq lbq
    clear z1 z5 z6 y1 y2 hcc z0
    have zf := cell_of_heap HIF.out 0
    simp only [List.getElem?_toArray, List.getElem?_cons_zero, List.getElem?_cons_succ] at zf
    have lzf : bi < wz.heap.size := (Array.getElem?_eq_some_iff.1 HIF.out).1
    go_wp2_with fail
    go_end0
    rw [HME2.out]
    exact ⟨rfl, .slice (some ⟨bt, 0, none⟩) (L + 1) c, vo, _, by rw [fin_snoc]; exact HPF.out, rfl⟩
   ·obtain ⟨nd, rfl, hnd⟩ := RD hd rfl
    have hob : 0 ≤ iobj ∧ iobj < (k.m.globs.length : Int) ∧ -32768 ≤ ioff ∧ ioff ≤ 32768 := by simp [offF] at hm; omega
    clear hd ha hb hm RD
    obtain ⟨ho3, ho4, ho5, ho6⟩ := hob
    obtain ⟨no, rfl⟩ := Int.eq_ofNat_of_zero_le ho3
    have hno : no < k.m.globs.length := by omega
    obtain ⟨hG1, hG2, hG3⟩ := okM_globs hok
    have hE := slE_small hG1 (by omega) no (Nat.le_of_lt hno)
    have V0 : 0 ≤ (268435456 + (4096 + slE k.m.globs no) + ioff) % 4294967296 := Int.emod_nonneg _ (by decide)
    have V1 : (268435456 + (4096 + slE k.m.globs no) + ioff) % 4294967296 < 4294967296 := Int.emod_lt_of_pos _ (by decide)
    have HME2 : Hid (M = ⟨stkF (fs ++ [{ f with i := f.i + 1, regs := f.regs.set nd ((268435456 + (4096 + slE k.m.globs no) + ioff) % 4294967296) }]), false, s⟩) := HM.out.symm.trans (step_some HK0'.out hNL.out HI0.out (show (8 : Int) ≠ 9 by decide) (by rw [insM_8 rfl]; rfl))
    obtain ⟨vg2, vd2, vp2, hme2, hvg2, -, -⟩ := h.md
    simp only [Value.agg.injEq, Array.mk.injEq, List.cons.injEq] at hme2
    obtain ⟨hme2, -⟩ := hme2
    obtain ⟨ag, cg, hg2, -⟩ := id hvg2
    rw [hg2] at hvg2 hme2
    have HPL := Lib.hid (fun w' (hw : Ext k.wp w') => rplace_c k.m.globs _ w' (hvg2.ext hw) (slot_sizes hG1) (by omega))
    have HE8 : Hid (Ext k.wp W8) := Ext.below HP8.out.below
    have eg : 268435456 + (4096 + slE k.m.globs no) + ioff = 268439552 + slE k.m.globs no + ioff := by omega
    rw [eg] at V0 V1 HME2
    have HC := Lib.hid (fun w => rcut_c (268439552 + slE k.m.globs no + ioff) w (by omega) (by omega))
    have HGT : Hid ((slL k.m.globs k.m.globs.length).getD no 0 = slE k.m.globs no) := by show _ = _; rw [slL_getD _ _ _ hno]
    have c0 := HP8.out.c0
    rw [hme2] at c0
    have lb8 := HP8.out.brLt.2
    have z := fun j => cell_of_heap HI8.out j
    have z0 := z 0
    have z1 := z 1
    have z2 := z 2
    have z3 := z 3
    have z4 := z 4
    have z5 := z 5
    have z6 := z 6
    have z8 := z 8
    have z9 := z 9
    have y := fun j => cell_of_heap HC8.out j
    have y1 := y 1
    have y2 := y 2
    simp only [List.getElem?_toArray, List.getElem?_cons_zero, List.getElem?_cons_succ] at z0 z1 z2 z3 z4 z5 z6 z8 z9 y1 y2
    clear z y
    clear hme2 hg2 hvg2 eg
    go_wp2_with fail
    refine (HPL.out W8 HE8.out).mono ?_
    rintro e w5 ⟨u, rfl, O, hb5⟩
    obtain ⟨bo, co, rfl, hco1, hco2, hcc, lbo⟩ := own_int_at O no (by rw [slL_len]; exact hno) (by rw [slL_len])
    rw [HGT.out] at hcc
    have HB5 := Lib.hid hb5
    have HI8' := Lib.hid ((hb5.block bi l8i).trans HI8.out)
    have HC8' := Lib.hid ((hb5.block w.heap.size l8c).trans HC8.out)
    have l8i' : bi < w5.heap.size := (Array.getElem?_eq_some_iff.1 HI8'.out).1
    have l8c' : w.heap.size < w5.heap.size := (Array.getElem?_eq_some_iff.1 HC8'.out).1
    clear z0 z1 z2 z3 z4 z5 z6 z8 z9 y1 y2
    clear c0 O hb5
    have z := fun j => cell_of_heap HI8'.out j
    have z0 := z 0
    have z1 := z 1
    have z5 := z 5
    have z6 := z 6
    have y := fun j => cell_of_heap HC8'.out j
    have y1 := y 1
    have y2 := y 2
    simp only [List.getElem?_toArray, List.getElem?_cons_zero, List.getElem?_cons_succ] at z0 z1 z5 z6 y1 y2
    clear z y
    generalize slE k.m.globs no = EV at *
    go_wp2_with fail
    refine wp_region_junk (fun _ => True) (by kernel_rfl) ?_
    refine J_mobs [0, 1, 2, 3, 4, 5, 6, 7, 8, 9, 10, 11, 12] _ _ _ _ (by kernel_rfl) ?_
    simp only [List.map_cons, List.map_nil, List.getElem?_toArray, List.getElem?_cons_succ, List.getElem?_cons_zero, Option.getD_some, List.size_toArray, List.length_cons, List.length_nil, Nat.reduceAdd, Nat.reduceSub]
    repeat (go_big_quiet_step (fail))
    refine wpQuiet_nil ?_
    refine J_loud1 13 _ rfl (by kernel_rfl) ?_
    simp only [List.getElem_toArray, List.getElem_cons_succ, List.getElem_cons_zero]
    intro wj hj
    go_wp2_with fail
    refine (HC.out wj).mono ?_
    rintro e w6 ⟨rfl, rfl⟩
    go_wp2_with fail
    refine ⟨KeepX.refl _ _, ?_⟩
    have hjA := Lib.hid (HB5.out.trans (hj.mono HB5.out.size))
    clear hj
    refine J_mobs [14] _ _ _ _ (by kernel_rfl) ?_
    simp only [List.map_cons, List.map_nil, List.getElem?_toArray, List.getElem?_cons_succ, List.getElem?_cons_zero, Option.getD_some, List.size_toArray, List.length_cons, List.length_nil, Nat.reduceAdd, Nat.reduceSub]
    repeat (go_big_quiet_step (fail))
    refine wpQuiet_nil ?_
    refine J_last 15 _ rfl (by kernel_rfl) ?_
    simp only [List.getElem_toArray, List.getElem_cons_succ, List.getElem_cons_zero]
    intro wj hj
    have hjB := Lib.hid (hjA.out.trans (hj.mono hjA.out.size))
    clear hj
    have HPq := HP8.out.grow (hjB.out)
    have hfrq := HPq.fr
    have czq : wj.cell? ⟨f.bg, nd, none⟩ = some (.int .u32 (f.regs.getD nd 0)) := hfrq.cX nd hnd
    have fzq : wj.frozen? ⟨f.bg, nd, none⟩ = false := hfrq.fz nd
    have lbq : f.bg < wj.heap.size := hfrq.lt.2
    have HPs : Hid (Pm k (wj.setCell ⟨f.bg, nd, none⟩ (.int .u32 ((268439552 + EV + ioff) % 4294967296))) (.slice (some ⟨bt, 0, none⟩) (L + 1) c) vo s false (fs ++ [{ f with i := f.i + 1, regs := f.regs.set nd ((268439552 + EV + ioff) % 4294967296) }])) := HPq.setR nd ((268439552 + EV + ioff) % 4294967296) V0 V1
    have HIs := Lib.hid ((heap_setCell_other wj ⟨f.bg, nd, none⟩ bi (.int .u32 ((268439552 + EV + ioff) % 4294967296)) (by simp only; omega)).trans (((hjB.out).block bi l8i).trans HI8.out))
    generalize f.regs.getD nd 0 = ZZ at czq
    clear HPq hfrq
    go_wp2_with fail
    refine J_done (by kernel_rfl) (fun wz hk => ?_) _
    have HPF := Lib.hid (HPs.out.grow hk)
    have HIF := Lib.hid ((hk.block bi (Array.getElem?_eq_some_iff.1 HIs.out).1).trans HIs.out)
    clear hk HPs HIs czq fzq lbq
    clear z1 z5 z6 y1 y2 hcc z0
    have zf := cell_of_heap HIF.out 0
    simp only [List.getElem?_toArray, List.getElem?_cons_zero, List.getElem?_cons_succ] at zf
    have lzf : bi < wz.heap.size := (Array.getElem?_eq_some_iff.1 HIF.out).1
    go_wp2_with fail
    go_end0
    rw [HME2.out]
    exact ⟨rfl, .slice (some ⟨bt, 0, none⟩) (L + 1) c, vo, _, by rw [fin_snoc]; exact HPF.out, rfl⟩
   ·obtain ⟨na, rfl, hna⟩ := RD ha rfl
    clear hd ha hb hm RD
    have HME2 : Hid (M = ⟨stkF (fs ++ [{ f with i := f.i + 1 }]), false, { s with out := s.out ++ [f.regs.getD na 0] }⟩) := HM.out.symm.trans (step_some HK0'.out hNL.out HI0.out (show (10 : Int) ≠ 9 by decide) (by rw [insM_10 rfl]; rfl))
    have ca := HCX8.out na hna
    obtain ⟨av, cv, hvo⟩ := row_shape HP8.out.oo
    have hHPO := HP8.out
    rw [hvo] at hHPO
    have HPO := Lib.hid hHPO
    have c8 := hHPO.c8
    have lb8 := hHPO.brLt.2
    have hol : s.out.length ≤ 100000 := by have := HMS.out.o1; dsimp only at this; omega
    have hSB : ∀ b, (b = k.br ∨ mB w.heap.size bi f.bg b) → some b ≠ (Value.slice av s.out.length cv).ownBlock := fun b hb e => by
     have h1 := hHPO.oo
     have h2 := HOLD.out.oo b (by rw [hvo]; exact e.symm)
     rcases hb with rfl | rfl | rfl | rfl
     ·rcases rows_ne hHPO.bx hHPO.oo (by decide) with q | q
      ·cases q
      ·exact q e
     ·omega
     ·omega
     ·exact hHPO.fr.ne e
    have HSB := Lib.hid hSB
    have hs1 : k.br = k.br ∨ mB w.heap.size bi f.bg k.br := .inl rfl
    have hs2 : w.heap.size = k.br ∨ mB w.heap.size bi f.bg w.heap.size := .inr (mB1 _ _ _)
    have hs3 : bi = k.br ∨ mB w.heap.size bi f.bg bi := .inr (mB2 _ _ _)
    have hs4 : f.bg = k.br ∨ mB w.heap.size bi f.bg f.bg := .inr (mB3 _ _ _)
    have hbrw := h.brLt.2
    clear hvo hHPO hSB
    generalize f.regs.getD na 0 = XA at *
    have z := fun j => cell_of_heap HI8.out j
    have z0 := z 0
    have z1 := z 1
    have z2 := z 2
    have z3 := z 3
    have z4 := z 4
    have z5 := z 5
    have z6 := z 6
    have z8 := z 8
    have z9 := z 9
    have y := fun j => cell_of_heap HC8.out j
    have y1 := y 1
    have y2 := y 2
    simp only [List.getElem?_toArray, List.getElem?_cons_zero, List.getElem?_cons_succ] at z0 z1 z2 z3 z4 z5 z6 z8 z9 y1 y2
    clear z y
    go_wp2_with fail
    refine wp_region_junk (fun b => b = k.br ∨ mB w.heap.size bi f.bg b) (by kernel_rfl) ?_
    refine J_mobs [0, 1, 2, 3, 4, 5, 6, 7, 8, 9, 10, 11] _ _ _ _ (by kernel_rfl) ?_
    simp only [List.map_cons, List.map_nil, List.getElem?_toArray, List.getElem?_cons_succ, List.getElem?_cons_zero, Option.getD_some, List.size_toArray, List.length_cons, List.length_nil, Nat.reduceAdd, Nat.reduceSub]
    repeat (go_big_quiet_step (fail))
    refine wpQuiet_nil ?_
    refine J_loud1 12 _ rfl (by kernel_rfl) ?_
    simp only [List.getElem_toArray, List.getElem_cons_succ, List.getElem_cons_zero]
    intro wj hj
    go_wp2_with fail
    refine ⟨KeepX.below (below_alloc _ _), ?_⟩
    have hj0 : Below W8.heap.size W8 (wj.alloc (.cells #[.int .u32 XA] 35)) := hj.trans ((below_alloc wj _).mono hj.size)
    have hq := fun j u hu => cell_new1 wj (.int .u32 XA) 35 wj.heap.size rfl j u hu
    clear hj
    generalize hWA : wj.alloc (.cells #[.int .u32 XA] 35) = WA at *
    refine J_loud1 13 _ rfl (by kernel_rfl) ?_
    simp only [List.getElem_toArray, List.getElem_cons_succ, List.getElem_cons_zero]
    intro wj hj
    have hj1 : Below W8.heap.size W8 wj := hj0.trans (hj.mono hj0.size)
    refine appG 25 35 infoU32r Try.underlying25 rfl (by decide) (by decide) [.int .u32 XA] rfl (by simp [Value.oneCell']) (HPO.out.grow hj1).oo rfl rfl rfl rfl (cell_ext hq hj) (by omega) (Nat.le_trans HPO.out.below.size hj1.size) ?_
    intro v2 w2 O2 G2 D2
    obtain ⟨av2, cv2, rfl⟩ := row_shape O2
    refine ⟨fun b o v hb hv => cell_grown G2 (HSB.out b hb) hv, ?_⟩
    have O2 := Lib.hid O2
    have G2 := Lib.hid G2
    have D2 := Lib.hid D2
    have HPG := Lib.hid (HPO.out.grow hj1)
    have HIw := Lib.hid ((G2.out.block bi (Nat.lt_of_lt_of_le l8i hj1.size) (HSB.out bi hs3)).trans ((hj1.block bi l8i).trans HI8.out))
    simp only [Act.put, List.setIfInBounds_toArray, List.set_cons_succ, List.set_cons_zero]
    clear hj hj0 hj1 hq hWA
    refine J_mobs [14, 15, 16] _ _ _ _ (by kernel_rfl) ?_
    simp only [List.map_cons, List.map_nil, List.getElem?_toArray, List.getElem?_cons_succ, List.getElem?_cons_zero, Option.getD_some, List.size_toArray, List.length_cons, List.length_nil, Nat.reduceAdd, Nat.reduceSub]
    repeat (go_big_quiet_step (fail))
    refine wpQuiet_nil ?_
    refine J_last 17 _ rfl (by kernel_rfl) ?_
    simp only [List.getElem_toArray, List.getElem_cons_succ, List.getElem_cons_zero]
    intro wj hj
    have G3 := grown_trans_below G2.out hj
    have HPs := Lib.hid (HPG.out.app (x := XA) G3 (own_below O2.out hj) D2.out)
    obtain ⟨c8j, f8j, lb8j⟩ := HPG.out.app0 G3
    have HIs := Lib.hid ((heap_setCell_other wj ⟨k.br, 8, none⟩ bi (.slice av2 (s.out.length + 1) cv2) (by simp only; omega)).trans ((hj.block bi (Array.getElem?_eq_some_iff.1 HIw.out).1).trans HIw.out))
    clear hj G3
    go_wp2_with fail
    refine J_done (by kernel_rfl) (fun wz hk => ?_) _
    have HPF := Lib.hid (HPs.out.grow hk)
    have HIF := Lib.hid ((hk.block bi (Array.getElem?_eq_some_iff.1 HIs.out).1).trans HIs.out)
    clear hk HPs HIs c8j f8j ca c8
    clear z0 z1 z2 z3 z4 z5 z6 z8 z9 y1 y2
    have zf := cell_of_heap HIF.out 0
    simp only [List.getElem?_toArray, List.getElem?_cons_zero, List.getElem?_cons_succ] at zf
    have lzf : bi < wz.heap.size := (Array.getElem?_eq_some_iff.1 HIF.out).1
    go_wp2_with fail
    go_end0
    rw [HME2.out]
    exact ⟨rfl, .slice (some ⟨bt, 0, none⟩) (L + 1) c, .slice av2 (s.out.length + 1) cv2, _, by rw [fin_snoc]; exact HPF.out, rfl⟩
   ·obtain ⟨nd, rfl, hnd⟩ := RD hd rfl
    clear hd ha hb hm RD
    have hi0 := HMS.out.i0
    have hi1 := HMS.out.i1
    dsimp only at hi0 hi1
    have hinp := h.ii
    obtain ⟨av, cv, hvi2, hl1, hl2, hcs⟩ := id hinp
    unfold maxLen at hl2
    obtain ⟨X, hX⟩ : ∃ X, (if s.ins + 1 ≤ (k.inp.length : Int) then k.inp.getD s.ins.toNat 0 else 0) = X := ⟨_, rfl⟩
    have V : 0 ≤ X ∧ X < 4294967296 := by
     rw [← hX]
     split
     ·rename_i hq
      have hq3 : s.ins.toNat < k.inp.length := by omega
      exact hiw _ (by simp [List.getD, hq3])
     ·exact ⟨by decide, by decide⟩
    have HME2 : Hid (M = ⟨stkF (fs ++ [{ f with i := f.i + 1, regs := f.regs.set nd X }]), false, { s with ins := s.ins + 1 }⟩) := HM.out.symm.trans (step_some HK0'.out hNL.out HI0.out (show (11 : Int) ≠ 9 by decide) (by rw [insM_11 rfl, ← hX]; rfl))
    have HX := Lib.hid hX
    have HVI := Lib.hid hvi2
    have c9 := HP8.out.c9
    have fz9 := HP8.out.fz 9
    have lb8 := HP8.out.brLt.2
    have hbrw := h.brLt.2
    have nbr : k.br ≠ f.bg := Ne.symm (FrR.neX h.fr h).1
    have HP9 := Lib.hid (HP8.out.setF 9 (.int .i64 (s.ins + 1)) { s with ins := s.ins + 1 } false rfl rfl rfl)
    have HI9 := Lib.hid ((heap_setCell_other W8 ⟨k.br, 9, none⟩ bi (.int .i64 (s.ins + 1)) (by simp only; omega)).trans HI8.out)
    have HC9 := Lib.hid ((heap_setCell_other W8 ⟨k.br, 9, none⟩ w.heap.size (.int .i64 (s.ins + 1)) (by simp only; omega)).trans HC8.out)
    clear hX hvi2 hinp hcs
    have z := fun j => cell_of_heap HI8.out j
    have z0 := z 0
    have z1 := z 1
    have z2 := z 2
    have z3 := z 3
    have z4 := z 4
    have z5 := z 5
    have z6 := z 6
    have z8 := z 8
    have z9 := z 9
    have y := fun j => cell_of_heap HC8.out j
    have y1 := y 1
    have y2 := y 2
    simp only [List.getElem?_toArray, List.getElem?_cons_zero, List.getElem?_cons_succ] at z0 z1 z2 z3 z4 z5 z6 z8 z9 y1 y2
    clear z y
    go_upto_region 35 with (fail)
    obtain ⟨W9, hW9⟩ : ∃ W9, W9 = W8.setCell ⟨k.br, 9, none⟩ (.int .i64 (s.ins + 1)) := ⟨_, rfl⟩
    rw [← hW9] at HP9 HI9 HC9 ⊢
    clear hW9 c9 fz9
    clear z0 z1 z2 z3 z4 z5 z6 z8 z9 y1 y2
    have l9i : bi < W9.heap.size := (Array.getElem?_eq_some_iff.1 HI9.out).1
    have l9c : w.heap.size < W9.heap.size := (Array.getElem?_eq_some_iff.1 HC9.out).1
    have hfr9 := HP9.out.fr
    have cz9 : W9.cell? ⟨f.bg, nd, none⟩ = some (.int .u32 (f.regs.getD nd 0)) := hfr9.cX nd hnd
    have fz9 : W9.frozen? ⟨f.bg, nd, none⟩ = false := hfr9.fz nd
    have lb9 : f.bg < W9.heap.size := hfr9.lt.2
    generalize f.regs.getD nd 0 = ZZ at cz9
    have HP10 : Hid (Pm k (W9.setCell ⟨f.bg, nd, none⟩ (.int .u32 0)) (.slice (some ⟨bt, 0, none⟩) (L + 1) c) vo { s with ins := s.ins + 1 } false (fs ++ [{ f with i := f.i + 1, regs := f.regs.set nd 0 }])) := HP9.out.setR nd 0 (by decide) (by decide)
    have HI10 := Lib.hid ((heap_setCell_other W9 ⟨f.bg, nd, none⟩ bi (.int .u32 0) (by simp only; omega)).trans HI9.out)
    have HC10 := Lib.hid ((heap_setCell_other W9 ⟨f.bg, nd, none⟩ w.heap.size (.int .u32 0) (by simp only; omega)).trans HC9.out)
    have z := fun j => cell_of_heap HI9.out j
    have z1 := z 1
    have y := fun j => cell_of_heap HC9.out j
    have y1 := y 1
    simp only [List.getElem?_toArray, List.getElem?_cons_zero, List.getElem?_cons_succ] at z1 y1
    clear z y
    go_upto_region 36 with (fail)
    obtain ⟨W10, hW10⟩ : ∃ W10, W10 = W9.setCell ⟨f.bg, nd, none⟩ (.int .u32 0) := ⟨_, rfl⟩
    rw [← hW10] at HP10 HI10 HC10 ⊢
    clear hW10 z1 y1 cz9 fz9 hfr9
    have l10i : bi < W10.heap.size := (Array.getElem?_eq_some_iff.1 HI10.out).1
    have c9 := HP10.out.c9
    have c7 := HP10.out.c7
    have lb10 := HP10.out.brLt.2
    rw [HVI.out] at c7
    obtain ⟨ni, hni⟩ := Int.eq_ofNat_of_zero_le hi0
    dsimp only at c9
    rw [hni] at c9
    have HX2 : Hid ((if (ni : Int) + 1 ≤ (k.inp.length : Int) then k.inp.getD ni 0 else 0) = X) := by
     have := HX.out
     rw [hni, Int.toNat_natCast] at this
     exact this
    have HNI := Lib.hid hni
    have hni1 : (ni : Int) ≤ 100000 := by omega
    clear hi0 hi1 hni
    refine wp_region_junk (fun _ => True) (by kernel_rfl) ?_
    refine J_mobs [0, 1, 2, 3, 4, 5, 6, 7, 8, 9, 10] _ _ _ _ (by kernel_rfl) ?_
    simp only [List.map_cons, List.map_nil, List.getElem?_toArray, List.getElem?_cons_succ, List.getElem?_cons_zero, Option.getD_some, List.size_toArray, List.length_cons, List.length_nil, Nat.reduceAdd, Nat.reduceSub]
    repeat (go_big_quiet_step (fail))
    refine wpQuiet_nil ?_
    refine J_done (by kernel_rfl) (fun wk2 hk => ?_) _
    have HP11 := Lib.hid (HP10.out.grow hk)
    have HI11 := Lib.hid ((hk.block bi l10i).trans HI10.out)
    have HC11 := Lib.hid ((hk.block w.heap.size (Array.getElem?_eq_some_iff.1 HC10.out).1).trans HC10.out)
    have l11i : bi < wk2.heap.size := (Array.getElem?_eq_some_iff.1 HI11.out).1
    have l11c : w.heap.size < wk2.heap.size := (Array.getElem?_eq_some_iff.1 HC11.out).1
    clear hk c9 c7
    by_cases hle : (ni : Int) + 1 ≤ (k.inp.length : Int)
    ·have gle : decide ((ni : Int) + 1 ≤ (k.inp.length : Int)) = true := decide_eq_true hle
     have gle2 : decide (ni + 1 ≤ k.inp.length) = true := decide_eq_true (by omega)
     have HX3 : Hid (k.inp.getD ni 0 = X) := by have := HX2.out; rw [if_pos hle] at this; exact this
     obtain ⟨av2, cv2, e2, -, -, hcs⟩ := h.ii
     rw [HVI.out] at e2
     simp only [Value.slice.injEq] at e2
     obtain ⟨rfl, -, rfl⟩ := e2
     obtain ⟨bI, oI, rfl, hcI⟩ := hcs ni (by omega)
     rw [HX3.out] at hcI
     simp only [Nat.mul_one, Nat.add_zero] at hcI
     replace hcI := Ext.below HP11.out.below _ _ hcI
     have lbI : bI < wk2.heap.size := World.block_lt_of_cell? wk2 _ hcI
     have c9 := HP11.out.c9
     have c7 := HP11.out.c7
     have lb11 := HP11.out.brLt.2
     dsimp only at c9
     rw [HNI.out] at c9
     rw [HVI.out] at c7
     have z := fun j => cell_of_heap HI11.out j
     have z1 := z 1
     have y := fun j => cell_of_heap HC11.out j
     have y1 := y 1
     simp only [List.getElem?_toArray, List.getElem?_cons_zero, List.getElem?_cons_succ] at z1 y1
     have gi1 : decide (ni < k.inp.length) = true := decide_eq_true (by omega)
     have gi2 : ni < k.inp.length := by omega
     clear z y
     go_wp2_with fail
     refine wp_region_junk (fun _ => True) (by kernel_rfl) ?_
     refine J_mobs [0, 1, 2, 3, 4, 5, 6, 7, 8, 9, 10, 11, 12, 13, 14, 15, 16] _ _ _ _ (by kernel_rfl) ?_
     simp only [List.map_cons, List.map_nil, List.getElem?_toArray, List.getElem?_cons_succ, List.getElem?_cons_zero, Option.getD_some, List.size_toArray, List.length_cons, List.length_nil, Nat.reduceAdd, Nat.reduceSub]
     repeat (go_big_quiet_step (fail))
     refine wpQuiet_nil ?_
     refine J_last 17 _ rfl (by kernel_rfl) ?_
     simp only [List.getElem_toArray, List.getElem_cons_succ, List.getElem_cons_zero]
     intro wj hj
     have hfrj := (HP11.out.grow hj).fr
     have hndj : nd < ({ f with i := f.i + 1, regs := f.regs.set nd 0 } : Kf).regs.length := by show nd < (f.regs.set nd 0).length; rw [List.length_set]; exact hnd
     have czj : wj.cell? ⟨f.bg, nd, none⟩ = some (.int .u32 ((f.regs.set nd 0).getD nd 0)) := hfrj.cX nd hndj
     have fzj : wj.frozen? ⟨f.bg, nd, none⟩ = false := hfrj.fz nd
     have lbj : f.bg < wj.heap.size := hfrj.lt.2
     generalize (f.regs.set nd 0).getD nd 0 = ZZ at czj
     have HPs : Hid (Pm k (wj.setCell ⟨f.bg, nd, none⟩ (.int .u32 X)) (.slice (some ⟨bt, 0, none⟩) (L + 1) c) vo { s with ins := s.ins + 1 } false (fs ++ [{ f with i := f.i + 1, regs := f.regs.set nd X }])) := by
      have := (HP11.out.grow hj).setR nd X V.1 V.2
      dsimp only at this
      rw [List.set_set] at this
      exact this
     have HIs := Lib.hid ((heap_setCell_other wj ⟨f.bg, nd, none⟩ bi (.int .u32 X) (by simp only; omega)).trans ((hj.block bi l11i).trans HI11.out))
     clear hj hfrj
     go_wp2_with fail
     refine J_done (by kernel_rfl) (fun wz hk => ?_) _
     have HPF := Lib.hid (HPs.out.grow hk)
     have HIF := Lib.hid ((hk.block bi (Array.getElem?_eq_some_iff.1 HIs.out).1).trans HIs.out)
     clear hk HPs HIs czj fzj z1 y1 c9 c7 hcI
     have zf := cell_of_heap HIF.out 0
     simp only [List.getElem?_toArray, List.getElem?_cons_zero, List.getElem?_cons_succ] at zf
     have lzf : bi < wz.heap.size := (Array.getElem?_eq_some_iff.1 HIF.out).1
     go_wp2_with fail
     go_end0
     rw [HME2.out]
     exact ⟨rfl, .slice (some ⟨bt, 0, none⟩) (L + 1) c, vo, _, by rw [fin_snoc]; exact HPF.out, rfl⟩
    ·have gle : decide ((ni : Int) + 1 ≤ (k.inp.length : Int)) = false := decide_eq_false hle
     have gle2 : decide (ni + 1 ≤ k.inp.length) = false := decide_eq_false (by omega)
     have HX3 : Hid (X = 0) := by have := HX2.out; rw [if_neg hle] at this; exact this.symm
     have HPF : Hid (Pm k wk2 (.slice (some ⟨bt, 0, none⟩) (L + 1) c) vo { s with ins := s.ins + 1 } false (fs ++ [{ f with i := f.i + 1, regs := f.regs.set nd X }])) := by show Pm _ _ _ _ _ _ _; rw [HX3.out]; exact HP11.out
     have HIF := HI11
     have zf := cell_of_heap HIF.out 0
     simp only [List.getElem?_toArray, List.getElem?_cons_zero, List.getElem?_cons_succ] at zf
     have lzf : bi < wk2.heap.size := (Array.getElem?_eq_some_iff.1 HIF.out).1
     go_wp2_with fail
     go_end0
     rw [HME2.out]
     exact ⟨rfl, .slice (some ⟨bt, 0, none⟩) (L + 1) c, vo, _, by rw [fin_snoc]; exact HPF.out, rfl⟩
   ·have HME2 : Hid (M = ⟨stkF (fs ++ [{ f with i := f.i + 1 }]), false, s⟩) := HM.out.symm.trans (step_some HK0'.out hNL.out HI0.out (show (12 : Int) ≠ 9 by decide) rfl)
    have HPF := HP8
    have HIF := HI8
    have zf := cell_of_heap HIF.out 0
    simp only [List.getElem?_toArray, List.getElem?_cons_zero, List.getElem?_cons_succ] at zf
    have lzf : bi < W8.heap.size := (Array.getElem?_eq_some_iff.1 HIF.out).1
    go_wp2_with fail
    go_end0
    rw [HME2.out]
    exact ⟨rfl, .slice (some ⟨bt, 0, none⟩) (L + 1) c, vo, _, by rw [fin_snoc]; exact HPF.out, rfl⟩
end
end Go.Proofs.Ytedihiodmgnlpaa
