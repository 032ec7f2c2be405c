/-
 The contract of (*irrun.runner).call, by induction on the fuel.
-/
import Derived.Test.YtchoiankeohonaaGreatDoorZInlineAll15
import Derived.Test.YtchoiankeohonaaGreatDoorZInlineAll18
import Derived.Laws.CopyOwn
import Derived.Deep.OwnRows
import Derived.Test.YtchoiankeohonaaGreatDoorZInlineAll07
set_option linter.all false
namespace Go.Proofs.YtchoiankeohonaaGreatDoor
open Go.ChangeShapes Go.WideShapes Go.ChangeAt Go.RowKit
set_option maxHeartbeats 8000000
set_option linter.unusedVariables false
set_option maxRecDepth 100000

/-- copy into a row that is known whole: that row alone turns -/
theorem copyG {P : Program} {w : World} {ops : Array Oper} {rest : List Oper} {o : Oper} {a : Act} {Q : Exit → Act → World → Prop} (hgd : o.guard = none) (d s : Operand) (dT sT : TypeId)
  (ho : o.op = .call { callee := .builtin .copy, args := #[d, s], argTypes := #[dT, sT] }) (elem : TypeId) (hu : P.underlying dT = some (.slice elem)) (hsz : (P.info? elem).map (·.size) = some 1)
  (sp : Option Addr) (dLen dCap sLen sCap : Nat) (g : Nat) (hd : a.eval d = .slice (some ⟨g, 0, none⟩) dLen dCap) (hs : a.eval s = .slice sp sLen sCap)
  (cur : List Value) (t : TypeId) (hg : w.heap[g]? = some (.cells cur.toArray t (0, 0))) (cs : List Value) (hn : cs.length = Nat.min sLen dLen)
  (hpos : 0 < cs.length → ∃ ad, sp = some ad ∧ ∀ j v, cs[j]? = some v → w.cell? (ad.add j) = some v)
  (hfit : cs.length ≤ cur.length) (h1 : ∀ v ∈ cs, v.oneCell' = true)
  (h : ∀ w', w'.heap[g]? = some (.cells (cs ++ cur.drop cs.length).toArray t (0, 0)) → w.grownBy w' (some g) → wpList P ops Q rest (a.put o.dst (goInt cs.length)) w') :
  wpList P ops Q (o :: rest) a w := by
 by_cases h0 : cs.length = 0
 ·obtain rfl : cs = [] := List.eq_nil_of_length_eq_zero h0
  refine wpList_copy_nothing hgd d s dT sT ho elem hu hsz _ sp dLen dCap sLen sCap hd hs (by simpa using hn.symm) ?_
  exact h w (by simpa using hg) ⟨rfl, rfl, rfl, Nat.le_refl _, fun _ _ _ => rfl⟩
 ·obtain ⟨ad, rfl, hsrc⟩ := hpos (by omega)
  refine wpList_copy_own hgd d s dT sT ho elem hu hsz g 0 dLen dCap ad sLen sCap hd hs cur.toArray t hg cs hn hsrc (by simpa using hfit) h1 ?_
  refine h _ ?_ ⟨rfl, rfl, rfl, by simp [World.setRow], fun k _ hk => setRow_other w g k _ (fun e => hk (by rw [e]))⟩
  simpa using setRow_heap w g _ _ t _ hg
theorem RdW.cells {w : World} {a : Option Addr} {n c : Nat} {l : List Int} (h : RdW w (.slice a n c) l) : n = l.length ∧ (0 < l.length → ∃ ad, a = some ad ∧ ∀ j v, (l.map (Value.int .u32))[j]? = some v → w.cell? (ad.add j) = some v) := by
 obtain ⟨a', c', e, h1, h2, hc⟩ := h
 simp only [Value.slice.injEq] at e
 obtain ⟨rfl, rfl, rfl⟩ := e
 refine ⟨rfl, fun h0 => ?_⟩
 obtain ⟨b, o, rfl, -⟩ := hc 0 h0
 refine ⟨_, rfl, fun j v hj => ?_⟩
 have hl : j < l.length := by
  have := (List.getElem?_eq_some_iff.1 hj).1; simpa using this
 obtain ⟨b2, o2, e2, hq⟩ := hc j hl
 simp only [Option.some.injEq, Addr.mk.injEq, and_true] at e2
 obtain ⟨rfl, rfl⟩ := e2
 have e3 : ({ block := b, off := o } : Addr).add j = ⟨b, o + j, none⟩ := by by_cases hj0 : j = 0 <;> simp [Addr.add, hj0]
 rw [e3]
 rw [List.getElem?_map] at hj
 simp only [Nat.mul_one, Nat.add_zero] at hq
 rw [hq]
 simp [List.getD, hl] at hj ⊢
 exact hj
/-- a box of one struct as an own row -/
theorem own_box {w : World} {B g : Nat} {e : TypeId} {cs : List Value} {n : Nat} (h : w.heap[g]? = some (.cells cs.toArray e (0, 0))) (hB : B ≤ g) (hn : cs.length = n) : w.ownsRow B e n (rowOf g 1) 1 cs :=
 ⟨by omega, .inr ⟨g, 1, cs.toArray, rfl, hB, h, Nat.le_refl _, by decide, by simp [hn], by rw [Nat.one_mul, List.toList_toArray, ← hn, List.take_length]⟩⟩
theorem own_baseR {w : World} {B B' s n : Nat} {e : TypeId} {v : Value} {xs : List Value} (h : w.ownsRow B e s v n xs) (hB : B' ≤ B) : w.ownsRow B' e s v n xs := by
 obtain ⟨q0, ⟨rfl, q⟩ | ⟨b, cap, cur, rfl, hb, r⟩⟩ := h
 ·exact ⟨q0, .inl ⟨rfl, q⟩⟩
 ·exact ⟨q0, .inr ⟨b, cap, cur, rfl, Nat.le_trans hB hb, r⟩⟩
theorem fw_new {k : RK} {p : Pr} {bf bg R B : Nat} {nm : ByteArray} {vob vbl vat vo : Value} {low : Int} {w2 : World} {regs : List Int} (hB : k.wp.heap.size ≤ B) (h1 : B ≤ bf) (h2 : B ≤ bg)
  (fb : w2.heap[bf]? = some (.cells #[.slice (some ⟨bg, 0, none⟩) R R, .string nm, .bool p.void, .int .i64 p.params, .int .i64 (R : Int), vob, vbl, vat, .int .i64 low] 102 (0, 0)))
  (ou : w2.ownsRow k.wp.heap.size 3 1 vat p.objs.length ((slL p.objs p.objs.length).map (Value.int .i64))) (hR : p.regs = (R : Int)) (hl : regs.length = R)
  (hq : w2.heap[bg]? = some (.cells (regs.map (Value.int .u32)).toArray 39 (0, 0))) (hw : ∀ x ∈ regs, 0 ≤ x ∧ x < 4294967296) (hR2 : R ≤ 8000) (hne : some bg ≠ vo.ownBlock) :
  Fw k p bf bg R nm vob vbl vat low w2 vo regs := by
 subst hl
 refine ⟨?_, ou, ?_, hne, hw, ⟨Nat.le_refl _, by omega⟩⟩
 ·rw [hR]; exact own_box fb (by omega) rfl
 ·exact ⟨by simp, .inr ⟨bg, regs.length, _, rfl, by omega, hq, Nat.le_refl _, by unfold maxLen; omega, by simp, by rw [Nat.mul_one]; exact List.take_of_length_le (by simp)⟩⟩
/-- a call on its way: at instruction j of block bb -/
structure CS (k : RK) (p : Pr) (n bf bg R : Nat) (nm : ByteArray) (vob vbl vat : Value) (low : Int) (dp : Int) (s : RS) (args : List Int) (top : Int) (w2 : World) (vo : Value) (wr : World) (vo' : Value) (s' : RS) (regs' : List Int) (bb j : Nat) : Prop where
 rn : Rn k wr vo' s'
 fw : Fw k p bf bg R nm vob vbl vat low wr vo' regs'
 gd : Gd s'
 kq : Kq k bg vo vo' w2 wr
 dpe : s'.deep = dp + 1
 len : regs'.length = R
 fuel : s'.fuel ≤ s.fuel
 run : ∀ K : List Fr, (K.length : Int) = dp → runM k.m k.inp s.fuel.toNat (enterM k.m K n args top s.oc) = runM k.m k.inp s'.fuel.toNat ⟨⟨n, regs', low, bb, j⟩ :: K, false, s'.oc⟩
section
variable {k : RK} {p : Pr} {n bf bg R : Nat} {nm : ByteArray} {vob vbl vat : Value} {low dp : Int} {s : RS} {args : List Int} {top : Int} {w2 : World} {vo : Value} {wr wr' : World} {vo' vo2 : Value} {s' s2 : RS} {regs' regs2 : List Int} {bb j : Nat}
theorem CS.grow (C : CS k p n bf bg R nm vob vbl vat low dp s args top w2 vo wr vo' s' regs' bb j) (hb : Below wr.heap.size wr wr') : CS k p n bf bg R nm vob vbl vat low dp s args top w2 vo wr' vo' s' regs' bb j :=
 ⟨C.rn.grow hb, C.fw.grow hb, C.gd, C.kq.trans (Kq.of_below hb), C.dpe, C.len, C.fuel, C.run⟩
/-- no fuel is left -/
theorem CS.none (C : CS k p n bf bg R nm vob vbl vat low dp s args top w2 vo wr vo' s' regs' bb j) (h0 : s'.fuel = 0) (K : List Fr) (hK : (K.length : Int) = dp) : runM k.m k.inp s.fuel.toNat (enterM k.m K n args top s.oc) = { s'.oc with e := 16 } := by
 rw [C.run K hK, h0]; rfl
/-- one step is taken -/
theorem CS.tick (C : CS k p n bf bg R nm vob vbl vat low dp s args top w2 vo wr vo' s' regs' bb j) (h0 : 1 ≤ s'.fuel) (K : List Fr) (hK : (K.length : Int) = dp) :
  runM k.m k.inp s.fuel.toNat (enterM k.m K n args top s.oc) = runM k.m k.inp (s'.fuel - 1).toNat (stepM k.m k.inp ⟨⟨n, regs', low, bb, j⟩ :: K, false, s'.oc⟩) := by
 rw [C.run K hK]
 have e : s'.fuel.toNat = (s'.fuel - 1).toNat + 1 := by omega
 rw [e, runM_succ]
/-- a box made before stays -/
theorem CS.box (C : CS k p n bf bg R nm vob vbl vat low dp s args top w2 vo wr vo' s' regs' bb j) {b : Nat} {o : Obj} (h : w2.heap[b]? = some o) (h1 : b ≠ k.br) (h2 : b ≠ k.bm) (h3 : some b ≠ vo.ownBlock) (h4 : b ≠ bg) : wr.heap[b]? = some o :=
 (C.kq.keep b (Array.getElem?_eq_some_iff.1 h).1 h1 h2 h3 h4).trans h
end
theorem end_cases {p : Pr} {b : Bk} (h : endF p b = true) : (b.fin = 1 ∧ 0 ≤ b.to ∧ b.to < (p.blks.length : Int)) ∨ (b.fin = 2 ∧ 0 ≤ b.to ∧ b.to < (p.blks.length : Int) ∧ 0 ≤ b.els ∧ b.els < (p.blks.length : Int) ∧ 0 ≤ b.a ∧ b.a < p.regs) ∨ (b.fin = 3 ∧ (b.a = -1 ∨ 0 ≤ b.a ∧ b.a < p.regs)) := by
 unfold endF at h
 by_cases h1 : b.fin = 1
 ·rw [if_pos h1] at h
  simp only [blockF, Bool.and_eq_true, decide_eq_true_eq] at h
  exact .inl ⟨h1, h.1.1, h.1.2⟩
 ·rw [if_neg h1] at h
  by_cases h2 : b.fin = 2
  ·rw [if_pos h2] at h
   simp only [blockF, Bool.and_eq_true, decide_eq_true_eq] at h
   have := regF_yes h.2.2
   exact .inr (.inl ⟨h2, h.1.1, h.1.2, h.2.1.1, h.2.1.2, this.1, this.2⟩)
  ·rw [if_neg h2] at h
   by_cases h3 : b.fin = 3
   ·rw [if_pos h3] at h
    simp only [Bool.and_eq_true] at h
    refine .inr (.inr ⟨h3, ?_⟩)
    cases hv : p.void
    ·rw [hv] at h; exact .inr (regF_yes h.1)
    ·rw [hv] at h; exact .inl (regF_no h.1)
   ·rw [if_neg h3] at h; cases h
theorem infoU32s : (Tryz.prog.info? 39).map (·.size) = some 1 := by kernel_rfl
theorem call_step {k : RK} {F : Nat} (E : Env k) (ih : ∀ F' : Nat, F' < F → CallOK k F') : CallOK k F := by
 intro w vo s n args va top h hg hF hn hva hal haw ht0 ht1
 have hP := okM_proc E.ok hn
 have hH := okP_head hP
 have hmd := h.md
 obtain ⟨vg, vd, vp, e, -, -, hps⟩ := hmd
 have evp : k.vp = vp := by simp only [Value.agg.injEq, Array.mk.injEq, List.cons.injEq] at e; exact e.2.2.1
 rw [← evp] at hps
 clear e evp vg vd vp
 have hps' := hps
 obtain ⟨avp, cvp, evp, hp1, hp2, -⟩ := hps'
 rw [evp] at hps
 obtain ⟨bp, op, nm, vob, vbl, hap, hto, htb, t0, t1, t2, t3, t4, t5⟩ := (RdPrs.at6 hps).2 n hn
 subst hap
 have cP : w.cell? ⟨k.br, 2, none⟩ = some (.slice (some ⟨bp, op, none⟩) k.m.procs.length cvp) := by rw [h.c 2 (by decide), ← evp]; rfl
 unfold maxLen at hp2
 have hX : Ext k.wp w := Ext.below h.below
 have x0 := hX _ _ t0
 have x1 := hX _ _ t1
 have x2 := hX _ _ t2
 have x3 := hX _ _ t3
 have x4 := hX _ _ t4
 have x5 := hX _ _ t5
 clear t0 t1 t2 t3 t4 t5 hps
 change w.cell? _ = some (.bool (pk k.m n).void) at x1
 change w.cell? _ = some (.int .i64 (pk k.m n).params) at x2
 change w.cell? _ = some (.int .i64 (pk k.m n).regs) at x3
 change RdSls k.wp vob (pk k.m n).objs at hto
 change RdBks k.wp vbl (pk k.m n).blks at htb
 obtain ⟨p, hp⟩ : ∃ p, pk k.m n = p := ⟨_, rfl⟩
 rw [hp] at x1 x2 x3 hto htb hP hH hal
 have lbr := h.brLt.2
 have lbp : bp < w.heap.size := World.block_lt_of_cell? w _ x1
 have HR := Lib.hid h
 have HG := Lib.hid hg
 have HP := Lib.hid hp
 have hnl : decide (k.m.procs.length ≤ n) = false := decide_eq_false (by omega)
 have hR0 : 0 ≤ p.regs := by have := hH.p0; have := hH.pr; omega
 obtain ⟨R, hR⟩ := Int.eq_ofNat_of_zero_le hR0
 have hRb : R ≤ 8000 := by have := hH.r8; omega
 have HRR := Lib.hid hR
 rw [hR] at x3
 have hPL := Lib.hid (fun w' hb => place_c p.objs vob w' (hto.ext (Ext.below (h.below.trans (Below.mono hb h.below.size)))) (slot_sizes hH.sl) (by have := hH.ol; omega))
 have hSE := slE_small hH.sl hH.ol p.objs.length (Nat.le_refl _)
 obtain ⟨hse0, hse1⟩ := hSE
 have HTB := Lib.hid htb
 have HVA := Lib.hid hva
 obtain ⟨aao, cao, rfl, -⟩ := hva
 have hvo' := hto
 obtain ⟨aob, cob, rfl, -⟩ := hvo'
 obtain ⟨abl, cbl, rfl, hb1, hb2, -⟩ := htb
 unfold maxLen at hb2
 have HH := Lib.hid hH
 clear hR hR0 hto h hg hp evp hp1 hX hH
 go_enter Tryz.func28, Tryz.ntmps28
 go_wp2_with fail
 obtain ⟨W0, hW0⟩ : ∃ W0, W0 = w.alloc (.cells #[.string nm, .bool p.void, .int .i64 p.params, .int .i64 (R : Int), .slice aob p.objs.length cob, .slice abl p.blks.length cbl] 35) := ⟨_, rfl⟩
 have B0 : Hid (Below w.heap.size w W0) := by rw [hW0]; exact below_alloc w _
 have H0 := Lib.hid (heap_of_alloc w _ _ hW0)
 have hz0 : W0.heap.size = w.heap.size + 1 := by rw [hW0]; simp
 rw [← hW0]
 clear hW0 x0 x1 x2 x3 x4 x5 cP
 refine (hPL W0 B0.out).mono ?_
 rintro e w1 ⟨u, rfl, ou, hb1⟩
 have OU := Lib.hid (own_baseR ou (B' := k.wp.heap.size) (by have := HR.out.below.size; omega))
 have B1 := Lib.hid hb1
 have hs1 := hb1.size
 obtain ⟨au, cu, rfl⟩ := row_shape ou
 clear ou hb1 hPL
 go_wp2_with fail
 have y := fun j => cell_of_heap ((B1.out.block w.heap.size (by omega)).trans H0.out) j
 have y0 := y 0
 have y1 := y 1
 have y2 := y 2
 have y3 := y 3
 have y4 := y 4
 have y5 := y 5
 simp only [List.getElem?_toArray, List.getElem?_cons_zero, List.getElem?_cons_succ] at y0 y1 y2 y3 y4 y5
 clear y
 have lbx : w.heap.size < w1.heap.size := by omega
 have hmk := run_make_row' (P := Tryz.prog) 27 39 (.int .u32 0) 4 Tryz.underlying27 infoU32r rfl .i64 .i64 R (by omega) (by omega)
 have hsE : 0 ≤ slE p.objs p.objs.length := hse0
 obtain ⟨LO, hLO⟩ : ∃ x, slE p.objs p.objs.length = x := ⟨_, rfl⟩
 have HLO := Lib.hid hLO
 rw [hLO] at hse0 hse1 ⊢
 clear hLO hsE
 refine wp_region_junk (fun _ => True) (by kernel_rfl) ?_
 refine J_mobs [0, 1, 4, 5, 6, 7, 8] _ _ _ _ (by kernel_rfl) ?_
 simp only [List.map_cons, List.map_nil, List.getElem?_toArray, List.getElem?_cons_succ, List.getElem?_cons_zero, Option.getD_some, List.size_toArray, List.length_cons, List.length_nil, Nat.reduceAdd, Nat.reduceSub]
 repeat (go_big_quiet_step (fail))
 refine wpQuiet_nil ?_
 refine J_loud1 2 _ rfl (by kernel_rfl) ?_
 simp only [List.getElem_toArray, List.getElem_cons_succ, List.getElem_cons_zero]
 intro wj hj
 go_wp2_with fail
 refine ⟨KeepX.below (below_alloc _ _), ?_⟩
 obtain ⟨wa, rfl⟩ : ∃ wa : World, wa = wj := ⟨_, rfl⟩
 obtain ⟨WA, hWA⟩ : ∃ WA, WA = wa.alloc (.cells (madeCells #[.int .u32 0] R) 39) := ⟨_, rfl⟩
 have HRG := Lib.hid (heap_of_alloc wa _ _ hWA)
 have hzA : WA.heap.size = wa.heap.size + 1 := by rw [hWA]; simp
 have BA : Hid (Below wa.heap.size wa WA) := by rw [hWA]; exact below_alloc wa _
 have HJ1 := Lib.hid hj
 have hsa := hj.size
 rw [← hWA]
 clear hWA hj hmk
 refine J_mobs [3, 9] _ _ _ _ (by kernel_rfl) ?_
 simp only [List.map_cons, List.map_nil, List.getElem?_toArray, List.getElem?_cons_succ, List.getElem?_cons_zero, Option.getD_some, List.size_toArray, List.length_cons, List.length_nil, Nat.reduceAdd, Nat.reduceSub]
 repeat (go_big_quiet_step (fail))
 refine wpQuiet_nil ?_
 refine J_loud1 10 _ rfl (by kernel_rfl) ?_
 simp only [List.getElem_toArray, List.getElem_cons_succ, List.getElem_cons_zero]
 intro wj hj
 go_wp2_with fail
 refine ⟨KeepX.below (below_alloc _ _), ?_⟩
 obtain ⟨WF, hWF⟩ : ∃ WF, WF = wj.alloc (.cells #[.slice (some ⟨wa.heap.size, 0, none⟩) R R, .string nm, .bool p.void, .int .i64 p.params, .int .i64 (R : Int), .slice aob p.objs.length cob, .slice abl p.blks.length cbl, .slice au p.objs.length cu, .int .i64 (top - LO)] 102) := ⟨_, rfl⟩
 have HFB := Lib.hid (heap_of_alloc wj _ _ hWF)
 have hzF : WF.heap.size = wj.heap.size + 1 := by rw [hWF]; simp
 have BF : Hid (Below wj.heap.size wj WF) := by rw [hWF]; exact below_alloc wj _
 have HJ2 := Lib.hid hj
 have hsf := hj.size
 rw [← hWF]
 clear hWF hj y0 y1 y2 y3 y4 y5
 refine J_mobs [11] _ _ _ _ (by kernel_rfl) ?_
 simp only [List.map_cons, List.map_nil, List.getElem?_toArray, List.getElem?_cons_succ, List.getElem?_cons_zero, Option.getD_some, List.size_toArray, List.length_cons, List.length_nil, Nat.reduceAdd, Nat.reduceSub]
 repeat (go_big_quiet_step (fail))
 refine wpQuiet_nil ?_
 refine J_done (by kernel_rfl) (fun wk hk => ?_) _
 have hsk := hk.size
 have BJ : Hid (Below w1.heap.size w1 wk) := (((HJ1.out.trans (BA.out.mono hsa)).trans (HJ2.out.mono (by omega))).trans (BF.out.mono (by omega))).trans (hk.mono (by omega))
 have B01 : Hid (Below w.heap.size w w1) := B0.out.trans (B1.out.mono (by omega))
 have BW : Hid (Below w.heap.size w wk) := B01.out.trans (BJ.out.mono (by omega))
 have HPB := Lib.hid ((BJ.out.block w.heap.size lbx).trans ((B1.out.block w.heap.size (by omega)).trans H0.out))
 have HRG := Lib.hid ((hk.block wa.heap.size (by omega)).trans ((BF.out.block wa.heap.size (by omega)).trans ((HJ2.out.block wa.heap.size (by omega)).trans HRG.out)))
 have HFB := Lib.hid ((hk.block wj.heap.size (by omega)).trans HFB.out)
 have OU := Lib.hid (own_below OU.out BJ.out)
 have q1 : w.heap.size < wa.heap.size := by omega
 have q2 : wa.heap.size < wj.heap.size := by omega
 have q3 : wj.heap.size < wk.heap.size := by omega
 generalize wj.heap.size = bf at *
 generalize wa.heap.size = bg at *
 clear HJ1 HJ2 BA BF B0 B1 H0 hsa hsf hzA hzF hk hsk hs1 hz0 BJ B01
 have c6 := (HR.out.grow BW.out).cEnd
 have c13 := (HR.out.grow BW.out).cDeep
 have f8 := cell_of_heap HFB.out 8
 simp only [List.getElem?_toArray, List.getElem?_cons_zero, List.getElem?_cons_succ] at f8
 have lbrk : k.br < wk.heap.size := by have := (HR.out.grow BW.out).brLt.2; exact this
 have HEN := Lib.hid E.en
 have HE1 := Lib.hid E.en1
 have henter : Hid (∀ K : List Fr, (K.length : Int) = s.deep → top - LO < k.en ∨ s.deep = 5000 → enterM k.m K n args top s.oc = ⟨K, true, { s.oc with e := 8 }⟩) := fun K hK hc => by
  unfold enterM longM
  rw [HP.out, HLO.out, ← HEN.out, if_pos (by omega)]
 have hent2 : Hid (∀ K : List Fr, (K.length : Int) = s.deep → ¬ (top - LO < k.en ∨ s.deep = 5000) → enterM k.m K n args top s.oc = ⟨⟨n, args ++ List.replicate (R - args.length) 0, top - LO, 0, 0⟩ :: K, false, s.oc⟩) := fun K hK hc => by
  have := HG.out.d1
  unfold enterM longM
  rw [HP.out, HLO.out, ← HEN.out, HRR.out, if_neg (by omega)]
  rfl
 have hD1 := HG.out.d1
 have hD0 := HG.out.d0
 obtain ⟨dp, hdp⟩ : ∃ dp, s.deep = dp := ⟨_, rfl⟩
 rw [hdp] at c13 henter hent2 hD1 hD0
 have HDP := Lib.hid hdp
 clear hdp
 by_cases hlow : top - LO < k.en
 ·have g := decide_eq_true hlow
  have HLW : Hid (top - LO < k.en ∨ dp = 5000) := .inl hlow
  clear hlow
  go_wp2_with fail
  refine wp_region_junk (fun _ => True) (by kernel_rfl) ?_
  refine J_mobs [0, 1, 2, 3, 4, 5, 6, 7, 8, 9, 10, 11, 12, 13, 14, 15] _ _ _ _ (by kernel_rfl) ?_
  simp only [List.map_cons, List.map_nil, List.getElem?_toArray, List.getElem?_cons_succ, List.getElem?_cons_zero, Option.getD_some, List.size_toArray, List.length_cons, List.length_nil, Nat.reduceAdd, Nat.reduceSub]
  repeat (go_big_quiet_step (fail))
  refine wpQuiet_nil ?_
  refine J_done (by kernel_rfl) (fun wl hl => ?_) _
  have hr1 := HR.out.grow (BW.out.trans (hl.mono BW.out.size))
  have HSt := Lib.hid (stop_c hr1 8)
  have HKs := Lib.hid (Kp.of_below (k := k) (vo := vo) (BW.out.trans (hl.mono BW.out.size)))
  clear hr1 c6 c13 f8
  go_wp2_with fail
  refine HSt.out.mono ?_
  rintro e w5 ⟨rfl, hr5, hk5⟩
  have hr5 := Lib.hid hr5
  have hk5 := Lib.hid hk5
  go_wp2_with fail
  go_ret2
  exact ⟨vo, _, 0, false, rfl, hr5.out, HKs.out.trans hk5.out, ⟨by decide, by decide⟩, (fun h => by cases h), fun K hK => by
   rw [henter.out K (by rw [← HDP.out]; exact hK) HLW.out, runM_fin _ _ _ _ rfl]; rfl⟩
 ·have g := decide_eq_false hlow
  by_cases hdd : dp = 5000
  ·have g2 : (dp == 5000) = true := beq_iff_eq.2 hdd
   have HLW : Hid (top - LO < k.en ∨ dp = 5000) := .inr hdd
   clear hlow hdd
   go_wp2_with fail
   refine wp_region_junk (fun _ => True) (by kernel_rfl) ?_
   refine J_mobs [0, 1, 2, 3, 4, 5, 6, 7, 8, 9, 10, 11, 12, 13, 14, 15] _ _ _ _ (by kernel_rfl) ?_
   simp only [List.map_cons, List.map_nil, List.getElem?_toArray, List.getElem?_cons_succ, List.getElem?_cons_zero, Option.getD_some, List.size_toArray, List.length_cons, List.length_nil, Nat.reduceAdd, Nat.reduceSub]
   repeat (go_big_quiet_step (fail))
   refine wpQuiet_nil ?_
   refine J_done (by kernel_rfl) (fun wl hl => ?_) _
   have hr1 := HR.out.grow (BW.out.trans (hl.mono BW.out.size))
   have HSt := Lib.hid (stop_c hr1 8)
   have HKs := Lib.hid (Kp.of_below (k := k) (vo := vo) (BW.out.trans (hl.mono BW.out.size)))
   clear hr1 c6 c13 f8
   go_wp2_with fail
   refine HSt.out.mono ?_
   rintro e w5 ⟨rfl, hr5, hk5⟩
   have hr5 := Lib.hid hr5
   have hk5 := Lib.hid hk5
   go_wp2_with fail
   go_ret2
   exact ⟨vo, _, 0, false, rfl, hr5.out, HKs.out.trans hk5.out, ⟨by decide, by decide⟩, (fun h => by cases h), fun K hK => by
    rw [henter.out K (by rw [← HDP.out]; exact hK) HLW.out, runM_fin _ _ _ _ rfl]; rfl⟩
  ·have g2 : (dp == 5000) = false := beq_eq_false_iff_ne.2 hdd
   have hent2 := Lib.hid (fun K hK => hent2.out K hK (by omega))
   have HL0 : 4096 ≤ top - LO := by have := HE1.out; omega
   have hd49 : dp ≤ 4999 := by omega
   clear hlow hdd henter
   go_wp2_with fail
   refine wp_region_junk (fun _ => True) (by kernel_rfl) ?_
   refine J_mobs [0, 1, 2, 3, 4, 5, 6, 7, 8, 9, 10, 11, 12, 13, 14, 15] _ _ _ _ (by kernel_rfl) ?_
   simp only [List.map_cons, List.map_nil, List.getElem?_toArray, List.getElem?_cons_succ, List.getElem?_cons_zero, Option.getD_some, List.size_toArray, List.length_cons, List.length_nil, Nat.reduceAdd, Nat.reduceSub]
   repeat (go_big_quiet_step (fail))
   refine wpQuiet_nil ?_
   refine J_done (by kernel_rfl) (fun wl hl => ?_) _
   have hsl := hl.size
   have BW := Lib.hid (BW.out.trans (hl.mono BW.out.size))
   have HPB := Lib.hid ((hl.block w.heap.size (by omega)).trans HPB.out)
   have HRG := Lib.hid ((hl.block bg (by omega)).trans HRG.out)
   have HFB := Lib.hid ((hl.block bf (by omega)).trans HFB.out)
   have OU := Lib.hid (own_below OU.out hl)
   have HRG : Hid (wl.heap[bg]? = some (.cells (List.replicate R (Value.int .u32 0)).toArray 39 (0, 0))) := by
    show _ = _
    rw [HRG.out]
    congr 2
    rw [← toList_madeCells_one, Array.toArray_toList]
   have f0 := cell_of_heap HFB.out 0
   simp only [List.getElem?_toArray, List.getElem?_cons_zero, List.getElem?_cons_succ] at f0
   have lbf : bf < wl.heap.size := by omega
   have lbg : bg < bf := q2
   have lbwg : w.heap.size < bg := q1
   clear c6 c13 f8 hl
   have hVA := RdW.cells (HVA.out.ext (Ext.below BW.out))
   have hpar : args.length ≤ R := by have := HH.out.pr; have := HRR.out; omega
   have HCP : Hid (∀ w2, w2.heap[bg]? = some (.cells (args.map (Value.int .u32) ++ (List.replicate R (Value.int .u32 0)).drop (args.map (Value.int .u32)).length).toArray 39 (0, 0)) → wl.grownBy w2 (some bg) → Rn k w2 vo s ∧ Below w.heap.size w w2 ∧ Fw k p bf bg R nm (.slice aob p.objs.length cob) (.slice abl p.blks.length cbl) (.slice au p.objs.length cu) (top - LO) w2 vo (args ++ List.replicate (R - args.length) 0) ∧ w2.heap[w.heap.size]? = some (.cells #[.string nm, .bool p.void, .int .i64 p.params, .int .i64 (R : Int), .slice aob p.objs.length cob, .slice abl p.blks.length cbl] 35 (0, 0)) ∧ bf < w2.heap.size) := fun w2 hq G => by
    have B2 : Below w.heap.size w w2 := below_grown BW.out G BW.out.size (fun b hb => by cases hb; omega)
    have R2 := HR.out.grow B2
    refine ⟨R2, B2, ?_, (G.block w.heap.size (by omega) (by simp; omega)).trans HPB.out, Nat.lt_of_lt_of_le lbf G.size⟩
    have hkB := HR.out.below.size
    have hpr := HRR.out
    refine fw_new hkB (by omega) (by omega) ((G.block bf lbf (by simp; omega)).trans HFB.out) ?_ hpr (by simp; omega) ?_ ?_ (by omega) ?_
    ·have := OU.out.kept G (rows_neR OU.out (show wl.ownsRow k.wp.heap.size 39 1 (.slice (some ⟨bg, 0, none⟩) R R) R (List.replicate R (Value.int .u32 0)) from ⟨by simp, .inr ⟨bg, R, _, rfl, by omega, HRG.out, Nat.le_refl _, by unfold maxLen; omega, by simp, by simp⟩⟩) (by decide))
     exact this
    ·rw [hq]
     congr 3
     simp
    ·intro x hx
     rcases List.mem_append.1 hx with h2 | h2
     ·exact haw x h2
     ·rw [List.eq_of_mem_replicate h2]; exact ⟨by decide, by decide⟩
    ·intro e; have := (own_lt HR.out.oo e.symm).2; omega
   have HCP := Lib.hid HCP
   obtain ⟨hva1, hva2⟩ := hVA
   have HVA2 := Lib.hid hva2
   have HD0 : Hid (∀ x, x = s.deep → x = dp) := fun x hx => by rw [hx]; exact HDP.out
   clear hva2 hva1
   go_wp2_with (refine copyG rfl _ _ 27 27 rfl 39 Tryz.underlying27 infoU32s aao R R args.length cao bg rfl rfl (List.replicate R (.int .u32 0)) 39 HRG.out (args.map (Value.int .u32)) (by rw [List.length_map]; exact (Nat.min_eq_left hpar).symm) (by rw [List.length_map]; exact HVA2.out) (by rw [List.length_map, List.length_replicate]; exact hpar) (by intro v hv; obtain ⟨x, -, rfl⟩ := List.mem_map.1 hv; rfl) ?_; intro w2 hq G; obtain ⟨R2, B2, F2, P2, z2⟩ := HCP.out w2 hq G; have c13 := R2.cDeep; rw [HDP.out] at c13; have fz := R2.frz 13; have lb2 := R2.brLt.2; clear hq G; have R2 := Lib.hid R2; have B2 := Lib.hid B2; have F2 := Lib.hid F2; have P2 := Lib.hid P2)
   have B2' := B2.out
   obtain ⟨R3, K3⟩ := R2.out.setF 13 (.int .i64 (dp + 1)) { s with deep := dp + 1 } rfl rfl rfl
   have F3 := F2.out.keep R2.out K3
   have ddp : dp + 1 ≤ 5000 := by omega
   have C3 : CS k p n bf bg R nm (.slice aob p.objs.length cob) (.slice abl p.blks.length cbl) (.slice au p.objs.length cu) (top - LO) dp s args top w2 vo (w2.setCell ⟨k.br, 13, none⟩ (.int .i64 (dp + 1))) vo { s with deep := dp + 1 } (args ++ List.replicate (R - args.length) 0) 0 0 :=
    ⟨R3, F3, ⟨HG.out.mem, HG.out.i0, HG.out.i1, HG.out.o1, HG.out.f0, by dsimp only; omega, ddp⟩, K3.q bg, rfl, by simp; omega, Int.le_refl _, fun K hK => by rw [hent2.out K hK]; rfl⟩
   have HPX : Hid (w.heap.size ≠ k.br ∧ w.heap.size ≠ k.bm ∧ some w.heap.size ≠ vo.ownBlock ∧ w.heap.size ≠ bg) := by
    refine ⟨by omega, ?_, ?_, by omega⟩
    ·have := HR.out.bmLt; omega
    ·intro e; have := (own_lt HR.out.oo e.symm).2; omega
   have C3 := Lib.hid C3
   have hbl : 0 < p.blks.length := by have := HH.out.b1; omega
   clear R3 K3 F3 HFB OU HCP f0 c13 fz lb2 HVA2 B2' F2
   generalize w2.setCell ⟨k.br, 13, none⟩ (.int .i64 (dp + 1)) = W3 at C3 ⊢
   go_loopg [14] s.fuel.toNat (fun q b wr => ∃ (vo' : Value) (s' : RS) (regs' : List Int) (bb : Nat), b = .int .i64 (bb : Int) ∧ bb < p.blks.length ∧ Hid (q = s'.fuel.toNat) ∧ Hid (CS k p n bf bg R nm (.slice aob p.objs.length cob) (.slice abl p.blks.length cbl) (.slice au p.objs.length cu) (top - LO) dp s args top w2 vo wr vo' s' regs' bb 0))
   case atStart => exact ⟨vo, { s with deep := dp + 1 }, args ++ List.replicate (R - args.length) 0, 0, rfl, hbl, rfl, C3⟩
   case round =>
    clear C3
    obtain ⟨vo', s', regs', bb, rfl, hbb, HQ, C⟩ := hrel
    obtain ⟨bk, okk, vi, hab, hins, z0, z1, z2, z3, z4⟩ := (RdBks.at HTB.out).2 bb hbb
    subst hab
    have X := Ext.below C.out.rn.below
    replace z0 := X _ _ z0
    replace z1 := X _ _ z1
    replace z2 := X _ _ z2
    replace z3 := X _ _ z3
    replace z4 := X _ _ z4
    clear X
    have hOB := okP_blk hP hbb
    have HNUM : Hid (∀ i ∈ (p.blks.getD bb default).ins, 0 ≤ i.num ∧ i.num < 4294967296) := fun i hi => by
     have h1 : p ∈ k.m.procs := by rw [← HP.out]; unfold pk; simp [List.getD, hn]
     have h2 : p.blks.getD bb default ∈ p.blks := by simp [List.getD, hbb]
     exact (((E.num.procs p h1).blks _ h2).ins i hi).num
    have HBE : Hid (∀ fr : Fr, fr.n = n → fr.b = bb → insOf k fr = (p.blks.getD bb default).ins ∧ (pk k.m fr.n).blks.getD fr.b default = p.blks.getD bb default) := fun fr h1 h2 => by
     unfold insOf; rw [h1, h2, HP.out]; exact ⟨rfl, rfl⟩
    generalize p.blks.getD bb default = B at *
    obtain ⟨ai, ci, rfl, hi1, hi2, -⟩ := id hins
    have HINS := Lib.hid (RdIns.at hins).2
    clear hins
    unfold maxLen at hi2
    have hOB := Lib.hid hOB
    have HPr := Lib.hid (C.out.box P2.out HPX.out.1 HPX.out.2.1 HPX.out.2.2.1 HPX.out.2.2.2)
    have u5 := cell_of_heap HPr.out 5
    simp only [List.getElem?_toArray, List.getElem?_cons_zero, List.getElem?_cons_succ] at u5
    have lbk : bk < wr.heap.size := World.block_lt_of_cell? wr _ z1
    have lbw : w.heap.size < wr.heap.size := World.block_lt_of_cell? wr _ u5
    obtain ⟨W5, hW5⟩ : ∃ W5, W5 = wr.alloc (.cells #[.slice ai B.ins.length ci, .int .i64 B.fin, .int .i64 B.a, .int .i64 B.to, .int .i64 B.els] 51) := ⟨_, rfl⟩
    have HXB := Lib.hid (heap_of_alloc wr _ _ hW5)
    have B5 : Hid (Below wr.heap.size wr W5) := by rw [hW5]; exact below_alloc wr _
    have C5 := Lib.hid (C.out.grow B5.out)
    go_wp2_with fail
    rw [← hW5]
    clear hW5 z0 z1 z2 z3 z4 u5
    have HXN : Hid (wr.heap.size ≠ k.br ∧ wr.heap.size ≠ k.bm ∧ some wr.heap.size ≠ vo'.ownBlock ∧ wr.heap.size ≠ bg) := by
     refine ⟨?_, ?_, ?_, ?_⟩
     ·have := C.out.rn.brLt; omega
     ·have := C.out.rn.bmLt; omega
     ·intro e; have := (own_lt C.out.rn.oo e.symm).2; omega
     ·have := C.out.fw.bgLt; omega
    generalize wr.heap.size = bx at *
    obtain ⟨wo, rfl⟩ : ∃ wo : World, wo = wr := ⟨_, rfl⟩
    go_loopw [83] (fun i wq => ∃ (j : Nat) (vo1 : Value) (s1 : RS) (regs1 : List Int), i = .int .i64 (j : Int) ∧ j ≤ B.ins.length ∧ Hid (CS k p n bf bg R nm (.slice aob p.objs.length cob) (.slice (some ⟨bk, okk, none⟩) p.blks.length cbl) (.slice au p.objs.length cu) (top - LO) dp s args top w2 vo wq vo1 s1 regs1 bb j) ∧ Hid (Kq k bg vo' vo1 W5 wq) ∧ Hid (s1.fuel ≤ s'.fuel)) (fun i _ => B.ins.length - (intOf i).toNat)
    case atStart => exact ⟨0, vo', s', regs', rfl, Nat.zero_le _, C5, Kq.refl _ _ _ _, Int.le_refl _⟩
    case round =>
     clear C C5
     obtain ⟨j, vo1, s1, regs1, rfl, hj, C, KQ, HF1⟩ := hrel
     have HXB1 := Lib.hid ((KQ.out.keep bx (Array.getElem?_eq_some_iff.1 HXB.out).1 HXN.out.1 HXN.out.2.1 HXN.out.2.2.1 HXN.out.2.2.2).trans HXB.out)
     have lbx1 : bx < wr.heap.size := (Array.getElem?_eq_some_iff.1 HXB1.out).1
     by_cases hlt : j < B.ins.length
     ·obtain ⟨bi, oi, vai, rfl, -, hai, z0, z1, z2, z3, z4, z5, z6, z7, z8, z9, z10⟩ := HINS.out j hlt
      have X := Ext.below C.out.rn.below
      replace z0 := X _ _ z0
      replace z1 := X _ _ z1
      replace z2 := X _ _ z2
      replace z3 := X _ _ z3
      replace z4 := X _ _ z4
      replace z5 := X _ _ z5
      replace z6 := X _ _ z6
      replace z7 := X _ _ z7
      replace z8 := X _ _ z8
      replace z9 := X _ _ z9
      replace z10 := X _ _ z10
      clear X
      have HOI := Lib.hid (okB_ins hOB.out hlt)
      have HNU := Lib.hid (HNUM.out (B.ins.getD j default) (by simp [List.getD, hlt]))
      have HAI := Lib.hid hai
      have HGI : Hid (∃ i, i = B.ins.getD j default) := ⟨_, rfl⟩
      obtain ⟨I, hI⟩ := HGI.out
      rw [← hI] at z0 z1 z2 z3 z4 z5 z6 z7 z8 z10 HOI HNU HAI
      have HII := Lib.hid hI
      clear hai
      obtain ⟨aia, cia, rfl, -⟩ := id HAI.out
      clear hI HGI
      have lbi : bi < wr.heap.size := World.block_lt_of_cell? wr _ z1
      obtain ⟨W6, hW6⟩ : ∃ W6, W6 = wr.alloc (.cells #[.int .i64 I.op, .int .i64 I.d, .int .i64 I.a, .int .i64 I.b, .int .i64 I.fn, .int .i64 I.obj, .int .i64 I.off, .int .i64 I.size, .int .u32 I.num, .slice aia I.args.length cia, .bool I.log] 48) := ⟨_, rfl⟩
      have HIB := Lib.hid (heap_of_alloc wr _ _ hW6)
      have B6 : Hid (Below wr.heap.size wr W6) := by rw [hW6]; exact below_alloc wr _
      have C6 := Lib.hid (C.out.grow B6.out)
      go_wp2_with fail
      rw [← hW6]
      clear hW6 z0 z1 z2 z3 z4 z5 z6 z7 z8 z9 z10
      by_cases hf0 : s1.fuel = 0
      ·have HSn := Lib.hid (step_no C6.out.rn hf0)
       have HNo := Lib.hid (C.out.none hf0)
       clear hf0
       refine HSn.out.mono ?_
       rintro e w7 ⟨rfl, hr7, hk7⟩
       have hr7 := Lib.hid hr7
       have hkF := Lib.hid (Kq.p B2.out (C6.out.kq.trans (hk7.q bg)) (by omega))
       clear hk7
       go_wp2_with fail
       go_ret2
       exact ⟨vo1, _, 0, false, rfl, hr7.out, hkF.out, ⟨by decide, by decide⟩, (fun h => by cases h), fun K hK => by rw [HNo.out K (hK.trans HDP.out)]; rfl⟩
      ·have hfl1 : 1 ≤ s1.fuel := by have := C.out.gd.f0; omega
       have hfl2 : s1.fuel ≤ 10000000 := by have := C.out.gd.i0; have := C.out.gd.i1; omega
       have HSy := Lib.hid (step_yes C6.out.rn hfl1 hfl2)
       have HTk := Lib.hid (C.out.tick hfl1)
       have hflF : (s1.fuel - 1).toNat < F := by have := C.out.fuel; omega
       have hg7 : Gd { s1 with fuel := s1.fuel - 1 } := ⟨C.out.gd.mem, C.out.gd.i0, by have := C.out.gd.i1; dsimp only; omega, by have := C.out.gd.o1; dsimp only; omega, by dsimp only; omega, C.out.gd.d0, C.out.gd.d1⟩
       have hs71 : s1.ins + (s1.fuel - 1) + 1 ≤ 10000000 := by have := C.out.gd.i1; omega
       have hs72 : (s1.out.length : Int) + (s1.fuel - 1) + 1 ≤ 10000000 := by have := C.out.gd.o1; omega
       have hflt : s1.fuel - 1 ≤ (((s1.fuel - 1).toNat : Nat) : Int) := by omega
       have hrl : (regs1.length : Int) = p.regs := by rw [C.out.len, HRR.out]
       have HG7 := Lib.hid hg7
       have Hq1 := Lib.hid hs71
       have Hq2 := Lib.hid hs72
       have Hq3 := Lib.hid hflt
       have Hq4 := Lib.hid hrl
       have Hq5 := Lib.hid hflF
       clear hf0 hg7 hs71 hs72 hflt hrl hflF hfl1 hfl2
       refine HSy.out.mono ?_
       rintro e w7 ⟨rfl, hr7, hk7⟩
       have F7 := Lib.hid (C6.out.fw.keep C6.out.rn hk7)
       have K57 := Lib.hid ((KQ.out.trans (Kq.of_below B6.out)).trans (hk7.q bg))
       have K27 := Lib.hid (C6.out.kq.trans (hk7.q bg))
       have HIB7 := Lib.hid ((hk7.keep wr.heap.size (Array.getElem?_eq_some_iff.1 HIB.out).1 (by have := C.out.rn.brLt; omega) (by have := C.out.rn.bmLt; omega) (by intro e; have := (own_lt C.out.rn.oo e.symm).2; omega)).trans HIB.out)
       have hr7 := Lib.hid hr7
       clear hk7
       have y := fun j => cell_of_heap HIB7.out j
       have y0 := y 0
       have y1 := y 1
       have y2 := y 2
       have y3 := y 3
       have y4 := y 4
       have y5 := y 5
       have y6 := y 6
       have y7 := y 7
       have y8 := y 8
       have y9 := y 9
       have y10 := y 10
       simp only [List.getElem?_toArray, List.getElem?_cons_zero, List.getElem?_cons_succ] at y0 y1 y2 y3 y4 y5 y6 y7 y8 y9 y10
       have lbi7 : wr.heap.size < w7.heap.size := (Array.getElem?_eq_some_iff.1 HIB7.out).1
       clear y
       go_wp2_with fail
       clear y0 y1 y2 y3 y4 y5 y6 y7 y8 y9 y10
       have hBE := HBE.out ⟨n, regs1, top - LO, bb, j⟩ rfl rfl
       refine (insR_c (ih _ Hq5.out) E hr7.out F7.out HG7.out Hq1.out Hq2.out Hq3.out I _ HAI.out HOI.out HNU.out ⟨HH.out.sl, HH.out.ol⟩ ⟨by omega, by omega⟩ Hq4.out ⟨n, regs1, top - LO, bb, j⟩ rfl HP.out rfl (by rw [hBE.1]; exact hlt) (by rw [hBE.1]; exact HII.out.symm)).mono ?_
       clear hBE
       intro e w8 hst
       obtain ⟨vo3, s3, regs3, ok, rfl, hr8, hf8, hk8, hok8, hM8⟩ := hst
       have hr8 := Lib.hid hr8
       have hf8 := Lib.hid hf8
       have K58 := Lib.hid (K57.out.trans hk8)
       have K28 := Lib.hid (K27.out.trans hk8)
       have hkF := Lib.hid (Kq.p B2.out K28.out (by omega))
       have hok8 := Lib.hid hok8
       have hM8 := Lib.hid hM8
       clear hk8
       cases ok
       ·go_wp2_with fail
        go_ret2
        exact ⟨vo3, s3, 0, false, rfl, hr8.out, hkF.out, ⟨by decide, by decide⟩, (fun h => by cases h), fun K hK => by
         rw [HTk.out K (hK.trans HDP.out)]
         exact hM8.out K (by show _ = s1.deep; rw [C.out.dpe, hK, HDP.out])⟩
       ·obtain ⟨g1, g2, g3, g4⟩ := hok8.out rfl
        have C8 : Hid (CS k p n bf bg R nm (.slice aob p.objs.length cob) (.slice (some ⟨bk, okk, none⟩) p.blks.length cbl) (.slice au p.objs.length cu) (top - LO) dp s args top w2 vo w8 vo3 s3 regs3 bb (j + 1)) :=
         ⟨hr8.out, hf8.out, g1, K28.out, by rw [g2]; exact C.out.dpe, by rw [g4]; exact C.out.len, by have := C.out.fuel; dsimp only at g3; omega, fun K hK => by
           rw [HTk.out K hK]
           exact hM8.out K (by show _ = s1.deep; rw [C.out.dpe, hK])⟩
        have hF8 : Hid (s3.fuel ≤ s'.fuel) := by show _ ≤ _; have := HF1.out; dsimp only at g3; omega
        clear g1 g2 g3 g4
        go_wp2_with fail
        go_round
        case rel => exact ⟨j + 1, vo3, s3, regs3, by go_num, by omega, C8, K58.out, hF8⟩
        case measure => first | (simp [intOf]; done) | (simp [intOf]; omega)
     ·obtain rfl : j = B.ins.length := by omega
      by_cases hf0 : s1.fuel = 0
      ·have HSn := Lib.hid (step_no C.out.rn hf0)
       have HNo := Lib.hid (C.out.none hf0)
       clear hf0
       go_wp2_with fail
       refine HSn.out.mono ?_
       rintro e w7 ⟨rfl, hr7, hk7⟩
       have hr7 := Lib.hid hr7
       have hkF := Lib.hid (Kq.p B2.out (C.out.kq.trans (hk7.q bg)) (by omega))
       clear hk7
       go_wp2_with fail
       go_ret2
       exact ⟨vo1, _, 0, false, rfl, hr7.out, hkF.out, ⟨by decide, by decide⟩, (fun h => by cases h), fun K hK => by rw [HNo.out K (hK.trans HDP.out)]; rfl⟩
      ·have hfl1 : 1 ≤ s1.fuel := by have := C.out.gd.f0; omega
       have hfl2 : s1.fuel ≤ 10000000 := by have := C.out.gd.i0; have := C.out.gd.i1; omega
       have HSy := Lib.hid (step_yes C.out.rn hfl1 hfl2)
       have HTk := Lib.hid (C.out.tick hfl1)
       have hg7 : Gd { s1 with fuel := s1.fuel - 1 } := ⟨C.out.gd.mem, C.out.gd.i0, by have := C.out.gd.i1; dsimp only; omega, by have := C.out.gd.o1; dsimp only; omega, by dsimp only; omega, C.out.gd.d0, C.out.gd.d1⟩
       have HG7 := Lib.hid hg7
       have Hms : Hid ((s1.fuel - 1).toNat < s'.fuel.toNat) := by show _ < _; have := HF1.out; omega
       clear hf0 hg7 hfl1 hfl2
       go_wp2_with fail
       refine HSy.out.mono ?_
       rintro e w7 ⟨rfl, hr7, hk7⟩
       have F7 := C.out.fw.keep C.out.rn hk7
       have K27 := C.out.kq.trans (hk7.q bg)
       have C7 : Hid (∀ bb2 : Nat, (∀ K : List Fr, stepM k.m k.inp ⟨⟨n, regs1, top - LO, bb, B.ins.length⟩ :: K, false, s1.oc⟩ = ⟨⟨n, regs1, top - LO, bb2, 0⟩ :: K, false, s1.oc⟩) → CS k p n bf bg R nm (.slice aob p.objs.length cob) (.slice (some ⟨bk, okk, none⟩) p.blks.length cbl) (.slice au p.objs.length cu) (top - LO) dp s args top w2 vo w7 vo1 { s1 with fuel := s1.fuel - 1 } regs1 bb2 0) := fun bb2 hst =>
        ⟨hr7, F7, HG7.out, K27, C.out.dpe, C.out.len, by have := C.out.fuel; dsimp only; omega, fun K hK => by rw [HTk.out K hK, hst K]; rfl⟩
       have HXB7 := Lib.hid ((hk7.keep bx (Array.getElem?_eq_some_iff.1 HXB1.out).1 HXN.out.1 HXN.out.2.1 (by
        rcases KQ.out.to with e | ⟨g, e, hg⟩
        ·rw [e]; exact HXN.out.2.2.1
        ·rw [e]; intro e2; simp only [Option.some.injEq] at e2; have := (Array.getElem?_eq_some_iff.1 HXB.out).1; omega)).trans HXB1.out)
       have hr7 := Lib.hid hr7
       have F7 := Lib.hid F7
       have K27 := Lib.hid K27
       clear hk7
       have hBE := HBE.out ⟨n, regs1, top - LO, bb, B.ins.length⟩ rfl rfl
       have HGO := Lib.hid (fun K => stepM_go k ⟨n, regs1, top - LO, bb, B.ins.length⟩ K s1.oc B hBE.2 rfl)
       have HRE := Lib.hid (fun K => stepM_ret k ⟨n, regs1, top - LO, bb, B.ins.length⟩ K s1.oc B hBE.2 rfl)
       have hrl : (regs1.length : Int) = p.regs := by rw [C.out.len, HRR.out]
       have HRL := Lib.hid hrl
       clear hBE hrl
       have lbx7 : bx < w7.heap.size := (Array.getElem?_eq_some_iff.1 HXB7.out).1
       have hcs := Lib.hid (end_cases (okB_end hOB.out))
       have y := fun j => cell_of_heap HXB7.out j
       have v1 := y 1
       have v2 := y 2
       have v3 := y 3
       have v4 := y 4
       simp only [List.getElem?_toArray, List.getElem?_cons_zero, List.getElem?_cons_succ] at v1 v2 v3 v4
       clear y
       have f0 := F7.out.cR
       have lbf7 : bf < w7.heap.size := F7.out.bfLt.2
       rcases hcs.out with ⟨e1, t0, t1⟩ | ⟨e1, t0, t1, q0, q1, a0, a1⟩ | ⟨e1, ha⟩
       ·rw [e1] at v1
        obtain ⟨tt, ht⟩ := Int.eq_ofNat_of_zero_le t0
        rw [ht] at v3
        have HE1' := Lib.hid e1
        have HT := Lib.hid ht
        have htl : tt < p.blks.length := by omega
        clear e1 t0 t1 ht
        go_wp2_with fail
        refine wp_region_junk (fun _ => True) (by kernel_rfl) ?_
        refine J_mobs [0, 1, 2, 3, 4, 5, 6, 7, 8, 9] _ _ _ _ (by kernel_rfl) ?_
        simp only [List.map_cons, List.map_nil, List.getElem?_toArray, List.getElem?_cons_succ, List.getElem?_cons_zero, Option.getD_some, List.size_toArray, List.length_cons, List.length_nil, Nat.reduceAdd, Nat.reduceSub]
        repeat (go_big_quiet_step (fail))
        refine wpQuiet_nil ?_
        refine J_loud1 10 _ rfl (by kernel_rfl) ?_
        simp only [List.getElem_toArray, List.getElem_cons_succ, List.getElem_cons_zero]
        intro wj hj
        go_wp2_with fail
        refine ⟨KeepX.refl _ _, ?_⟩
        refine J_mobs [11, 12] _ _ _ _ (by kernel_rfl) ?_
        simp only [List.map_cons, List.map_nil, List.getElem?_toArray, List.getElem?_cons_succ, List.getElem?_cons_zero, Option.getD_some, List.size_toArray, List.length_cons, List.length_nil, Nat.reduceAdd, Nat.reduceSub]
        repeat (go_big_quiet_step (fail))
        refine wpQuiet_nil ?_
        refine J_done (by kernel_rfl) (fun wl hl => ?_) _
        have hl := (show Below w7.heap.size w7 wj from ‹_›).trans (hl.mono (Below.size (show Below w7.heap.size w7 wj from ‹_›)))
        have C9 := Lib.hid ((C7.out tt (fun K => by rw [HGO.out K (by rw [HE1'.out]; decide), if_neg (by rw [HE1'.out]; exact fun h => absurd h.1 (by decide)), HT.out]; rfl)).grow hl)
        clear v1 v2 v3 v4 f0
        have HXB9 := Lib.hid ((hl.block bx lbx7).trans HXB7.out)
        have y := fun j => cell_of_heap HXB9.out j
        have v1 := y 1
        have v2 := y 2
        have v3 := y 3
        have v4 := y 4
        simp only [List.getElem?_toArray, List.getElem?_cons_zero, List.getElem?_cons_succ] at v1 v2 v3 v4
        clear y
        have f0 := (F7.out.grow hl).cR
        have lbx9 : bx < wl.heap.size := Nat.lt_of_lt_of_le lbx7 hl.size
        have lbf9 : bf < wl.heap.size := Nat.lt_of_lt_of_le lbf7 hl.size
        rw [HE1'.out] at v1
        rw [HT.out] at v3
        clear hl
        go_wp2_with fail
        go_roundg (s1.fuel - 1).toNat
        case measure => rw [HQ.out]; exact Hms.out
        case rel => exact ⟨vo1, { s1 with fuel := s1.fuel - 1 }, regs1, tt, rfl, htl, rfl, C9⟩
       ·rw [e1] at v1
        obtain ⟨tt, ht⟩ := Int.eq_ofNat_of_zero_le t0
        obtain ⟨te, he⟩ := Int.eq_ofNat_of_zero_le q0
        obtain ⟨na, hna⟩ := Int.eq_ofNat_of_zero_le a0
        have HGet := Lib.hid (F7.out.getC na (by have := HRL.out; omega))
        have HRG1 : Hid (rg regs1 B.a = regs1.getD na 0) := by show _ = _; unfold rg; rw [hna]; simp
        rw [ht] at v3
        rw [he] at v4
        rw [hna] at v2
        have HE1' := Lib.hid e1
        have HT := Lib.hid ht
        have HEL := Lib.hid he
        have HNA := Lib.hid hna
        have htl : tt < p.blks.length := by omega
        have hel : te < p.blks.length := by omega
        clear e1 t0 t1 ht q0 q1 he hna a0 a1
        generalize regs1.getD na 0 = X at *
        by_cases hX0 : X = 0
        ·have gX : (X == 0) = true := beq_iff_eq.2 hX0
         have HX0 := Lib.hid hX0
         clear hX0
         go_wp2_with fail
         refine wp_region_junk (fun _ => True) (by kernel_rfl) ?_
         refine J_mobs [0, 1, 2, 3, 4, 5, 6, 7, 8, 9] _ _ _ _ (by kernel_rfl) ?_
         simp only [List.map_cons, List.map_nil, List.getElem?_toArray, List.getElem?_cons_succ, List.getElem?_cons_zero, Option.getD_some, List.size_toArray, List.length_cons, List.length_nil, Nat.reduceAdd, Nat.reduceSub]
         repeat (go_big_quiet_step (fail))
         refine wpQuiet_nil ?_
         refine J_loud1 10 _ rfl (by kernel_rfl) ?_
         simp only [List.getElem_toArray, List.getElem_cons_succ, List.getElem_cons_zero]
         intro wj hj
         go_wp2_with fail
         refine (HGet.out wj hj).mono ?_
         rintro e wg ⟨rfl, hg2⟩
         have hj := hj.trans (hg2.mono hj.size)
         go_wp2_with fail
         refine ⟨KeepX.below hg2, ?_⟩
         clear hg2
         refine J_mobs [11, 12] _ _ _ _ (by kernel_rfl) ?_
         simp only [List.map_cons, List.map_nil, List.getElem?_toArray, List.getElem?_cons_succ, List.getElem?_cons_zero, Option.getD_some, List.size_toArray, List.length_cons, List.length_nil, Nat.reduceAdd, Nat.reduceSub]
         repeat (go_big_quiet_step (fail))
         refine wpQuiet_nil ?_
         refine J_done (by kernel_rfl) (fun wl hl => ?_) _
         have hl := hj.trans (hl.mono hj.size)
         have C9 := Lib.hid ((C7.out te (fun K => by rw [HGO.out K (by rw [HE1'.out]; decide), if_pos ⟨HE1'.out, by rw [HRG1.out]; exact HX0.out⟩, HEL.out]; rfl)).grow hl)
         clear v1 v2 v3 v4 f0
         have HXB9 := Lib.hid ((hl.block bx lbx7).trans HXB7.out)
         have y := fun j => cell_of_heap HXB9.out j
         have v1 := y 1
         have v2 := y 2
         have v3 := y 3
         have v4 := y 4
         simp only [List.getElem?_toArray, List.getElem?_cons_zero, List.getElem?_cons_succ] at v1 v2 v3 v4
         clear y
         have f0 := (F7.out.grow hl).cR
         have lbx9 : bx < wl.heap.size := Nat.lt_of_lt_of_le lbx7 hl.size
         have lbf9 : bf < wl.heap.size := Nat.lt_of_lt_of_le lbf7 hl.size
         rw [HE1'.out] at v1
         rw [HT.out] at v3
         rw [HEL.out] at v4
         clear hl
         go_wp2_with fail
         go_roundg (s1.fuel - 1).toNat
         case measure => rw [HQ.out]; exact Hms.out
         case rel => exact ⟨vo1, { s1 with fuel := s1.fuel - 1 }, regs1, te, rfl, hel, rfl, C9⟩
        ·have gX : (X == 0) = false := beq_eq_false_iff_ne.2 hX0
         have HX0 := Lib.hid hX0
         clear hX0
         go_wp2_with fail
         refine wp_region_junk (fun _ => True) (by kernel_rfl) ?_
         refine J_mobs [0, 1, 2, 3, 4, 5, 6, 7, 8, 9] _ _ _ _ (by kernel_rfl) ?_
         simp only [List.map_cons, List.map_nil, List.getElem?_toArray, List.getElem?_cons_succ, List.getElem?_cons_zero, Option.getD_some, List.size_toArray, List.length_cons, List.length_nil, Nat.reduceAdd, Nat.reduceSub]
         repeat (go_big_quiet_step (fail))
         refine wpQuiet_nil ?_
         refine J_loud1 10 _ rfl (by kernel_rfl) ?_
         simp only [List.getElem_toArray, List.getElem_cons_succ, List.getElem_cons_zero]
         intro wj hj
         go_wp2_with fail
         refine (HGet.out wj hj).mono ?_
         rintro e wg ⟨rfl, hg2⟩
         have hj := hj.trans (hg2.mono hj.size)
         go_wp2_with fail
         refine ⟨KeepX.below hg2, ?_⟩
         clear hg2
         refine J_mobs [11, 12] _ _ _ _ (by kernel_rfl) ?_
         simp only [List.map_cons, List.map_nil, List.getElem?_toArray, List.getElem?_cons_succ, List.getElem?_cons_zero, Option.getD_some, List.size_toArray, List.length_cons, List.length_nil, Nat.reduceAdd, Nat.reduceSub]
         repeat (go_big_quiet_step (fail))
         refine wpQuiet_nil ?_
         refine J_done (by kernel_rfl) (fun wl hl => ?_) _
         have hl := hj.trans (hl.mono hj.size)
         have C9 := Lib.hid ((C7.out tt (fun K => by rw [HGO.out K (by rw [HE1'.out]; decide), if_neg (fun h => HX0.out (by rw [← HRG1.out]; exact h.2)), HT.out]; rfl)).grow hl)
         clear v1 v2 v3 v4 f0
         have HXB9 := Lib.hid ((hl.block bx lbx7).trans HXB7.out)
         have y := fun j => cell_of_heap HXB9.out j
         have v1 := y 1
         have v2 := y 2
         have v3 := y 3
         have v4 := y 4
         simp only [List.getElem?_toArray, List.getElem?_cons_zero, List.getElem?_cons_succ] at v1 v2 v3 v4
         clear y
         have f0 := (F7.out.grow hl).cR
         have lbx9 : bx < wl.heap.size := Nat.lt_of_lt_of_le lbx7 hl.size
         have lbf9 : bf < wl.heap.size := Nat.lt_of_lt_of_le lbf7 hl.size
         rw [HE1'.out] at v1
         rw [HT.out] at v3
         rw [HEL.out] at v4
         clear hl
         go_wp2_with fail
         go_roundg (s1.fuel - 1).toNat
         case measure => rw [HQ.out]; exact Hms.out
         case rel => exact ⟨vo1, { s1 with fuel := s1.fuel - 1 }, regs1, tt, rfl, htl, rfl, C9⟩
       ·rw [e1] at v1
        have HE1' := Lib.hid e1
        clear e1
        go_wp2_with fail
        refine wp_region_junk (fun _ => True) (by kernel_rfl) ?_
        refine J_mobs [0, 1, 2, 3, 4, 5, 6, 7, 8, 9] _ _ _ _ (by kernel_rfl) ?_
        simp only [List.map_cons, List.map_nil, List.getElem?_toArray, List.getElem?_cons_succ, List.getElem?_cons_zero, Option.getD_some, List.size_toArray, List.length_cons, List.length_nil, Nat.reduceAdd, Nat.reduceSub]
        repeat (go_big_quiet_step (fail))
        refine wpQuiet_nil ?_
        refine J_loud1 10 _ rfl (by kernel_rfl) ?_
        simp only [List.getElem_toArray, List.getElem_cons_succ, List.getElem_cons_zero]
        intro wj hj
        go_wp2_with fail
        refine ⟨KeepX.refl _ _, ?_⟩
        refine J_mobs [11, 12] _ _ _ _ (by kernel_rfl) ?_
        simp only [List.map_cons, List.map_nil, List.getElem?_toArray, List.getElem?_cons_succ, List.getElem?_cons_zero, Option.getD_some, List.size_toArray, List.length_cons, List.length_nil, Nat.reduceAdd, Nat.reduceSub]
        repeat (go_big_quiet_step (fail))
        refine wpQuiet_nil ?_
        refine J_done (by kernel_rfl) (fun wl hl => ?_) _
        have hl := (show Below w7.heap.size w7 wj from ‹_›).trans (hl.mono (Below.size (show Below w7.heap.size w7 wj from ‹_›)))
        clear v1 v2 v3 v4 f0
        have HXB9 := Lib.hid ((hl.block bx lbx7).trans HXB7.out)
        have y := fun j => cell_of_heap HXB9.out j
        have v1 := y 1
        have v2 := y 2
        have v3 := y 3
        have v4 := y 4
        simp only [List.getElem?_toArray, List.getElem?_cons_zero, List.getElem?_cons_succ] at v1 v2 v3 v4
        clear y
        have f0 := (F7.out.grow hl).cR
        have lbx9 : bx < wl.heap.size := Nat.lt_of_lt_of_le lbx7 hl.size
        have lbf9 : bf < wl.heap.size := Nat.lt_of_lt_of_le lbf7 hl.size
        rw [HE1'.out] at v1
        have K29 := Lib.hid (K27.out.trans (Kq.of_below hl))
        have F9 := Lib.hid (F7.out.grow hl)
        have R9 := Lib.hid (hr7.out.grow hl)
        have c13 := R9.out.cDeep
        have fz := R9.out.frz 13
        have lb9 := R9.out.brLt.2
        change wl.cell? _ = some (.int .i64 s1.deep) at c13
        rw [C.out.dpe] at c13
        clear hl
        have nbx : bx ≠ k.br := HXN.out.1
        have nbf : bf ≠ k.br := (F9.out.neR R9.out).1
        obtain ⟨RA_, KA_⟩ := R9.out.setF 13 (.int .i64 dp) { s1 with fuel := s1.fuel - 1, deep := dp } rfl rfl rfl
        have FA := Lib.hid (F9.out.keep R9.out KA_)
        have KA := Lib.hid (K29.out.trans (KA_.q bg))
        have RA := Lib.hid RA_
        have GA : Hid (Gd { s1 with fuel := s1.fuel - 1, deep := dp }) := ⟨HG7.out.mem, HG7.out.i0, HG7.out.i1, HG7.out.o1, HG7.out.f0, by dsimp only; omega, by dsimp only; omega⟩
        have HFL : Hid (s1.fuel - 1 ≤ s.fuel) := by show _ ≤ _; have := C.out.fuel; omega
        clear RA_ KA_
        rcases ha with ha | ⟨ha0, ha1⟩
        ·rw [ha] at v2
         have HA := Lib.hid ha
         clear ha
         go_wp2_with fail
         go_ret2
         exact ⟨vo1, { s1 with fuel := s1.fuel - 1, deep := dp }, 0, true, rfl, by first | exact RA.out | (have := RA.out; simpa using this), by first | exact Kq.p B2.out KA.out (by omega) | (have := Kq.p B2.out KA.out (by omega); simpa using this), ⟨by decide, by decide⟩, fun _ => ⟨GA.out, HDP.out.symm, HFL.out⟩, fun K hK => by
          rw [HTk.out K (hK.trans HDP.out), HRE.out K HE1'.out, if_pos rfl, if_neg (fun h => h HA.out)]; rfl⟩
        ·obtain ⟨na, hna⟩ := Int.eq_ofNat_of_zero_le ha0
         rw [hna] at v2
         have gna : ((na : Int) == -1) = false := beq_eq_false_iff_ne.2 (by omega)
         have HGet := Lib.hid (FA.out.getC na (by have := HRL.out; omega))
         have HRG1 : Hid ((if B.a ≠ -1 then rg regs1 B.a else 0) = regs1.getD na 0) := by show _ = _; rw [if_pos (by omega)]; unfold rg; rw [hna]; simp
         have HXX := Lib.hid (FA.out.word na)
         have f1 := FA.out.cR
         clear ha0 ha1
         have hna := Lib.hid hna
         generalize regs1.getD na 0 = X at *
         go_wp2_with fail
         have HXB8 := Lib.hid ((heap_setCell_other wl ⟨k.br, 13, none⟩ bx (.int .i64 dp) nbx).trans HXB9.out)
         clear v1 v2 v3 v4 f0 c13 fz
         have lbx8 : bx < (wl.setCell ⟨k.br, 13, none⟩ (.int .i64 dp)).heap.size := (Array.getElem?_eq_some_iff.1 HXB8.out).1
         have lbf8 : bf < (wl.setCell ⟨k.br, 13, none⟩ (.int .i64 dp)).heap.size := FA.out.bfLt.2
         generalize wl.setCell ⟨k.br, 13, none⟩ (.int .i64 dp) = WE at *
         have v2 := cell_of_heap HXB8.out 2
         simp only [List.getElem?_toArray, List.getElem?_cons_zero, List.getElem?_cons_succ] at v2
         rw [hna.out] at v2
         refine wp_region_junk (fun _ => True) (by kernel_rfl) ?_
         refine J_mobs [0, 1, 2, 3, 4, 5] _ _ _ _ (by kernel_rfl) ?_
         simp only [List.map_cons, List.map_nil, List.getElem?_toArray, List.getElem?_cons_succ, List.getElem?_cons_zero, Option.getD_some, List.size_toArray, List.length_cons, List.length_nil, Nat.reduceAdd, Nat.reduceSub]
         repeat (go_big_quiet_step (fail))
         refine wpQuiet_nil ?_
         refine J_loud1 6 _ rfl (by kernel_rfl) ?_
         simp only [List.getElem_toArray, List.getElem_cons_succ, List.getElem_cons_zero]
         intro wj hj
         go_wp2_with fail
         refine (HGet.out wj hj).mono ?_
         rintro e wg ⟨rfl, hg2⟩
         have hj := hj.trans (hg2.mono hj.size)
         go_wp2_with fail
         refine ⟨KeepX.below hg2, ?_⟩
         clear hg2
         refine J_mobs [7, 8] _ _ _ _ (by kernel_rfl) ?_
         simp only [List.map_cons, List.map_nil, List.getElem?_toArray, List.getElem?_cons_succ, List.getElem?_cons_zero, Option.getD_some, List.size_toArray, List.length_cons, List.length_nil, Nat.reduceAdd, Nat.reduceSub]
         repeat (go_big_quiet_step (fail))
         refine wpQuiet_nil ?_
         refine J_done (by kernel_rfl) (fun wm hm => ?_) _
         have hm := Lib.hid (hj.trans (hm.mono hj.size))
         go_wp2_with fail
         go_ret2
         exact ⟨vo1, { s1 with fuel := s1.fuel - 1, deep := dp }, X, true, rfl, RA.out.grow hm.out, Kq.p B2.out (KA.out.trans (Kq.of_below hm.out)) (by omega), HXX.out, fun _ => ⟨GA.out, HDP.out.symm, HFL.out⟩, fun K hK => by
          rw [HTk.out K (hK.trans HDP.out), HRE.out K HE1'.out, if_pos rfl, HRG1.out]; rfl⟩
end Go.Proofs.YtchoiankeohonaaGreatDoor
