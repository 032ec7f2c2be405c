/-
  The document's judgement of any instruction, and of procedures.
-/
import Derived.Test.YtnnhobbabcfogaaDoorR21
import Derived.Test.YtnnhobbabcfogaaDoorR22
import Derived.Test.YtnnhobbabcfogaaDoorR23
import Derived.Test.YtnnhobbabcfogaaDoorR24
import Derived.Test.YtnnhobbabcfogaaDoorC7
import Derived.Test.YtnnhobbabcfogaaDoorC9
import Derived.Test.YtnnhobbabcfogaaDoorN2
set_option linter.all false
namespace Go.Proofs.YtnnhobbabcfogaaDoor
open Go.ChangeShapes Go.WideShapes Go.ChangeAt Go.RowKit
set_option maxHeartbeats 8000000
set_option linter.unusedVariables false
set_option maxRecDepth 100000

theorem rins_0 (v V0 va : Value) (op d ra rb fn obj off size num : Int) (log : Bool) (w : World) (hop : op < 1 ∨ 12 < op) (h3 : ∃ a b c d, v = .agg #[a, b, c, d]) (h4 : ∃ a b c d e f, V0 = .agg #[a, b, c, d, e, f]) :
    Calls Tryd.prog 41 #[v, V0, .agg #[.int .i64 op, .int .i64 d, .int .i64 ra, .int .i64 rb, .int .i64 fn, .int .i64 obj, .int .i64 off, .int .i64 size, .int .u32 num, va, .bool log]] w fun e w' => e = .returned (.bool false) ∧ Below w.heap.size w w' := by
  have EF := Lib.hid (fun w => fields_0 op w hop)
  obtain ⟨a1, a2, a3, a4, rfl⟩ := h3
  obtain ⟨b1, b2, b3, b4, b5, b6, rfl⟩ := h4
  go_enter Tryd.func41, Tryd.ntmps41
  go_wp2_with fail
  refine (EF.out _).mono ?_
  rintro e w1 ⟨rfl, hb⟩
  have BC : Hid (Below w.heap.size w w1) := below3c hb
  clear hb
  go_wp2_with fail
  go_ret
  exact ⟨rfl, BC.out⟩
theorem okI_out (m : Md) (p : Pr) (i : In) (h : i.op < 1 ∨ 12 < i.op) : okI m p i = false := by
  unfold okI
  rcases h with h | h
  · rw [decide_eq_false (by omega : ¬ 1 ≤ i.op)]; rfl
  · rw [decide_eq_false (by omega : ¬ i.op ≤ 12)]; simp
theorem rinsAll_c (m : Md) (p : Pr) (v V0 V : Value) (i : In) (w : World) (hm : MdV w v m) (hp : PrV w V0 p) (hi : InV w V i) (h0 : 0 ≤ p.regs) (h1 : p.regs ≤ 100000) :
    Calls Tryd.prog 41 #[v, V0, V] w fun e w' => e = .returned (.bool (okI m p i)) ∧ Below w.heap.size w w' := by
  obtain ⟨va, rfl, hva⟩ := hi
  obtain ⟨op, d, ra, rb, fn, obj, off, size, num, args, log⟩ := i
  by_cases hop : op < 1 ∨ 12 < op
  · rw [okI_out m p _ hop]
    obtain ⟨_, _, _, rfl, -⟩ := hm
    obtain ⟨_, _, _, rfl, -⟩ := hp
    exact rins_0 _ _ va op d ra rb fn obj off size num log w hop ⟨_, _, _, _, rfl⟩ ⟨_, _, _, _, _, _, rfl⟩
  · have hc : op = 1 ∨ op = 2 ∨ op = 3 ∨ op = 4 ∨ op = 5 ∨ op = 6 ∨ op = 7 ∨ op = 8 ∨ op = 9 ∨ op = 10 ∨ op = 11 ∨ op = 12 := by omega
    have hva2 := hva
    obtain ⟨aa, ca, rfl, ha1, ha2, -⟩ := hva2
    unfold maxLen at ha2
    dsimp only at ha1 hva ⊢
    rcases hc with rfl | rfl | rfl | rfl | rfl | rfl | rfl | rfl | rfl | rfl | rfl | rfl
    · exact rins_1 m p v V0 d ra rb fn obj off size num args log aa ca w hm hp ha2 ha1 h0 h1
    · exact rins_2 m p v V0 d ra rb fn obj off size num args log aa ca w hm hp ha2 ha1 h0 h1
    · exact rins_3 m p v V0 d ra rb fn obj off size num args log aa ca w hm hp ha2 ha1 h0 h1
    · exact rins_4 m p v V0 d ra rb fn obj off size num args log aa ca w hm hp ha2 ha1 h0 h1
    · exact rins_5 m p v V0 d ra rb fn obj off size num args log aa ca w hm hp ha2 ha1 h0 h1
    · exact rins_6 m p v V0 d ra rb fn obj off size num args log aa ca w hm hp ha2 ha1 h0 h1
    · exact rins_7 m p v V0 d ra rb fn obj off size num args log aa ca w hm hp ha2 ha1 h0 h1
    · exact rins_8 m p v V0 d ra rb fn obj off size num args log aa ca w hm hp ha2 ha1 h0 h1
    · exact rins_9 m p v V0 d ra rb fn obj off size num args log _ w hm hp hva h0 h1
    · exact rins_10 m p v V0 d ra rb fn obj off size num args log aa ca w hm hp ha2 ha1 h0 h1
    · exact rins_11 m p v V0 d ra rb fn obj off size num args log aa ca w hm hp ha2 ha1 h0 h1
    · exact rins_12 m p v V0 d ra rb fn obj off size num args log aa ca w hm hp ha2 ha1 h0 h1
theorem okP_no {m : Md} {p : Pr} (h : Head p → False) : okP m p = false := by
  cases e : okP m p
  · rfl
  · exact (h (okP_head e)).elim
theorem okP_yes {m : Md} {p : Pr} (h : Head p) (hn : insN p ≤ 20000) (hb : p.blks.all (okB m p) = true) : okP m p = true := by
  unfold okP okHead
  simp only [Bool.and_eq_true, decide_eq_true_eq]
  exact ⟨⟨h.p0, h.p6, h.pr, h.r8, h.ol, h.b1, h.b4, h.sl, hn⟩, hb⟩
theorem okP_big {m : Md} {p : Pr} (hn : 20000 < insN p) : okP m p = false := by
  cases e : okP m p
  · rfl
  · unfold okP okHead at e
    simp only [Bool.and_eq_true, decide_eq_true_eq] at e
    omega
theorem okP_blk_no {m : Md} {p : Pr} (h : p.blks.all (okB m p) = false) : okP m p = false := by unfold okP; rw [h, Bool.and_false]
theorem rprocN_c (m : Md) (v : Value) (n : Int) (w : World) (h : MdV w v m) (hs : SzM m) :
    Calls Tryd.prog 14 #[v, .int .i64 n] w fun e w' => e = .returned (.int .i64 (procE m n)) ∧ Below w.heap.size w w' := by
  obtain ⟨vg, vd, vp, rfl, hvg, hvd, hvp⟩ := h
  have hvp' := hvp
  obtain ⟨ap, cp, rfl, hp1, hp2, -⟩ := hvp'
  have HVG := Lib.hid hvg
  have HVD := Lib.hid hvd
  have HVP := Lib.hid hvp
  have HPS := Lib.hid (RdPrs.at6 hvp).2
  obtain ⟨ag, cg, rfl, -⟩ := hvg
  obtain ⟨ad, cd, rfl, -⟩ := hvd
  clear hvp
  unfold maxLen at hp2
  have HF : Hid (procE m n = if 0 ≤ n ∧ n < (m.procs.length : Int) then (if okP m (m.procs.getD n.toNat default) = true then 0 else 3) else 4) := rfl
  by_cases h0 : 0 ≤ n
  · have g0 : decide (n < 0) = false := decide_eq_false (by omega)
    obtain ⟨k, rfl⟩ := Int.eq_ofNat_of_zero_le h0
    by_cases h1 : k < m.procs.length
    · have g1 : decide ((m.procs.length : Int) ≤ (k : Int)) = false := decide_eq_false (by omega)
      have g2 : decide (m.procs.length ≤ k) = false := decide_eq_false (by omega)
      rw [if_pos ⟨h0, by omega⟩, Int.toNat_natCast] at HF
      have hsp := hs.procs (m.procs.getD k default) (by simp [List.getD, h1])
      obtain ⟨bp, op, tnm, tvo, tvb, hap, hto, htb, t0, t1, t2, t3, t4, t5⟩ := HPS.out k h1
      subst hap
      generalize m.procs.getD k default = T at *
      have HTO := Lib.hid hto
      have HTB := Lib.hid htb
      have HBk' := htb
      obtain ⟨tao, tco, rfl, hto1, hto2, -⟩ := hto
      obtain ⟨tab, tcb, rfl, htb1, htb2, -⟩ := htb
      have HBk := Lib.hid (RdBks.at HBk').2
      clear HBk'
      unfold maxLen at hto2 htb2
      have EPV : Hid (∀ w', Ext w w' → PrV w' (.agg #[.string tnm, .bool T.void, .int .i64 T.params, .int .i64 T.regs, .slice tao T.objs.length tco, .slice tab T.blks.length tcb]) T) := fun w' he => ⟨tnm, _, _, rfl, HTO.out.ext he, HTB.out.ext he⟩
      have EMV : Hid (∀ w', Ext w w' → MdV w' (.agg #[.slice ag m.globs.length cg, .slice ad m.data.length cd, .slice (some ⟨bp, op, none⟩) m.procs.length cp, .int .i64 m.main]) m) := fun w' he => ⟨_, _, _, rfl, HVG.out.ext he, HVD.out.ext he, HVP.out.ext he⟩
      have ES : Hid (∀ w', Ext w w' → Calls Tryd.prog 38 #[.slice tao T.objs.length tco, .int .i64 400] w' fun e w'' => e = .returned (.bool (T.objs.all slotF && decide ((T.objs.length : Int) ≤ 400))) ∧ w' = w'') := fun w' he => rslots_c T.objs _ 400 w' (HTO.out.ext he)
      have HSz := Lib.hid (fun k => insS_take_le T.blks k hsp.ins hsp.blks)
      have hbl := hsp.blks
      have HNO : Hid (okP m T = false → procE m (k : Int) = 3) := fun h => by rw [HF.out, h]; rfl
      have HYES : Hid (okP m T = true → procE m (k : Int) = 0) := fun h => by rw [HF.out, if_pos h]
      have HIn : Hid (insN T = insS T.blks) := rfl
      clear HF
      obtain ⟨E, hE⟩ : ∃ E, procE m (k : Int) = E := ⟨_, rfl⟩
      rw [hE] at HNO HYES ⊢
      clear hE HVG HVD HVP HPS
      go_enter Tryd.func14, Tryd.ntmps14
      go_upto_region 1 with (fail)
      obtain ⟨W1, hW1⟩ : ∃ W1, W1 = w.alloc (.cells #[.slice ag m.globs.length cg, .slice ad m.data.length cd, .slice (some ⟨bp, op, none⟩) m.procs.length cp, .int .i64 m.main] 26) := ⟨_, rfl⟩
      rw [← hW1]
      have HM1 : Hid (W1.heap[w.heap.size]? = some (.cells #[.slice ag m.globs.length cg, .slice ad m.data.length cd, .slice (some ⟨bp, op, none⟩) m.procs.length cp, .int .i64 m.main] 26 (0, 0))) := by rw [hW1]; exact heap_alloc_new w _
      have B1 : Hid (Below w.heap.size w W1) := by rw [hW1]; exact below_alloc w _
      have hz1 : W1.heap.size ≤ w.heap.size + 1 := by rw [hW1]; simp
      have hz1' : w.heap.size + 1 ≤ W1.heap.size := by rw [hW1]; simp
      have hE1 := Ext.below B1.out
      replace t0 := hE1 _ _ t0
      replace t1 := hE1 _ _ t1
      replace t2 := hE1 _ _ t2
      replace t3 := hE1 _ _ t3
      replace t4 := hE1 _ _ t4
      replace t5 := hE1 _ _ t5
      have lm1 : w.heap.size < W1.heap.size := by omega
      have x := fun j => cell_of_heap HM1.out j
      have x2 := x 2
      simp only [List.getElem?_toArray, List.getElem?_cons_zero, List.getElem?_cons_succ] at x2
      clear hE1 hW1 x
      go_upto_region 4 with (fail)
      obtain ⟨W2, hW2⟩ : ∃ W2, W2 = W1.alloc (.cells #[.string tnm, .bool T.void, .int .i64 T.params, .int .i64 T.regs, .slice tao T.objs.length tco, .slice tab T.blks.length tcb] 37) := ⟨_, rfl⟩
      rw [← hW2]
      have hsz1 : W1.heap.size = w.heap.size + 1 := by omega
      have HP : Hid (W2.heap[w.heap.size + 1]? = some (.cells #[.string tnm, .bool T.void, .int .i64 T.params, .int .i64 T.regs, .slice tao T.objs.length tco, .slice tab T.blks.length tcb] 37 (0, 0))) := by rw [hW2, ← hsz1]; exact heap_alloc_new W1 _
      have HM : Hid (W2.heap[w.heap.size]? = some (.cells #[.slice ag m.globs.length cg, .slice ad m.data.length cd, .slice (some ⟨bp, op, none⟩) m.procs.length cp, .int .i64 m.main] 26 (0, 0))) := by show _ = _; rw [hW2]; exact ((below_alloc W1 _).block _ lm1).trans HM1.out
      have BW : Hid (Below w.heap.size w W2) := by rw [hW2]; exact B1.out.trans ((below_alloc W1 _).mono (by omega))
      have lm0 : w.heap.size < W2.heap.size := by rw [hW2]; simp; omega
      have lp0 : w.heap.size + 1 < W2.heap.size := by rw [hW2]; simp; omega
      rw [hsz1]
      have B0 : Hid (Below W2.heap.size W2 W2) := Below.refl _ _
      have HR : Hid (∀ w', Below W2.heap.size W2 w' → Below w.heap.size w w') := fun w' hb => BW.out.trans (hb.mono BW.out.size)
      clear hW2 hsz1 HM1 B1 t0 t1 t2 t3 t4 t5 x2 hz1 hz1' lm1 BW
      have x := fun j => cell_of_heap ((B0.out.block _ lm0).trans HM.out) j
      have x0 := x 0
      have x1 := x 1
      have x2 := x 2
      have x3 := x 3
      have y := fun j => cell_of_heap ((B0.out.block _ lp0).trans HP.out) j
      have y0 := y 0
      have y1 := y 1
      have y2 := y 2
      have y3 := y 3
      have y4 := y 4
      have y5 := y 5
      simp only [List.getElem?_toArray, List.getElem?_cons_zero, List.getElem?_cons_succ] at x0 x1 x2 x3 y0 y1 y2 y3 y4 y5
      clear x y
      have lm : w.heap.size < W2.heap.size := by have := B0.out.size; omega
      have lp : w.heap.size + 1 < W2.heap.size := by have := B0.out.size; omega
      by_cases k1 : 0 ≤ T.params
      · have gk1 : decide (0 ≤ T.params) = true := decide_eq_true k1
        have gl1 : decide (T.params < 0) = false := decide_eq_false (by omega)
        by_cases k2 : T.params ≤ 6
        · have gk2 : decide (T.params ≤ 6) = true := decide_eq_true k2
          have gl2 : decide (6 < T.params) = false := decide_eq_false (by omega)
          by_cases k3 : T.params ≤ T.regs
          · have gk3 : decide (T.params ≤ T.regs) = true := decide_eq_true k3
            have gl3 : decide (T.regs < T.params) = false := decide_eq_false (by omega)
            by_cases k4 : T.regs ≤ 8000
            · have gk4 : decide (T.regs ≤ 8000) = true := decide_eq_true k4
              have gl4 : decide (8000 < T.regs) = false := decide_eq_false (by omega)
              cases hsl : T.objs.all slotF
              · rw [hsl] at ES
                have HV2 : Hid (E = 3) := HNO.out (okP_no fun q => by have := q.sl; rw [hsl] at this; cases this)
                clear HNO HYES hsl
                go_wp2_with fail
                refine (ES.out _ (Ext.below (HR.out _ B0.out))).mono ?_
                rintro e w3 ⟨rfl, rfl⟩
                go_wp2_with fail
                go_ret
                exact ⟨ret_i HV2.out.symm, HR.out _ B0.out⟩
              · rw [hsl, Bool.true_and] at ES
                by_cases k5 : (T.objs.length : Int) ≤ 400
                · have gk5 : decide ((T.objs.length : Int) ≤ 400) = true := decide_eq_true k5
                  have gl5 : decide (400 < (T.objs.length : Int)) = false := decide_eq_false (by omega)
                  rw [decide_eq_true (‹(T.objs.length : Int) ≤ 400›)] at ES
                  have hsl2 := hsl
                  clear hsl
                  go_wp2_with fail
                  refine (ES.out _ (Ext.below (HR.out _ B0.out))).mono ?_
                  rintro e w3 ⟨rfl, rfl⟩
                  by_cases k6 : (T.blks.length : Int) < 1
                  · have gk6 : decide ((T.blks.length : Int) < 1) = true := decide_eq_true k6
                    have gl6 : decide (1 ≤ (T.blks.length : Int)) = false := decide_eq_false (by omega)
                    have HV2 : Hid (E = 3) := HNO.out (okP_no fun q => by have := q.b1; omega)
                    clear HNO HYES
                    go_wp2_with fail
                    go_ret
                    exact ⟨ret_i HV2.out.symm, HR.out _ B0.out⟩
                  · have gk6 : decide ((T.blks.length : Int) < 1) = false := decide_eq_false k6
                    have gl6 : decide (1 ≤ (T.blks.length : Int)) = true := decide_eq_true (by omega)
                    by_cases k7 : 4000 < (T.blks.length : Int)
                    · have gk7 : decide (4000 < (T.blks.length : Int)) = true := decide_eq_true k7
                      have gl7 : decide ((T.blks.length : Int) ≤ 4000) = false := decide_eq_false (by omega)
                      have HV2 : Hid (E = 3) := HNO.out (okP_no fun q => by have := q.b4; omega)
                      clear HNO HYES
                      go_wp2_with fail
                      go_ret
                      exact ⟨ret_i HV2.out.symm, HR.out _ B0.out⟩
                    · have gk7 : decide (4000 < (T.blks.length : Int)) = false := decide_eq_false k7
                      have gl7 : decide ((T.blks.length : Int) ≤ 4000) = true := decide_eq_true (by omega)
                      have hHd : Head T := ⟨by assumption, by assumption, by assumption, by assumption, by omega, by omega, by omega, by assumption⟩
                      have HHd := Lib.hid hHd
                      have hr0 : 0 ≤ T.regs := by omega
                      have hr1 : T.regs ≤ 100000 := by omega
                      have EE : Hid (∀ b V w', Ext w w' → BkV w' V b → Calls Tryd.prog 40 #[.agg #[.string tnm, .bool T.void, .int .i64 T.params, .int .i64 T.regs, .slice tao T.objs.length tco, .slice tab T.blks.length tcb], V] w' fun e w'' => e = .returned (.bool (endF T b)) ∧ Below w'.heap.size w' w'') := fun b V w' he hb => rend_c T _ V b w' (EPV.out w' he) hb hr0 hr1
                      have EI : Hid (∀ i V w', Ext w w' → InV w' V i → Calls Tryd.prog 41 #[.agg #[.slice ag m.globs.length cg, .slice ad m.data.length cd, .slice (some ⟨bp, op, none⟩) m.procs.length cp, .int .i64 m.main], .agg #[.string tnm, .bool T.void, .int .i64 T.params, .int .i64 T.regs, .slice tao T.objs.length tco, .slice tab T.blks.length tcb], V] w' fun e w'' => e = .returned (.bool (okI m T i)) ∧ Below w'.heap.size w' w'') := fun i V w' he hi => rinsAll_c m T _ _ V i w' (EMV.out w' he) (EPV.out w' he) hi hr0 hr1
                      clear hHd EPV EMV ES
                      go_wp2_with fail
                      clear x0 x1 x2 x3 y0 y1 y2 y3 y4 y5
                      go_loopw [6, 7] (fun al i wr => ∃ k : Nat, k ≤ T.blks.length ∧ al = .int .i64 (insS (T.blks.take k) : Int) ∧ i = .int .i64 (k : Int) ∧ Hid (Below W2.heap.size W2 wr) ∧ Hid ((T.blks.take k).all (okB m T) = true)) (fun _ i _ => T.blks.length - (intOf i).toNat)
                      case atStart => exact ⟨0, Nat.zero_le _, by simp [insS], rfl, B0, rfl⟩
                      case round =>
                        clear B0
                        obtain ⟨wo, rfl⟩ : ∃ x, x = wr := ⟨wr, rfl⟩
                        obtain ⟨q, hq, rfl, rfl, hB, HA⟩ := hrel
                        have x := fun j => cell_of_heap ((hB.out.block _ lm0).trans HM.out) j
                        have x0 := x 0
                        have x1 := x 1
                        have x2 := x 2
                        have x3 := x 3
                        have y := fun j => cell_of_heap ((hB.out.block _ lp0).trans HP.out) j
                        have y0 := y 0
                        have y1 := y 1
                        have y2 := y 2
                        have y3 := y 3
                        have y4 := y 4
                        have y5 := y 5
                        simp only [List.getElem?_toArray, List.getElem?_cons_zero, List.getElem?_cons_succ] at x0 x1 x2 x3 y0 y1 y2 y3 y4 y5
                        clear x y
                        have lm : w.heap.size < wo.heap.size := by have := hB.out.size; omega
                        have lp : w.heap.size + 1 < wo.heap.size := by have := hB.out.size; omega
                        by_cases hlt : q < T.blks.length
                        · obtain ⟨bb, ob, vi, rfl, hvi, c0, c1, c2, c3, c4⟩ := HBk.out q hlt
                          have hEr := Ext.below (HR.out _ hB.out)
                          replace c0 := hEr _ _ c0
                          replace c1 := hEr _ _ c1
                          replace c2 := hEr _ _ c2
                          replace c3 := hEr _ _ c3
                          replace c4 := hEr _ _ c4
                          have lbb : bb < wo.heap.size := World.block_lt_of_cell? wo _ c1
                          have hst := insS_take T.blks q hlt
                          have hs1 := HSz.out (q + 1)
                          have hs0 := HSz.out q
                          rw [hst] at hs1
                          have HST := Lib.hid hst
                          have hY := Lib.hid (allG_take (okB m T) T.blks q hlt HA.out)
                          have hZ := Lib.hid (allG_no (okB m T) T.blks q hlt)
                          clear hst
                          generalize insS (T.blks.take q) = S at hs0 hs1 HST ⊢
                          generalize T.blks.getD q default = K at *
                          have hvi' := hvi
                          obtain ⟨ai, ci, rfl, hi1, hi2, -⟩ := hvi'
                          have HIs := Lib.hid (RdIns.at hvi).2
                          have HVI := Lib.hid hvi
                          clear hvi
                          unfold maxLen at hi2
                          have HKF : Hid (okB m T K = (K.ins.all (okI m T) && endF T K)) := rfl
                          have hzr := hB.out.size
                          have hBk : BkV wo (.agg #[.slice ai K.ins.length ci, .int .i64 K.fin, .int .i64 K.a, .int .i64 K.to, .int .i64 K.els]) K := ⟨_, rfl, HVI.out.ext hEr⟩
                          have HEw := Lib.hid (fun w' (hw : Below wo.heap.size wo w') => hEr.trans (Ext.below hw))
                          have HBV := Lib.hid hBk
                          clear hBk hEr
                          go_wp2_with fail
                          refine wp_region_junk (fun _ => True) (by kernel_rfl) ?_
                          refine J_mobs [0, 1, 2, 3, 4, 5] _ _ _ _ (by kernel_rfl) ?_
                          simp only [List.map_cons, List.map_nil, List.getElem?_toArray, List.getElem?_cons_succ, List.getElem?_cons_zero, Option.getD_some, List.size_toArray, List.length_cons, List.length_nil, Nat.reduceAdd, Nat.reduceSub]
                          repeat (go_big_quiet_step (fail))
                          refine wpQuiet_nil ?_
                          refine J_loud1 6 _ rfl (by kernel_rfl) ?_
                          simp only [List.getElem_toArray, List.getElem_cons_succ, List.getElem_cons_zero]
                          intro wj hj
                          go_wp2_with fail
                          refine (EE.out K _ wj (HEw.out _ hj) (HBV.out.ext (Ext.below hj))).mono ?_
                          rintro e w5 ⟨rfl, hb5⟩
                          cases hx : endF T K
                          · have HV2 : Hid (E = 3) := HNO.out (okP_blk_no (hZ.out (by rw [HKF.out, hx, Bool.and_false])))
                            clear HNO HYES hx
                            go_wp2_with fail
                            refine ⟨KeepX.below hb5, ?_⟩
                            have hb6 := hj.trans (hb5.mono hj.size)
                            clear hb5 hj
                            refine J_mobs [7] _ _ _ _ (by kernel_rfl) ?_
                            simp only [List.map_cons, List.map_nil, List.getElem?_toArray, List.getElem?_cons_succ, List.getElem?_cons_zero, Option.getD_some, List.size_toArray, List.length_cons, List.length_nil, Nat.reduceAdd, Nat.reduceSub]
                            repeat (go_big_quiet_step (fail))
                            refine wpQuiet_nil ?_
                            refine J_done (by kernel_rfl) (fun wk hk => ?_) _
                            have D6 : Hid (Below W2.heap.size W2 wk) := (hB.out.trans (hb6.mono hzr)).trans (hk.mono (by have := hb6.size; omega))
                            clear hb6 hk
                            clear x0 x1 x2 x3 y0 y1 y2 y3 y4 y5
                            clear c0 c1 c2 c3 c4
                            go_wp2_with fail
                            go_ret
                            exact ⟨ret_i HV2.out.symm, HR.out _ D6.out⟩
                          · have HEK : Hid (endF T K = true) := hx
                            clear hx
                            go_wp2_with fail
                            refine ⟨KeepX.below hb5, ?_⟩
                            have hb6 := hj.trans (hb5.mono hj.size)
                            clear hb5 hj
                            refine J_mobs [7] _ _ _ _ (by kernel_rfl) ?_
                            simp only [List.map_cons, List.map_nil, List.getElem?_toArray, List.getElem?_cons_succ, List.getElem?_cons_zero, Option.getD_some, List.size_toArray, List.length_cons, List.length_nil, Nat.reduceAdd, Nat.reduceSub]
                            repeat (go_big_quiet_step (fail))
                            refine wpQuiet_nil ?_
                            refine J_done (by kernel_rfl) (fun wk hk => ?_) _
                            have D6 : Hid (Below W2.heap.size W2 wk) := (hB.out.trans (hb6.mono hzr)).trans (hk.mono (by have := hb6.size; omega))
                            have C6 : Hid (Below wo.heap.size wo wk) := hb6.trans (hk.mono hb6.size)
                            clear hb6 hk
                            clear x0 x1 x2 x3 y0 y1 y2 y3 y4 y5
                            clear c1 c2 c3 c4
                            have HC0 := Lib.hid c0
                            clear c0
                            go_wp2_with fail
                            go_loopw [8] (fun i wr => ∃ n : Nat, n ≤ K.ins.length ∧ i = .int .i64 (n : Int) ∧ Hid (Below wo.heap.size wo wr) ∧ Hid ((K.ins.take n).all (okI m T) = true)) (fun i _ => K.ins.length - (intOf i).toNat)
                            case atStart => exact ⟨0, Nat.zero_le _, rfl, C6, rfl⟩
                            case round =>
                              clear C6 D6
                              obtain ⟨n, hn, rfl, hC, HA2⟩ := hrel
                              have hD : Hid (Below W2.heap.size W2 wr) := hB.out.trans (hC.out.mono hzr)
                              have x := fun j => cell_of_heap ((hD.out.block _ lm0).trans HM.out) j
                              have x0 := x 0
                              have x1 := x 1
                              have x2 := x 2
                              have x3 := x 3
                              have y := fun j => cell_of_heap ((hD.out.block _ lp0).trans HP.out) j
                              have y0 := y 0
                              have y1 := y 1
                              have y2 := y 2
                              have y3 := y 3
                              have y4 := y 4
                              have y5 := y 5
                              simp only [List.getElem?_toArray, List.getElem?_cons_zero, List.getElem?_cons_succ] at x0 x1 x2 x3 y0 y1 y2 y3 y4 y5
                              clear x y
                              have lm : w.heap.size < wr.heap.size := by have := hD.out.size; omega
                              have lp : w.heap.size + 1 < wr.heap.size := by have := hD.out.size; omega
                              have c0 := Ext.below hC.out _ _ HC0.out
                              have lbb8 : bb < wr.heap.size := World.block_lt_of_cell? wr _ c0
                              by_cases hln : n < K.ins.length
                              · obtain ⟨b3, o3, va, rfl, -, hva, z0, z1, z2, z3, z4, z5, z6, z7, z8, z9, z10⟩ := HIs.out n hln
                                have hEx := HEw.out _ hC.out
                                replace z0 := hEx _ _ z0
                                replace z1 := hEx _ _ z1
                                replace z2 := hEx _ _ z2
                                replace z3 := hEx _ _ z3
                                replace z4 := hEx _ _ z4
                                replace z5 := hEx _ _ z5
                                replace z6 := hEx _ _ z6
                                replace z7 := hEx _ _ z7
                                replace z8 := hEx _ _ z8
                                replace z9 := hEx _ _ z9
                                replace z10 := hEx _ _ z10
                                have hY3 := allG_take (okI m T) K.ins n hln HA2.out
                                have hZ3 := allG_no (okI m T) K.ins n hln
                                generalize K.ins.getD n default = I at *
                                have hIv : InV wr (.agg #[.int .i64 I.op, .int .i64 I.d, .int .i64 I.a, .int .i64 I.b, .int .i64 I.fn, .int .i64 I.obj, .int .i64 I.off, .int .i64 I.size, .int .u32 I.num, va, .bool I.log]) I := ⟨_, rfl, hva.ext hEx⟩
                                have HIV := Lib.hid hIv
                                clear hIv hEx
                                have lb3 : b3 < wr.heap.size := World.block_lt_of_cell? wr _ z1
                                obtain ⟨aa, ca, rfl, ha1, ha2, -⟩ := hva
                                unfold maxLen at ha2
                                cases hx : okI m T I
                                · have EI2 := Lib.hid (EI.out I)
                                  rw [hx] at EI2
                                  have HV2 : Hid (E = 3) := HNO.out (okP_blk_no (hZ.out (by rw [HKF.out, hZ3 hx, Bool.false_and])))
                                  clear HNO HYES hx
                                  go_wp2_with fail
                                  refine wp_region_junk (fun _ => True) (by kernel_rfl) ?_
                                  refine J_mobs [0, 1, 2, 3, 4, 5, 6, 7, 8, 9, 10] _ _ _ _ (by kernel_rfl) ?_
                                  simp only [List.map_cons, List.map_nil, List.getElem?_toArray, List.getElem?_cons_succ, List.getElem?_cons_zero, Option.getD_some, List.size_toArray, List.length_cons, List.length_nil, Nat.reduceAdd, Nat.reduceSub]
                                  repeat (go_big_quiet_step (fail))
                                  refine wpQuiet_nil ?_
                                  refine J_loud1 11 _ rfl (by kernel_rfl) ?_
                                  simp only [List.getElem_toArray, List.getElem_cons_succ, List.getElem_cons_zero]
                                  intro wj hj
                                  go_wp2_with fail
                                  refine (EI2.out _ wj (HEw.out _ (hC.out.trans (hj.mono hC.out.size))) (HIV.out.ext (Ext.below hj))).mono ?_
                                  rintro e w5 ⟨rfl, hb5⟩
                                  go_wp2_with fail
                                  refine ⟨KeepX.below hb5, ?_⟩
                                  have hb6 := hj.trans (hb5.mono hj.size)
                                  clear hb5 hj
                                  refine J_mobs [12] _ _ _ _ (by kernel_rfl) ?_
                                  simp only [List.map_cons, List.map_nil, List.getElem?_toArray, List.getElem?_cons_succ, List.getElem?_cons_zero, Option.getD_some, List.size_toArray, List.length_cons, List.length_nil, Nat.reduceAdd, Nat.reduceSub]
                                  repeat (go_big_quiet_step (fail))
                                  refine wpQuiet_nil ?_
                                  refine J_done (by kernel_rfl) (fun wk hk => ?_) _
                                  have D6 : Hid (Below W2.heap.size W2 wk) := (hD.out.trans (hb6.mono hD.out.size)).trans (hk.mono (by have := hb6.size; have := hD.out.size; omega))
                                  clear hb6 hk
                                  clear x0 x1 x2 x3 y0 y1 y2 y3 y4 y5
                                  clear c0 z0 z1 z2 z3 z4 z5 z6 z7 z8 z9 z10
                                  go_wp2_with fail
                                  go_ret
                                  exact ⟨ret_i HV2.out.symm, HR.out _ D6.out⟩
                                · have EI2 := Lib.hid (EI.out I)
                                  rw [hx] at EI2
                                  have HA4 := Lib.hid (hY3 hx)
                                  clear hY3 hZ3 hx
                                  go_wp2_with fail
                                  refine wp_region_junk (fun _ => True) (by kernel_rfl) ?_
                                  refine J_mobs [0, 1, 2, 3, 4, 5, 6, 7, 8, 9, 10] _ _ _ _ (by kernel_rfl) ?_
                                  simp only [List.map_cons, List.map_nil, List.getElem?_toArray, List.getElem?_cons_succ, List.getElem?_cons_zero, Option.getD_some, List.size_toArray, List.length_cons, List.length_nil, Nat.reduceAdd, Nat.reduceSub]
                                  repeat (go_big_quiet_step (fail))
                                  refine wpQuiet_nil ?_
                                  refine J_loud1 11 _ rfl (by kernel_rfl) ?_
                                  simp only [List.getElem_toArray, List.getElem_cons_succ, List.getElem_cons_zero]
                                  intro wj hj
                                  go_wp2_with fail
                                  refine (EI2.out _ wj (HEw.out _ (hC.out.trans (hj.mono hC.out.size))) (HIV.out.ext (Ext.below hj))).mono ?_
                                  rintro e w5 ⟨rfl, hb5⟩
                                  go_wp2_with fail
                                  refine ⟨KeepX.below hb5, ?_⟩
                                  have hb6 := hj.trans (hb5.mono hj.size)
                                  clear hb5 hj
                                  refine J_mobs [12] _ _ _ _ (by kernel_rfl) ?_
                                  simp only [List.map_cons, List.map_nil, List.getElem?_toArray, List.getElem?_cons_succ, List.getElem?_cons_zero, Option.getD_some, List.size_toArray, List.length_cons, List.length_nil, Nat.reduceAdd, Nat.reduceSub]
                                  repeat (go_big_quiet_step (fail))
                                  refine wpQuiet_nil ?_
                                  refine J_done (by kernel_rfl) (fun wk hk => ?_) _
                                  have C7 : Hid (Below wo.heap.size wo wk) := (hC.out.trans (hb6.mono hC.out.size)).trans (hk.mono (by have := hb6.size; have := hC.out.size; omega))
                                  clear hb6 hk
                                  clear x0 x1 x2 x3 y0 y1 y2 y3 y4 y5
                                  clear c0 z0 z1 z2 z3 z4 z5 z6 z7 z8 z9 z10
                                  go_wp2_with fail
                                  go_roundw
                                  case rel => exact ⟨n + 1, by omega, by go_num, C7, HA4⟩
                                  case measure => simp [intOf]; omega
                              · have HKI : Hid (K.ins.all (okI m T) = true) := by have := HA2.out; rwa [List.take_of_length_le (by omega)] at this
                                have HA5 : Hid ((T.blks.take (q + 1)).all (okB m T) = true) := hY.out (by rw [HKF.out, HKI.out, HEK.out]; rfl)
                                go_wp2_with fail
                                go_roundw
                                case rel => exact ⟨q + 1, by omega, by rw [HST.out]; go_num, by go_num, hD, HA5⟩
                                case measure => simp [intOf]; omega
                        · obtain rfl : q = T.blks.length := by omega
                          have HAL : Hid (T.blks.all (okB m T) = true) := by have := HA.out; rwa [List.take_length] at this
                          rw [List.take_length, ← HIn.out]
                          by_cases hbig : 20000 < insN T
                          · have HV2 : Hid (E = 3) := HNO.out (okP_big hbig)
                            have gb : decide (20000 < insN T) = true := decide_eq_true hbig
                            have gb2 : decide ((20000 : Int) < (insN T : Int)) = true := decide_eq_true (by omega)
                            clear HNO HYES
                            go_wp2_with fail
                            go_ret
                            exact ⟨ret_i HV2.out.symm, HR.out _ hB.out⟩
                          · have HV2 : Hid (E = 0) := HYES.out (okP_yes HHd.out (by omega) HAL.out)
                            have gb : decide (20000 < insN T) = false := decide_eq_false hbig
                            have gb2 : decide ((20000 : Int) < (insN T : Int)) = false := decide_eq_false (by omega)
                            clear HNO HYES
                            go_wp2_with fail
                            go_ret
                            exact ⟨ret_i HV2.out.symm, HR.out _ hB.out⟩
                · have gk5 : decide ((T.objs.length : Int) ≤ 400) = false := decide_eq_false k5
                  have gl5 : decide (400 < (T.objs.length : Int)) = true := decide_eq_true (by omega)
                  rw [decide_eq_false (‹¬ (T.objs.length : Int) ≤ 400›)] at ES
                  have HV2 : Hid (E = 3) := HNO.out (okP_no fun q => by have := q.ol; omega)
                  clear HNO HYES hsl
                  go_wp2_with fail
                  refine (ES.out _ (Ext.below (HR.out _ B0.out))).mono ?_
                  rintro e w3 ⟨rfl, rfl⟩
                  go_wp2_with fail
                  go_ret
                  exact ⟨ret_i HV2.out.symm, HR.out _ B0.out⟩
            · have gk4 : decide (T.regs ≤ 8000) = false := decide_eq_false k4
              have gl4 : decide (8000 < T.regs) = true := decide_eq_true (by omega)
              have HV2 : Hid (E = 3) := HNO.out (okP_no fun q => by have := q.r8; omega)
              clear HNO HYES
              go_wp2_with fail
              go_ret
              exact ⟨ret_i HV2.out.symm, HR.out _ B0.out⟩
          · have gk3 : decide (T.params ≤ T.regs) = false := decide_eq_false k3
            have gl3 : decide (T.regs < T.params) = true := decide_eq_true (by omega)
            have HV2 : Hid (E = 3) := HNO.out (okP_no fun q => by have := q.pr; omega)
            clear HNO HYES
            go_wp2_with fail
            go_ret
            exact ⟨ret_i HV2.out.symm, HR.out _ B0.out⟩
        · have gk2 : decide (T.params ≤ 6) = false := decide_eq_false k2
          have gl2 : decide (6 < T.params) = true := decide_eq_true (by omega)
          have HV2 : Hid (E = 3) := HNO.out (okP_no fun q => by have := q.p6; omega)
          clear HNO HYES
          go_wp2_with fail
          go_ret
          exact ⟨ret_i HV2.out.symm, HR.out _ B0.out⟩
      · have gk1 : decide (0 ≤ T.params) = false := decide_eq_false k1
        have gl1 : decide (T.params < 0) = true := decide_eq_true (by omega)
        have HV2 : Hid (E = 3) := HNO.out (okP_no fun q => by have := q.p0; omega)
        clear HNO HYES
        go_wp2_with fail
        go_ret
        exact ⟨ret_i HV2.out.symm, HR.out _ B0.out⟩
    · have g1 : decide ((m.procs.length : Int) ≤ (k : Int)) = true := decide_eq_true (by omega)
      have g2 : decide (m.procs.length ≤ k) = true := decide_eq_true (by omega)
      rw [if_neg (by omega)] at HF
      go_enter Tryd.func14, Tryd.ntmps14
      go_wp2_with fail
      go_ret
      exact ⟨ret_i HF.out.symm, below_alloc w _⟩
  · have g0 : decide (n < 0) = true := decide_eq_true (by omega)
    rw [if_neg (by omega)] at HF
    go_enter Tryd.func14, Tryd.ntmps14
    go_wp2_with fail
    go_ret
    exact ⟨ret_i HF.out.symm, below_alloc w _⟩
end Go.Proofs.YtnnhobbabcfogaaDoor
