/-
 FoldKnown: the walk.
-/
import Derived.Test.YtkhfddodmjnecaaGreatDoorZFoldKnown50
import Derived.Test.YtkhfddodmjnecaaGreatDoorZFoldKnown47
import Derived.Test.YtkhfddodmjnecaaGreatDoorZFoldKnown14
import Derived.Test.YtkhfddodmjnecaaGreatDoorZFoldKnown15
set_option linter.all false
namespace Go.Proofs.YtkhfddodmjnecaaGreatDoor
open Go.ChangeShapes Go.WideShapes Go.ChangeAt Go.RowKit Go.Maps
set_option maxHeartbeats 16000000
set_option maxRecDepth 100000
set_option linter.unusedVariables false

theorem few_szT2 {m : Md} (h : fewM m = true) {p : Pr} (hp : p ∈ m.procs) : SzT p := by
 obtain ⟨h1, -, h3⟩ := fewM_pr h hp
 exact ⟨by omega, fun b hb => by have := (h3 b hb).1; omega, fun b hb i hi => by have := insF_args ((h3 b hb).2 i hi); omega⟩
theorem knwE_ins (t : Ro) (l : List In) (f a t3 e : Int) : knwE t ⟨l, f, a, t3, e⟩ = ⟨l, (knwE t ⟨[], f, a, t3, e⟩).fin, (knwE t ⟨[], f, a, t3, e⟩).a, (knwE t ⟨[], f, a, t3, e⟩).to, (knwE t ⟨[], f, a, t3, e⟩).els⟩ := by
 unfold knwE
 dsimp only
 split
 ·split <;> rfl
 ·rfl
theorem knwL_take {t : Ro} {l : List In} {k : Nat} (h : k < l.length) : (knwL t l).take (k + 1) = (knwL t l).take k ++ [knwI (thrC t (l.take (k + 1))) (l.getD k default)] := by
 rw [List.take_succ, List.getElem?_eq_getElem (by rw [knwL_len]; exact h), ← knwL_at l t k h]
 simp [List.getD, knwL_len, h]
section
variable {w w' : World} {b0 : Nat} {s : ByteArray} {x : Bool} {n1 n2 : Int} {ao ab : Option Addr} {lo lb co cb : Nat} {u : Value} {t : TypeId}
theorem RdI.boxK (H0 : w.heap[b0]? = some (.cells #[.string s, .bool x, .int .i64 n1, .int .i64 n2, .slice ao lo co, .slice ab lb cb] t (0, 0))) (H1 : w'.heap[b0]? = some (.cells #[.string s, .bool x, .int .i64 n1, .int .i64 n2, .slice ao lo co, u] t (0, 0))) (hk : ∀ b, b ≠ b0 → w'.heap[b]? = w.heap[b]?)
  {v : Value} {l : List Int} (h : RdI w v l) : RdI w' v l := by
 obtain ⟨a, c, h1, h2, h3, h4⟩ := h
 refine ⟨a, c, h1, h2, h3, fun i hi => ?_⟩
 obtain ⟨b, o, e, r⟩ := h4 i hi
 refine ⟨b, o, e, ?_⟩
 have r : w.cell? ⟨b, o + i * 1 + 0, none⟩ = some (.int .i64 (l.getD i 0)) := r
 show w'.cell? ⟨b, o + i * 1 + 0, none⟩ = some (.int .i64 (l.getD i 0))
 by_cases hb : b = b0
 ·subst hb
  rw [cell_of_heap H0] at r
  rw [cell_of_heap H1]
  generalize o + i * 1 + 0 = y at *
  rcases y with _ | _ | _ | _ | _ | _ | y <;> simp at r ⊢ <;> exact r
 ·exact (World.cell?_of_block (a := ⟨b, o + i * 1 + 0, none⟩) (hk b hb)).trans r
theorem RdIns.boxK (H0 : w.heap[b0]? = some (.cells #[.string s, .bool x, .int .i64 n1, .int .i64 n2, .slice ao lo co, .slice ab lb cb] t (0, 0))) (H1 : w'.heap[b0]? = some (.cells #[.string s, .bool x, .int .i64 n1, .int .i64 n2, .slice ao lo co, u] t (0, 0))) (hk : ∀ b, b ≠ b0 → w'.heap[b]? = w.heap[b]?)
  {v : Value} {l : List In} (h : RdIns w v l) : RdIns w' v l := by
 obtain ⟨a, c, h1, h2, h3, h4⟩ := h
 refine ⟨a, c, h1, h2, h3, fun i hi => ?_⟩
 obtain ⟨b, o, e, r⟩ := h4 i hi
 have hb : b ≠ b0 := by
  rintro rfl
  have r0 := r.op
  have r1 := r.d
  have r2 := r.a
  rw [cell_of_heap H0] at r0 r1 r2
  generalize o + i * 11 = y at *
  rcases y with _ | _ | _ | _ | _ | _ | y <;> simp at r0 r1 r2
 have hc : Sub (fun j => w.cell? ⟨b, o + i * 11 + j, none⟩) (fun j => w'.cell? ⟨b, o + i * 11 + j, none⟩) := fun j u hu => (World.cell?_of_block (a := ⟨b, o + i * 11 + j, none⟩) (hk b hb)).trans hu
 obtain ⟨q0, q1, q2, q3, q4, q5, q6, q7, q8, ⟨va, q9, hva⟩, q10⟩ := r
 exact ⟨b, o, e, ⟨hc _ _ q0, hc _ _ q1, hc _ _ q2, hc _ _ q3, hc _ _ q4, hc _ _ q5, hc _ _ q6, hc _ _ q7, hc _ _ q8, ⟨va, hc _ _ q9, hva.boxK H0 H1 hk⟩, hc _ _ q10⟩⟩
theorem RdBks.boxK (H0 : w.heap[b0]? = some (.cells #[.string s, .bool x, .int .i64 n1, .int .i64 n2, .slice ao lo co, .slice ab lb cb] t (0, 0))) (H1 : w'.heap[b0]? = some (.cells #[.string s, .bool x, .int .i64 n1, .int .i64 n2, .slice ao lo co, u] t (0, 0))) (hk : ∀ b, b ≠ b0 → w'.heap[b]? = w.heap[b]?)
  {v : Value} {l : List Bk} (h : RdBks w v l) : RdBks w' v l := by
 obtain ⟨a, c, h1, h2, h3, h4⟩ := h
 refine ⟨a, c, h1, h2, h3, fun i hi => ?_⟩
 obtain ⟨b, o, e, r⟩ := h4 i hi
 obtain ⟨⟨va, q0, hva⟩, q1, q2, q3, q4⟩ := r
 have hb : b ≠ b0 := by
  rintro rfl
  obtain ⟨a', c', rfl, -⟩ := hva
  have r0 := q0
  have r1 := q1
  rw [cell_of_heap H0] at r0 r1
  generalize o + i * 5 = y at *
  rcases y with _ | _ | _ | _ | _ | _ | y <;> simp at r0 r1
 have hc : Sub (fun j => w.cell? ⟨b, o + i * 5 + j, none⟩) (fun j => w'.cell? ⟨b, o + i * 5 + j, none⟩) := fun j u hu => (World.cell?_of_block (a := ⟨b, o + i * 5 + j, none⟩) (hk b hb)).trans hu
 exact ⟨b, o, e, ⟨⟨va, hc _ _ q0, hva.boxK H0 H1 hk⟩, hc _ _ q1, hc _ _ q2, hc _ _ q3, hc _ _ q4⟩⟩
end
theorem FoldKnown_w (m : Md) (v : Value) (n : Int) (w : World) (hn : MdOk m) (hv : MdV w v m) (hpw : Pow w) (hg : 2 < w.heap.size) :
  Calls Tryz.prog 4 #[v, .int .i64 n] w fun e w' => e = .returned (.bool true) ∧ Below w.heap.size w w' := by
 have HTX : Hid (∀ (p : Pr) (vp : Value) w', Below w.heap.size w w' → PrV w' vp p → PrOk p → SzT p → Calls Tryz.prog 16 #[vp] w' fun e w'' => e = .returned (.string ⟨(textF p).toArray⟩) ∧ Below w'.heap.size w' w'') := fun p vp w' hb hp hok hs => text_c p vp w' (Go.Joins.var_stays pow_named hpw hb (Nat.le_refl _)) (Nat.lt_of_lt_of_le hg hb.size) hp hok hs
 have HR : Hid (∀ w', Ext w w' → Calls Tryz.prog 6 #[v, .int .i64 n] w' fun e w'' => e = .returned (.bool (rightB m n)) ∧ Below w'.heap.size w' w'') := fun w' he => rightM_c m v n w' (hv.ext he)
 clear hpw
 obtain ⟨vg, vd, vp, rfl, hvg, hvd, hvp⟩ := hv
 have hvp' := hvp
 obtain ⟨ap, cp, rfl, hp1, hp2, -⟩ := hvp'
 unfold maxLen at hp2
 have HPS := Lib.hid (RdPrs.at6 hvp).2
 have HN := Lib.hid hn
 clear hvg hvd hvp hn
 obtain ⟨W0, hW0⟩ : ∃ W0, W0 = w.alloc (.cells #[vg, vd, .slice ap m.procs.length cp, .int .i64 m.main] 26) := ⟨_, rfl⟩
 have B0 : Hid (Below w.heap.size w W0) := by rw [hW0]; exact below_alloc w _
 have H0 := Lib.hid (heap_of_alloc w _ _ hW0)
 have HW0 := Lib.hid hW0
 clear hW0
 go_enter Tryz.func4, Tryz.ntmps4
 go_wp2_with fail
 rw [← HW0.out]
 refine (HR.out W0 (Ext.below B0.out)).mono ?_
 rintro e w1 ⟨rfl, hb1⟩
 have H0 := Lib.hid ((hb1.block w.heap.size (Array.getElem?_eq_some_iff.1 H0.out).1).trans H0.out)
 have BB := Lib.hid (B0.out.trans (hb1.mono B0.out.size))
 clear hb1 HR HW0 B0
 obtain ⟨y0, y1, y2, y3, l0⟩ := cl4 H0.out
 cases hr : rightB m n
 ·clear hr
  go_wp2_with fail
  refine (awake17_c _).mono ?_
  rintro e w2 ⟨rfl, hb2⟩
  have BB := Lib.hid (BB.out.trans (hb2.mono BB.out.size))
  clear hb2
  go_wp2_with fail
  go_ret
  exact ⟨rfl, BB.out⟩
 ·obtain ⟨hfw, k, rfl, h1, h40, hokm⟩ := rightB_is hr
  clear hr
  have g1 : decide ((k : Int) < (m.procs.length : Int)) = true := decide_eq_true (by omega)
  have g2 : decide (k < m.procs.length) = true := decide_eq_true h1
  obtain ⟨bp, op, tnm, tvo, tvb, hap, hto, htb, t0, t1, t2, t3, t4, t5⟩ := HPS.out k h1
  subst hap
  have hmem : m.procs.getD k default ∈ m.procs := by simp [List.getD, h1]
  have hkp : okP m (m.procs.getD k default) = true := by
   unfold okM at hokm
   simp only [Bool.and_eq_true, List.all_eq_true] at hokm
   exact hokm.2.2.2 _ hmem
  have FOK := Lib.hid (fold_ok hfw hmem hkp h40 (HN.out.procs _ hmem))
  have HPOK := Lib.hid (HN.out.procs _ hmem)
  have HSZ := Lib.hid (few_szT2 hfw hmem)
  have HEA : Hid (∀ n, n < (m.procs.getD k default).blks.length → ((m.procs.getD k default).blks.getD n default).fin = 2 → 0 ≤ ((m.procs.getD k default).blks.getD n default).a ∧ ((m.procs.getD k default).blks.getD n default).a < (m.procs.getD k default).regs) := fun n hn h2 => by
   have hk2 := hkp
   unfold okP at hk2
   simp only [Bool.and_eq_true, List.all_eq_true] at hk2
   have hb : (m.procs.getD k default).blks.getD n default ∈ (m.procs.getD k default).blks := by rw [getD_lt hn]; exact List.getElem_mem hn
   have h := hk2.2 _ hb
   unfold okB at h
   simp only [Bool.and_eq_true] at h
   have h := h.2
   unfold endF at h
   rw [if_neg (by omega), if_pos h2] at h
   simp only [Bool.and_eq_true] at h
   exact regF_in h.2.2
  have HDD : Hid (∀ n, n < (m.procs.getD k default).blks.length → ∀ i ∈ ((m.procs.getD k default).blks.getD n default).ins, i.op = 2 ∨ i.op = 3 ∨ i.op = 4 → 0 ≤ i.d ∧ i.d < (m.procs.getD k default).regs) := fun n hn i hi ho => by
   have hk2 := hkp
   unfold okP at hk2
   simp only [Bool.and_eq_true, List.all_eq_true] at hk2
   have hb : (m.procs.getD k default).blks.getD n default ∈ (m.procs.getD k default).blks := by rw [getD_lt hn]; exact List.getElem_mem hn
   have h := hk2.2 _ hb
   unfold okB at h
   simp only [Bool.and_eq_true, List.all_eq_true] at h
   exact okI_d (h.1 i hi) (by omega)
  clear hkp hokm hfw hmem HPS HN h40
  generalize m.procs.getD k default = P at *
  obtain ⟨R, hRR⟩ : ∃ R, P.regs.toNat = R := ⟨_, rfl⟩
  rw [hRR] at FOK
  clear hRR
  have HPV : Hid (PrV w (.agg #[.string tnm, .bool P.void, .int .i64 P.params, .int .i64 P.regs, tvo, tvb]) P) := ⟨tnm, tvo, tvb, rfl, hto, htb⟩
  have EK : Hid (∀ w', Ext w w' → Calls Tryz.prog 9 #[.agg #[.string tnm, .bool P.void, .int .i64 P.params, .int .i64 P.regs, tvo, tvb]] w' (KnwQ P R tnm tvo w')) := fun w' he =>
   known_c P tnm tvo tvb w' R (HPV.out.ext he) FOK.out.regs (by have := FOK.out.le; omega) FOK.out.b0 (by have := FOK.out.b1; omega) FOK.out.ord (fun n hn => ⟨(FOK.out.ins n hn).1, by have := (FOK.out.ins n hn).2.2; omega⟩) FOK.out.out
  have ED : Hid (∀ w', Ext w w' → Calls Tryz.prog 12 #[.agg #[.string tnm, .bool P.void, .int .i64 P.params, .int .i64 P.regs, tvo, tvb]] w' (RconQ P R w')) := fun w' he =>
   rcons_c P _ w' R (HPV.out.ext he) FOK.out.regs (by have := FOK.out.le; omega) FOK.out.b0 (by have := FOK.out.b1; omega) (fun n hn => ⟨(FOK.out.ins n hn).1, (FOK.out.ins n hn).2.1, by have := (FOK.out.ins n hn).2.2; omega⟩)
  have HVO := Lib.hid hto
  have HBP := Lib.hid htb
  obtain ⟨ao, co, rfl, -⟩ := hto
  obtain ⟨ab, cb, rfl, hcb1, hcb2, -⟩ := htb
  unfold maxLen at hcb2
  have hE1 : Ext w w1 := Ext.below BB.out
  replace t0 := hE1 _ _ t0
  replace t1 := hE1 _ _ t1
  replace t2 := hE1 _ _ t2
  replace t3 := hE1 _ _ t3
  replace t4 := hE1 _ _ t4
  replace t5 := hE1 _ _ t5
  clear hE1
  have hbl : P.blks.length ≤ 40 := FOK.out.b1
  have hb0 : 0 < P.blks.length := FOK.out.b0
  have lbp := World.block_lt_of_cell? _ _ t0
  by_cases h12 : 12 < P.blks.length
  ·have g3 : decide ((12 : Int) < (P.blks.length : Int)) = true := decide_eq_true (by omega)
   clear EK ED FOK HPV
   go_wp2_with fail
   refine (awake17_c _).mono ?_
   rintro e w2 ⟨rfl, hb2⟩
   have BB := Lib.hid (BB.out.trans (hb2.mono BB.out.size))
   clear hb2
   go_wp2_with fail
   go_ret
   exact ⟨rfl, BB.out⟩
  ·have g3 : decide ((12 : Int) < (P.blks.length : Int)) = false := decide_eq_false (by omega)
   have HRG := Lib.hid FOK.out.regs
   clear HPV
   have H5 := Lib.hid (heap_alloc_new w1 (.cells #[.string tnm, .bool P.void, .int .i64 P.params, .int .i64 P.regs, .slice ao P.objs.length co, .slice ab P.blks.length cb] 32))
   have B5 := Lib.hid (below_alloc w1 (.cells #[.string tnm, .bool P.void, .int .i64 P.params, .int .i64 P.regs, .slice ao P.objs.length co, .slice ab P.blks.length cb] 32))
   go_wp2_with fail
   generalize hb5 : w1.heap.size = b5 at *
   generalize w1.alloc (.cells #[.string tnm, .bool P.void, .int .i64 P.params, .int .i64 P.regs, .slice ao P.objs.length co, .slice ab P.blks.length cb] 32) = w5 at *
   have BB5 : Hid (Below w.heap.size w w5) := BB.out.trans (B5.out.mono (by rw [← hb5]; exact BB.out.size))
   have G5 : Hid (w.heap.size ≤ b5) := by rw [← hb5]; exact BB.out.size
   clear t0 t1 t2 t3 t4 t5 y0 y1 y2 y3 l0 H0 lbp hb5 B5 BB
   refine (EK.out w5 (Ext.below BB5.out)).mono ?_
   rintro e w6 ⟨X, qb, rfl, hXl, hrun, hstl, hqb, hb6⟩
   have HRUN := Lib.hid hrun
   have HSTL := Lib.hid hstl
   have HQB := Lib.hid hqb
   obtain ⟨aq, cq, rfl, hcq1, hcq2, -⟩ := hqb
   have hql := knwP_len P (atB R X)
   rw [hql]
   rw [hql] at hcq1
   have HQL := Lib.hid hql
   unfold maxLen at hcq2
   rw [← HRG.out]
   clear hrun hstl hql
   have N56 : Hid (w6.heap.size ≠ b5) := fun e => by have h1 := (Array.getElem?_eq_some_iff.1 H5.out).1; have h2 := hb6.size; omega
   have H6 := Lib.hid (heap_alloc_new w6 (.cells #[.string tnm, .bool P.void, .int .i64 P.params, .int .i64 P.regs, .slice ao P.objs.length co, .slice aq P.blks.length cq] 32))
   have B6 := Lib.hid (below_alloc w6 (.cells #[.string tnm, .bool P.void, .int .i64 P.params, .int .i64 P.regs, .slice ao P.objs.length co, .slice aq P.blks.length cq] 32))
   have H5 := Lib.hid (((hb6.trans (B6.out.mono hb6.size)).block _ (Array.getElem?_eq_some_iff.1 H5.out).1).trans H5.out)
   have BB6 : Hid (Below w.heap.size w w6) := BB5.out.trans (hb6.mono BB5.out.size)
   go_upto_region 5 with (fail)
   generalize hb6' : w6.heap.size = b6 at *
   have BB7 : Hid (Below w.heap.size w (w6.alloc (.cells #[.string tnm, .bool P.void, .int .i64 P.params, .int .i64 P.regs, .slice ao P.objs.length co, .slice aq P.blks.length cq] 32))) := BB6.out.trans (B6.out.mono (by rw [← hb6']; exact BB6.out.size))
   have E67 : Hid (Ext w6 (w6.alloc (.cells #[.string tnm, .bool P.void, .int .i64 P.params, .int .i64 P.regs, .slice ao P.objs.length co, .slice aq P.blks.length cq] 32))) := Ext.below (by rw [hb6']; exact B6.out)
   generalize w6.alloc (.cells #[.string tnm, .bool P.void, .int .i64 P.params, .int .i64 P.regs, .slice ao P.objs.length co, .slice aq P.blks.length cq] 32) = w7 at *
   clear hb6 hb6' B6 BB5 BB6 EK
   obtain ⟨p0, p1, p2, p3, p4, p5, lp⟩ := cl6 H5.out
   go_wp2_with fail
   refine (ED.out w7 (Ext.below BB7.out)).mono ?_
   rintro e w8 ⟨vD, ds, rfl, hD, hb8⟩
   have hDo := hD.own
   rw [List.length_map, List.length_range] at hDo
   obtain ⟨gD, cD, rfl⟩ := own_slice hDo hb0
   have TD : Hid (TbD w8 0 (.slice (some ⟨gD, 0, none⟩) P.blks.length cD) ds ((List.range P.blks.length).map fun i => some (atB R X i))) := by
    show TbD _ _ _ _ _
    rw [show ((List.range P.blks.length).map fun i => some (atB R X i)) = ((List.range P.blks.length).map fun i => some (endC P R (rdN P R (2 + P.blks.length * (2 + R))) i)) by
     refine List.map_congr_left fun i hi => ?_
     have hi := List.mem_range.1 hi
     have := told_eq FOK.out HRUN.out HSTL.out hi
     simpa [List.getD, hi] using this.symm]
    exact hD
   have HAT := Lib.hid (fun i => at_ok FOK.out HRUN.out i)
   have HQB8 : Hid (RdBks w8 (.slice aq P.blks.length cq) (knwP P (atB R X)).blks) := by
    have h := (HQB.out.ext E67.out).ext (Ext.below hb8)
    rw [HQL.out] at h
    exact h
   have H5 := Lib.hid ((hb8.block _ (Array.getElem?_eq_some_iff.1 H5.out).1).trans H5.out)
   have H6 := Lib.hid ((hb8.block _ (Array.getElem?_eq_some_iff.1 H6.out).1).trans H6.out)
   have BB8 := Lib.hid (BB7.out.trans (hb8.mono BB7.out.size))
   have hcD : P.blks.length ≤ cD ∧ cD ≤ 2 ^ 63 - 1 := by
    obtain ⟨-, ⟨e, -⟩ | ⟨g', cap, cur, e, -, -, h1, h2, -⟩⟩ := hDo
    ·cases e
    ·simp only [Value.slice.injEq] at e
     unfold maxLen at h2
     omega
   have HFS := Lib.hid HRUN.out
   clear p0 p1 p2 p3 p4 p5 lp hD hDo hb8 ED HSTL HQB E67 BB7 HRUN
   obtain ⟨p0, p1, p2, p3, p4, p5, lp⟩ := cl6 H5.out
   go_wp2_with fail
   clear p0 p1 p2 p3 p4 p5 lp
   have S0 : Hid (WnM w w8 ((knwP P (atB R X)).blks.take 0) (.slice none 0 0) [] w8) := ⟨rfl, own_nil _ _ _ _, fun x hx => (by cases hx), Below.refl _ _⟩
   go_loopw [8, 9] (fun vo i wr => ∃ (k : Nat) (L : List (Bk × Value)), k ≤ P.blks.length ∧ i = .int .i64 (k : Int) ∧ Hid (WnM w w8 ((knwP P (atB R X)).blks.take k) vo L wr)) (fun _ i _ => P.blks.length - (intOf i).toNat)
   case atStart => exact ⟨0, [], Nat.zero_le _, rfl, S0⟩
   case round =>
    clear S0
    obtain ⟨wA, rfl⟩ : ∃ wA, wA = wr := ⟨wr, rfl⟩
    obtain ⟨k, L, hk, rfl, WA⟩ := hrel
    obtain ⟨avW, cvW, rfl⟩ := ow_form WA.out.own
    have H5A := Lib.hid ((WA.out.bl.block _ (Array.getElem?_eq_some_iff.1 H5.out).1).trans H5.out)
    have H6A := Lib.hid ((WA.out.bl.block _ (Array.getElem?_eq_some_iff.1 H6.out).1).trans H6.out)
    obtain ⟨p0, p1, p2, p3, p4, p5, lp⟩ := cl6 H5A.out
    have HLL : Hid (L.length = k) := by
     have := congrArg List.length WA.out.is
     rw [List.length_map, List.length_take, HQL.out] at this
     show _ = _
     omega
    by_cases hlt : k < P.blks.length
    ·have g4 : decide (k < P.blks.length) = true := decide_eq_true hlt
     have g5 : decide ((k : Int) < (P.blks.length : Int)) = true := decide_eq_true (by omega)
     obtain ⟨ib1, io1, vi1, rfl, hvi1, c0, c1, c2, c3, c4⟩ := (RdBks.at HBP.out).2 k hlt
     have hE : Ext w wA := Ext.below (BB8.out.trans (WA.out.bl.mono BB8.out.size))
     replace c0 := hE _ _ c0
     replace c1 := hE _ _ c1
     replace c2 := hE _ _ c2
     replace c3 := hE _ _ c3
     replace c4 := hE _ _ c4
     have hXl2 : k < ((List.range P.blks.length).map fun i => some (atB R X i)).length := by simpa using hlt
     obtain ⟨d0, d1, d2⟩ := TD.out.at hXl2
     have hrow := TD.out.row k hXl2
     rw [show ((List.range P.blks.length).map fun i => some (atB R X i)).getD k none = some (atB R X k) by simp [List.getD, hlt]] at hrow
     have hE8 := Ext.below WA.out.bl
     replace d0 := hE8 _ _ d0
     replace d1 := hE8 _ _ d1
     replace d2 := hE8 _ _ d2
     have hrs := hrow.s
     have HRH := Lib.hid (own_below hrow.h WA.out.bl)
     have HRN := Lib.hid (own_below hrow.n WA.out.bl)
     obtain ⟨hFl, hFo⟩ := HAT.out k
     have HFO := Lib.hid hFo
     have HFL := Lib.hid hFl
     have HKB : Hid ((knwP P (atB R X)).blks.take (k + 1) = (knwP P (atB R X)).blks.take k ++ [knwB (atB R X k) (P.blks.getD k default)]) := by
      show _ = _
      rw [List.take_succ, List.getElem?_eq_getElem (by rw [HQL.out]; exact hlt), ← knwP_at P (atB R X) hlt]
      simp [List.getD, HQL.out, hlt]
     have HEK := Lib.hid (HEA.out k hlt)
     have HIK := Lib.hid (FOK.out.ins k hlt)
     have HDK := Lib.hid (HDD.out k hlt)
     generalize hFk : atB R X k = F at *
     generalize P.blks.getD k default = K at *
     generalize (ds.getD k default).h = vh0 at *
     generalize (ds.getD k default).n = vn0 at *
     rw [show (ds.getD k default).s = true from hrs] at d0
     have hFl := HFL.out
     obtain ⟨ah0, ch0, rfl⟩ := ow_form HRH.out
     obtain ⟨an0, cn0, rfl⟩ := ow_form HRN.out
     have hHL : ((some F).getD ([] : Ro)).length = F.length := rfl
     rw [hHL, hFl] at d1
     rw [hHL, hFl] at d2
     rw [hHL, hFl] at HRH
     rw [hHL, hFl] at HRN
     have HV1 := Lib.hid hvi1
     obtain ⟨ai1, ci1, rfl, li1, mi1, -⟩ := hvi1
     have HIN := Lib.hid (RdIns.at HV1.out).2
     unfold maxLen at mi1
     clear hrow hrs hFk hFl hHL hE hE8 hXl2 HAT
     have lc := World.block_lt_of_cell? _ _ c0
     have ld := World.block_lt_of_cell? _ _ d0
     have hA2 := Below.refl wA.heap.size wA
     have I0 : Hid (InK w wA wA.heap.size (wA.heap.size + 1) (.slice ah0 R ch0) (.slice an0 R cn0) (thrC F (K.ins.take 0)) (.slice none 0 0) [] ((knwL F K.ins).take 0) K.fin K.a K.to K.els ((wA.alloc (.cells #[.bool true, .slice ah0 R ch0, .slice an0 R cn0] 40)).alloc (.cells #[.slice none 0 0, .int .i64 K.fin, .int .i64 K.a, .int .i64 K.to, .int .i64 K.els] 43))) := by
      have hB1 := below_alloc wA (.cells #[.bool true, .slice ah0 R ch0, .slice an0 R cn0] 40)
      have hB2 := below_alloc (wA.alloc (.cells #[.bool true, .slice ah0 R ch0, .slice an0 R cn0] 40)) (.cells #[.slice none 0 0, .int .i64 K.fin, .int .i64 K.a, .int .i64 K.to, .int .i64 K.els] 43)
      refine ⟨rfl, fun y hy => (by cases hy), own_nil _ _ _ _, ⟨_, _, rfl, ?_, ?_⟩, (hB2.block _ (by simp)).trans (heap_alloc_new wA _), ?_, Nat.le_refl _, Nat.le_succ _, hB1.trans (hB2.mono hB1.size)⟩
      ·show World.ownsRow _ _ _ _ _ F.length (hasV F)
       rw [HFL.out]; exact own_below (own_below HRH.out hB1) hB2
      ·show World.ownsRow _ _ _ _ _ F.length (numV F)
       rw [HFL.out]; exact own_below (own_below HRN.out hB1) hB2
      ·have h1 := heap_alloc_new (wA.alloc (.cells #[.bool true, .slice ah0 R ch0, .slice an0 R cn0] 40)) (.cells #[.slice none 0 0, .int .i64 K.fin, .int .i64 K.a, .int .i64 K.to, .int .i64 K.els] 43)
       rw [show (wA.alloc (.cells #[.bool true, .slice ah0 R ch0, .slice an0 R cn0] 40)).heap.size = wA.heap.size + 1 by simp] at h1
       exact h1
     go_upto_region 13 with (fail)
     generalize ((wA.alloc (.cells #[.bool true, .slice ah0 R ch0, .slice an0 R cn0] 40)).alloc (.cells #[.slice none 0 0, .int .i64 K.fin, .int .i64 K.a, .int .i64 K.to, .int .i64 K.els] 43)) = wB at *
     have HC0 := Lib.hid c0
     clear c0 c1 c2 c3 c4 d0 d1 d2 p0 p1 p2 p3 p4 p5 lp lc ld HRH HRN hA2
     have h60 : K.ins.length ≤ 60 := HIK.out.2.2
     have l1A := World.block_lt_of_cell? _ _ HC0.out
     dsimp only at l1A
     have l5A := (Array.getElem?_eq_some_iff.1 H5A.out).1
     have HR40 : Hid (R ≤ 40) := FOK.out.le
     have HRGR := Lib.hid HRG.out
     go_wp2_with fail
     go_loopw [12] (fun i wr => ∃ (j : Nat) (vh vn vI : Value) (LI : List (In × Value)), j ≤ K.ins.length ∧ i = .int .i64 (j : Int) ∧ Hid (InK w wA wA.heap.size (wA.heap.size + 1) vh vn (thrC F (K.ins.take j)) vI LI ((knwL F K.ins).take j) K.fin K.a K.to K.els wr)) (fun i _ => K.ins.length - (intOf i).toNat)
     case atStart => exact ⟨0, _, _, _, _, Nat.zero_le _, rfl, I0⟩
     case round =>
      clear I0
      obtain ⟨wq, rfl⟩ : ∃ wq, wq = wr := ⟨wr, rfl⟩
      obtain ⟨j, vh, vn, vI, LI, hj, rfl, IK⟩ := hrel
      have hrw := IK.out.rw.rdS
      obtain ⟨a1, q1, a2, q2, ev1, ev2⟩ := hrw.form
      rw [Option.getD_some, thrC_len, HFL.out] at ev1 ev2
      subst ev1 ev2
      have H5q := Lib.hid ((IK.out.bl.block _ l5A).trans H5A.out)
      obtain ⟨p0, p1, p2, p3, p4, p5, lp⟩ := cl6 H5q.out
      have c0 := (Ext.below IK.out.bl) _ _ HC0.out
      have lc := World.block_lt_of_cell? _ _ c0
      obtain ⟨x0, x1, x2, lx⟩ := cl3 IK.out.h10
      obtain ⟨y0, y1, y2, y3, y4, ly⟩ := cl5 IK.out.h11
      obtain ⟨avI, cvI, rfl⟩ := ow_form IK.out.own
      have HLI : Hid (LI.length = j) := by
       have := congrArg List.length IK.out.is
       rw [List.length_map, List.length_take, knwL_len] at this
       show _ = _
       omega
      by_cases hlj : j < K.ins.length
      ·have g6 : decide (j < K.ins.length) = true := decide_eq_true hlj
       have g7 : decide ((j : Int) < (K.ins.length : Int)) = true := decide_eq_true (by omega)
       obtain ⟨ib, io, va, rfl, lib, hva, e0, e1, e2, e3, e4, e5, e6, e7, e8, e9, e10⟩ := HIN.out j hlj
       have HEX := Lib.hid (And.intro e0 (And.intro e1 (And.intro e2 (And.intro e3 (And.intro e4 (And.intro e5 (And.intro e6 (And.intro e7 (And.intro e8 (And.intro e9 e10))))))))))
       have lift : ∀ {a : Addr} {u : Value}, w.cell? a = some u → wq.cell? a = some u := fun h => (Ext.below ((BB8.out.trans (WA.out.bl.mono BB8.out.size)).trans (IK.out.bl.mono (Nat.le_trans BB8.out.size WA.out.bl.size)))) _ _ h
       have e0 := lift e0
       have e1 := lift e1
       have e2 := lift e2
       have e3 := lift e3
       have e4 := lift e4
       have e5 := lift e5
       have e6 := lift e6
       have e7 := lift e7
       have e8 := lift e8
       have e9 := lift e9
       have e10 := lift e10
       have HEW : Hid (Below w.heap.size w wq) := (BB8.out.trans (WA.out.bl.mono BB8.out.size)).trans (IK.out.bl.mono (Nat.le_trans BB8.out.size WA.out.bl.size))
       clear lift
       have libA : ib < wA.heap.size := Nat.lt_of_lt_of_le lib (Nat.le_trans BB8.out.size WA.out.bl.size)
       have lib : ib < wq.heap.size := World.block_lt_of_cell? _ _ e0
       have hmem : K.ins.getD j default ∈ K.ins := by rw [getD_lt hlj]; exact List.getElem_mem hlj
       have HTK := Lib.hid (thrC_take F K.ins j hlj)
       have HKT := Lib.hid (knwL_take (t := F) hlj)
       have hdef := HIK.out.1.defs _ hmem
       have huse := HIK.out.2.1 _ hmem
       have hddd := HDK.out _ hmem
       have HVA := Lib.hid hva
       have hTo : RoOk (thrC F (K.ins.take j)) := thrC_ok HFO.out fun i hh => HIK.out.1.num i (List.mem_of_mem_take hh)
       have hTl : (thrC F (K.ins.take j)).length = R := by rw [thrC_len]; exact HFL.out
       have EBH : Hid (∀ W, Below wq.heap.size wq W → Calls Tryz.prog 13 #[.agg #[.bool true, .slice a1 R q1, .slice a2 R q2], aggI (K.ins.getD j default) va] W fun e w' => ∃ v', e = .returned v' ∧ BehP W (.agg #[.bool true, .slice a1 R q1, .slice a2 R q2]) (thrC F (K.ins.take j)) (behC (thrC F (K.ins.take j)) (K.ins.getD j default)) w' v' ∧ Below W.heap.size W w') := fun W hW =>
        rbehind_c _ _ _ _ W (hrw.ext (Ext.below hW)) ⟨va, rfl, (HVA.out.ext (Ext.below HEW.out)).ext (Ext.below hW)⟩ (by rw [hTl]; have := HR40.out; omega) hTo (fun hd => by rw [hTl]; exact hdef hd) (by rw [hTl]; exact huse)
       have EKN : Hid (∀ W vr, RwV W vr (some (behC (thrC F (K.ins.take j)) (K.ins.getD j default))) → Calls Tryz.prog 14 #[vr, aggI (K.ins.getD j default) va] W fun e w' => ∃ v', e = .returned v' ∧ InV w v' (knwI (behC (thrC F (K.ins.take j)) (K.ins.getD j default)) (K.ins.getD j default)) ∧ Below W.heap.size W w') := fun W vr h =>
        rknown_c _ _ _ _ w W h ⟨va, rfl, HVA.out⟩ (by rw [behC_len, hTl]; have := HR40.out; omega) (fun ho => by rw [behC_len, hTl]; have := hddd ho; rw [HRGR.out] at this; exact this)
       rw [← HTK.out] at EBH EKN
       obtain ⟨aa, ac, rfl, -⟩ := hva
       unfold aggI at EBH EKN
       have hTl' : (thrC F (K.ins.take (j + 1))).length = R := by rw [thrC_len]; exact HFL.out
       have HTL' := Lib.hid hTl'
       clear hmem hdef huse hddd hTo hTl hTl' HTK hrw HVA
       generalize hTT : thrC F (K.ins.take (j + 1)) = T' at *
       have HTT := Lib.hid hTT
       clear hTT
       generalize thrC F (K.ins.take j) = T at *
       generalize hVV : (knwL F K.ins).take (j + 1) = V' at *
       have HVV := Lib.hid hVV
       clear hVV
       generalize (knwL F K.ins).take j = V at *
       generalize K.ins.getD j default = I at *
       go_upto_region 16 with (fail)
       refine wp_region_game (fun z => z < wA.heap.size ∨ z = wA.heap.size) (by kernel_rfl) ?_
       show wpE _ _ _ _ _ _ _ wq.drew
       refine E_mob2s [0, 1, 2, 3, 4, 5, 6, 7, 8, 9] _ _ _ _ (by kernel_rfl) ?_
       simp only [List.map_cons, List.map_nil, List.getElem?_toArray, List.getElem?_cons_succ, List.getElem?_cons_zero, Option.getD_some, List.size_toArray, List.length_cons, List.length_nil, Nat.reduceAdd, Nat.reduceSub]
       repeat (go_big_quiet_step (fail))
       refine wpQuiet_nil ?_
       clear x0 x1 x2 lx y0 y1 y2 y3 y4 ly e0 e1 e2 e3 e4 e5 e6 e7 e8 e9 e10 lib p0 p1 p2 p3 p4 p5 lp c0 lc
       refine E_loud1 10 _ rfl (by kernel_rfl) ?_
       simp only [List.getElem_toArray, List.getElem_cons_succ, List.getElem_cons_zero]
       go_wp2_with fail
       refine (EBH.out wq.drew (Below.refl _ _).drew).mono ?_
       rintro e w7 ⟨v7, rfl, hbp, hb7⟩
       have I7 := Lib.hid ((IK.out.below (Below.refl _ _).drew).below hb7)
       have HO7 : ∃ vh' vn', v7 = .agg #[.bool true, vh', vn'] ∧ OwRw w7 0 (.agg #[.bool true, vh', vn']) true T' := by
        rcases hbp with ⟨e1, e2⟩ | h
        ·exact ⟨_, _, e1, by rw [e2]; exact I7.out.rw⟩
        ·have h0 := h.base (Nat.zero_le _)
         obtain ⟨vh', vn', e, -, -⟩ := h
         exact ⟨vh', vn', e, by rw [← e]; exact h0⟩
       obtain ⟨vh', vn', rfl, ho7⟩ := HO7
       have hrw7 := ho7.rdS
       obtain ⟨a3, q3, a4, q4, ev1, ev2⟩ := hrw7.form
       rw [Option.getD_some, HTL'.out] at ev1 ev2
       subst ev1 ev2
       have HO7 := Lib.hid ho7
       have HK7 : Hid (Keep (fun z => z < wA.heap.size ∨ z = wA.heap.size) wq.drew w7) := keep_below hb7 (fun z hz => by
        have h1 := IK.out.bl.size
        have h2 := (Array.getElem?_eq_some_iff.1 IK.out.h10).1
        rcases hz with hz | rfl
        ·exact Nat.lt_of_lt_of_le hz h1
        ·exact h2)
       clear hbp hb7 ho7 hrw7 EBH
       go_wp2_with fail
       refine ⟨HK7.out, ?_⟩
       clear HK7
       have hx7 := I7.out.h10
       obtain ⟨x0, x1, x2, lx⟩ := cl3 hx7
       have f0 := frozen_of_heap hx7 0
       have f1 := frozen_of_heap hx7 1
       have f2 := frozen_of_heap hx7 2
       clear hx7
       refine E_last 11 _ rfl (by kernel_rfl) ?_
       simp only [List.getElem_toArray, List.getElem_cons_succ, List.getElem_cons_zero]
       go_wp2_with fail
       refine E_done (by kernel_rfl) ?_ _
       have I8 := Lib.hid (I7.out.row HO7.out)
       clear I7 HO7 IK
       go_upto_region 17 with (fail)
       clear x0 x1 x2 lx f0 f1 f2
       generalize ((w7.setCell ⟨wA.heap.size, 0, none⟩ (.bool true)).setCell ⟨wA.heap.size, 1, none⟩ (.slice a3 R q3)).setCell ⟨wA.heap.size, 2, none⟩ (.slice a4 R q4) = w8' at *
       have H5q := Lib.hid ((I8.out.bl.block _ l5A).trans H5A.out)
       obtain ⟨p0, p1, p2, p3, p4, p5, lp⟩ := cl6 H5q.out
       have c0 := (Ext.below I8.out.bl) _ _ HC0.out
       have lc := World.block_lt_of_cell? _ _ c0
       obtain ⟨x0, x1, x2, lx⟩ := cl3 I8.out.h10
       obtain ⟨y0, y1, y2, y3, y4, ly⟩ := cl5 I8.out.h11
       obtain ⟨e0, e1, e2, e3, e4, e5, e6, e7, e8, e9, e10⟩ := HEX.out
       have lift : ∀ {a : Addr} {u : Value}, w.cell? a = some u → w8'.cell? a = some u := fun h => (Ext.below ((BB8.out.trans (WA.out.bl.mono BB8.out.size)).trans (I8.out.bl.mono (Nat.le_trans BB8.out.size WA.out.bl.size)))) _ _ h
       replace e0 := lift e0
       replace e1 := lift e1
       replace e2 := lift e2
       replace e3 := lift e3
       replace e4 := lift e4
       replace e5 := lift e5
       replace e6 := lift e6
       replace e7 := lift e7
       replace e8 := lift e8
       replace e9 := lift e9
       replace e10 := lift e10
       clear lift
       have lib : ib < w8'.heap.size := World.block_lt_of_cell? _ _ e0
       refine wp_region_game (fun z => z < wA.heap.size ∨ z = wA.heap.size ∨ z = wA.heap.size + 1) (by kernel_rfl) ?_
       show wpE _ _ _ _ _ _ _ w8'.drew
       refine E_mob2s [0, 1, 2, 3, 4, 5, 6, 7, 8, 9, 10, 11] _ _ _ _ (by kernel_rfl) ?_
       simp only [List.map_cons, List.map_nil, List.getElem?_toArray, List.getElem?_cons_succ, List.getElem?_cons_zero, Option.getD_some, List.size_toArray, List.length_cons, List.length_nil, Nat.reduceAdd, Nat.reduceSub]
       repeat (go_big_quiet_step (fail))
       refine wpQuiet_nil ?_
       clear x0 x1 x2 lx y0 y1 y2 y3 y4 ly e0 e1 e2 e3 e4 e5 e6 e7 e8 e9 e10 lib p0 p1 p2 p3 p4 p5 lp c0 lc H5q
       refine E_loud1 12 _ rfl (by kernel_rfl) ?_
       simp only [List.getElem_toArray, List.getElem_cons_succ, List.getElem_cons_zero]
       go_wp2_with fail
       refine (EKN.out w8'.drew _ (I8.out.rw.rdS.ext (Ext.below (Below.refl _ _).drew))).mono ?_
       rintro e w9 ⟨v9, rfl, ⟨va', rfl, hva'⟩, hb9⟩
       have I9 := Lib.hid ((I8.out.below (Below.refl _ _).drew).below hb9)
       have HK9 : Hid (Keep (fun z => z < wA.heap.size ∨ z = wA.heap.size ∨ z = wA.heap.size + 1) w8'.drew w9) := keep_below hb9 (fun z hz => by
        have h1 := I8.out.bl.size
        have h2 := (Array.getElem?_eq_some_iff.1 I8.out.h10).1
        have h3 := (Array.getElem?_eq_some_iff.1 I8.out.h11).1
        rcases hz with hz | rfl | rfl
        ·exact Nat.lt_of_lt_of_le hz h1
        ·exact h2
        ·exact h3)
       have HVA := Lib.hid hva'
       obtain ⟨aa', ac', rfl, -⟩ := hva'
       clear hb9 EKN I8
       generalize knwI T' I = Y at *
       go_wp2_with fail
       refine ⟨HK9.out, ?_⟩
       clear HK9
       refine E_loud1 13 _ rfl (by kernel_rfl) ?_
       simp only [List.getElem_toArray, List.getElem_cons_succ, List.getElem_cons_zero]
       go_wp2_with fail
       have IA := Lib.hid (I9.out.below (below_alloc w9 (.cells #[.int .i64 Y.op, .int .i64 Y.d, .int .i64 Y.a, .int .i64 Y.b, .int .i64 Y.fn, .int .i64 Y.obj, .int .i64 Y.off, .int .i64 Y.size, .int .u32 Y.num, .slice aa' Y.args.length ac', .bool Y.log] 48)))
       have HCX : Hid (∀ jj u, (inCells (Y, .slice aa' Y.args.length ac'))[jj]? = some u → (w9.alloc (.cells #[.int .i64 Y.op, .int .i64 Y.d, .int .i64 Y.a, .int .i64 Y.b, .int .i64 Y.fn, .int .i64 Y.obj, .int .i64 Y.off, .int .i64 Y.size, .int .u32 Y.num, .slice aa' Y.args.length ac', .bool Y.log] 48)).cell? ⟨w9.heap.size, jj, none⟩ = some u) := cell_newX w9 (inCells (Y, .slice aa' Y.args.length ac')) 48 _ rfl
       refine ⟨keep_below (below_alloc w9 (.cells #[.int .i64 Y.op, .int .i64 Y.d, .int .i64 Y.a, .int .i64 Y.b, .int .i64 Y.fn, .int .i64 Y.obj, .int .i64 Y.off, .int .i64 Y.size, .int .u32 Y.num, .slice aa' Y.args.length ac', .bool Y.log] 48)) (fun z hz => by
        have h1 := I9.out.bl.size
        have h2 := (Array.getElem?_eq_some_iff.1 I9.out.h10).1
        have h3 := (Array.getElem?_eq_some_iff.1 I9.out.h11).1
        rcases hz with hz | rfl | rfl
        ·exact Nat.lt_of_lt_of_le hz h1
        ·exact h2
        ·exact h3), ?_⟩
       generalize w9.alloc (.cells #[.int .i64 Y.op, .int .i64 Y.d, .int .i64 Y.a, .int .i64 Y.b, .int .i64 Y.fn, .int .i64 Y.obj, .int .i64 Y.off, .int .i64 Y.size, .int .u32 Y.num, .slice aa' Y.args.length ac', .bool Y.log] 48) = wC at *
       generalize w9.heap.size = gC at *
       clear I9
       have hLI : LI.length ≤ 1000 := by have := HLI.out; omega
       refine E_loud1 14 _ rfl (by kernel_rfl) ?_
       simp only [List.getElem_toArray, List.getElem_cons_succ, List.getElem_cons_zero]
       refine appG 41 48 info_in Tryz.underlying41 rfl (by decide) (by decide) (inCells (Y, .slice aa' Y.args.length ac')) rfl (fun u hu => by simp only [inCells, List.mem_cons, List.not_mem_nil, or_false] at hu; rcases hu with rfl | rfl | rfl | rfl | rfl | rfl | rfl | rfl | rfl | rfl | rfl <;> rfl) IA.out.own rfl rfl rfl rfl HCX.out (by omega) IA.out.bl.size ?_
       intro v10 w10 O10 G10 D10
       obtain ⟨a10, c10, rfl⟩ := row_form O10
       obtain ⟨J1, J2, J3, J4⟩ := IA.out.app HVA.out O10 G10
       refine ⟨fun bb oo hbb => grown_cell G10 (J4 bb hbb).1 (J4 bb hbb).2, ?_⟩
       have hy10 := J2.trans IA.out.h11
       have q0 := cell_of_heap hy10 0
       have qf := frozen_of_heap hy10 0
       have lq := (Array.getElem?_eq_some_iff.1 hy10).1
       have HJ1 := Lib.hid J1
       clear J1 J2 J3 J4 O10 G10 D10 hy10 IA HCX
       simp only [List.getElem?_toArray, List.getElem?_cons_zero] at q0
       simp only [Act.put, List.setIfInBounds_toArray, List.set_cons_succ, List.set_cons_zero]
       refine E_mob2s [15] _ _ _ _ (by kernel_rfl) ?_
       simp only [List.map_cons, List.map_nil, List.getElem?_toArray, List.getElem?_cons_succ, List.getElem?_cons_zero, Option.getD_some, List.size_toArray, List.length_cons, List.length_nil, Nat.reduceAdd, Nat.reduceSub]
       repeat (go_big_quiet_step (fail))
       refine wpQuiet_nil ?_
       refine E_last 16 _ rfl (by kernel_rfl) ?_
       simp only [List.getElem_toArray, List.getElem_cons_succ, List.getElem_cons_zero]
       go_wp2_with fail
       refine E_done (by kernel_rfl) ?_ _
       clear q0 qf lq
       go_wp2_with fail
       go_roundw
       case rel => exact ⟨j + 1, _, _, _, _, hlj, by go_num, by rw [HTT.out, HVV.out, HKT.out]; exact HJ1⟩
       case measure => simp [intOf]; omega
      ·obtain rfl : j = K.ins.length := by omega
       have g6 : decide (K.ins.length < K.ins.length) = false := decide_eq_false (Nat.lt_irrefl _)
       have g7 : decide ((K.ins.length : Int) < (K.ins.length : Int)) = false := decide_eq_false (by omega)
       have IE : Hid (InK w wA wA.heap.size (wA.heap.size + 1) (.slice a1 R q1) (.slice a2 R q2) (thrC F K.ins) (.slice avI LI.length cvI) LI (knwL F K.ins) K.fin K.a K.to K.els wq) := by
        have h := IK.out
        rw [List.take_length] at h
        rw [show (knwL F K.ins).take K.ins.length = knwL F K.ins by rw [← knwL_len K.ins F, List.take_length]] at h
        exact h
       have EE : Hid (∀ W, Below wq.heap.size wq W → Calls Tryz.prog 15 #[.agg #[.bool true, .slice a1 R q1, .slice a2 R q2], .agg #[.slice avI LI.length cvI, .int .i64 K.fin, .int .i64 K.a, .int .i64 K.to, .int .i64 K.els]] W fun e w' => e = .returned (.agg #[.slice avI LI.length cvI, .int .i64 (knwE (thrC F K.ins) ⟨[], K.fin, K.a, K.to, K.els⟩).fin, .int .i64 (knwE (thrC F K.ins) ⟨[], K.fin, K.a, K.to, K.els⟩).a, .int .i64 (knwE (thrC F K.ins) ⟨[], K.fin, K.a, K.to, K.els⟩).to, .int .i64 (knwE (thrC F K.ins) ⟨[], K.fin, K.a, K.to, K.els⟩).els]) ∧ Below W.heap.size W w') := fun W hW =>
        rended_c _ (thrC F K.ins) avI LI.length cvI K.fin K.a K.to K.els W (IE.out.rw.rdS.ext (Ext.below hW)) (by rw [thrC_len, HFL.out]; have := HR40.out; omega) (fun h2 => by rw [thrC_len, HFL.out]; have := HEK.out h2; rw [HRGR.out] at this; exact this)
       have HKN : Hid (knwB F K = ⟨knwL F K.ins, (knwE (thrC F K.ins) ⟨[], K.fin, K.a, K.to, K.els⟩).fin, (knwE (thrC F K.ins) ⟨[], K.fin, K.a, K.to, K.els⟩).a, (knwE (thrC F K.ins) ⟨[], K.fin, K.a, K.to, K.els⟩).to, (knwE (thrC F K.ins) ⟨[], K.fin, K.a, K.to, K.els⟩).els⟩) := knwE_ins _ _ _ _ _ _
       generalize knwE (thrC F K.ins) ⟨[], K.fin, K.a, K.to, K.els⟩ = N at *
       clear IK
       go_upto_region 18 with (fail)
       go_wp2_with fail
       refine (EE.out wq (Below.refl _ _)).mono ?_
       rintro e w7 ⟨rfl, hb7⟩
       have I7 := Lib.hid (IE.out.below hb7)
       have W7 := Lib.hid (WA.out.below I7.out.bl)
       have W8 := Lib.hid (W7.out.below (below_alloc w7 (.cells #[.slice avI LI.length cvI, .int .i64 N.fin, .int .i64 N.a, .int .i64 N.to, .int .i64 N.els] 43)))
       have HKR : Hid (KrI w (w7.alloc (.cells #[.slice avI LI.length cvI, .int .i64 N.fin, .int .i64 N.a, .int .i64 N.to, .int .i64 N.els] 43)) (knwB F K, .slice avI LI.length cvI)) := ⟨LI, by rw [HKN.out]; exact I7.out.is, I7.out.args, own_below (ow_base I7.out.own (Nat.zero_le _)) (below_alloc w7 (.cells #[.slice avI LI.length cvI, .int .i64 N.fin, .int .i64 N.a, .int .i64 N.to, .int .i64 N.els] 43))⟩
       have HCX : Hid (∀ jj u, ([.slice avI LI.length cvI, .int .i64 N.fin, .int .i64 N.a, .int .i64 N.to, .int .i64 N.els] : List Value)[jj]? = some u → (w7.alloc (.cells #[.slice avI LI.length cvI, .int .i64 N.fin, .int .i64 N.a, .int .i64 N.to, .int .i64 N.els] 43)).cell? ⟨w7.heap.size, jj, none⟩ = some u) := cell_newX w7 [.slice avI LI.length cvI, .int .i64 N.fin, .int .i64 N.a, .int .i64 N.to, .int .i64 N.els] 43 _ rfl
       have hll : L.length ≤ 1000 := by have := HLL.out; omega
       clear hb7 EE I7 W7 IE p0 p1 p2 p3 p4 p5 lp c0 lc x0 x1 x2 lx y0 y1 y2 y3 y4 ly H5q
       go_wp2_with (at_builtin; refine appG 30 43 info_bk Tryz.underlying30 rfl (by decide) (by decide) [.slice avI LI.length cvI, .int .i64 N.fin, .int .i64 N.a, .int .i64 N.to, .int .i64 N.els] rfl (fun u hu => by simp only [List.mem_cons, List.not_mem_nil, or_false] at hu; rcases hu with rfl | rfl | rfl | rfl | rfl <;> rfl) W8.out.own rfl rfl rfl rfl HCX.out (by omega) W8.out.bl.size ?_; intro v10 w10 O10 G10 D10)
       have O10' : World.ownsRow w10 w8.heap.size 43 5 v10 (L.length + 1) (L.flatMap bkCells ++ bkCells (knwB F K, .slice avI LI.length cvI)) := by rw [HKN.out]; exact O10
       have W9 := Lib.hid (W8.out.app HKR.out O10' G10)
       obtain ⟨a10, c10, rfl⟩ := ow_form O10
       clear O10 O10' G10 D10 W8 HKR HCX
       go_wp2_with fail
       go_roundw
       case rel => exact ⟨k + 1, _, hlt, by go_num, by rw [HKB.out]; exact W9⟩
       case measure => simp [intOf]; omega
    ·obtain rfl : k = P.blks.length := by omega
     have g4 : decide (P.blks.length < P.blks.length) = false := decide_eq_false (Nat.lt_irrefl _)
     have g5 : decide ((P.blks.length : Int) < (P.blks.length : Int)) = false := decide_eq_false (by omega)
     have HQA := Lib.hid (HQB8.out.ext (Ext.below WA.out.bl))
     have HWR : Hid (RdBks wA (.slice avW L.length cvW) (knwP P (atB R X)).blks) := by
      have h := WA.out
      rw [show (knwP P (atB R X)).blks.take P.blks.length = (knwP P (atB R X)).blks by rw [← HQL.out, List.take_length]] at h
      exact h.rd (Ext.below (BB8.out.trans (h.bl.mono BB8.out.size)))
     have HH := H5A.out
     have HOI := HAT.out
     have HKO : Hid (PrOk (knwP P (atB R X))) := knwP_ok HPOK.out fun n => (HAT.out n).2
     have HKS : Hid (SzT (knwP P (atB R X))) := knwP_sz HSZ.out
     have hbu : But b5 wA (wA.setCell ⟨b5, 5, none⟩ (.slice avW L.length cvW)) := But.setCell _ _ _ _
     have h5S : (wA.setCell ⟨b5, 5, none⟩ (.slice avW L.length cvW)).heap[b5]? = some (.cells #[.string tnm, .bool P.void, .int .i64 P.params, .int .i64 P.regs, .slice ao P.objs.length co, .slice avW L.length cvW] 32) := heap_setCell_same _ _ _ _ _ _ HH
     have hkk : ∀ b, b ≠ b5 → (wA.setCell ⟨b5, 5, none⟩ (.slice avW L.length cvW)).heap[b]? = wA.heap[b]? := fun b hb => heap_setCell_other _ ⟨b5, 5, none⟩ b _ (fun e => hb (by simpa using e))
     have HQS := Lib.hid (HQA.out.boxK HH h5S hkk)
     have HWS := Lib.hid (HWR.out.boxK HH h5S hkk)
     have H5S := Lib.hid h5S
     have l6 := (Array.getElem?_eq_some_iff.1 H6A.out).1
     have hn56 : b6 ≠ b5 := N56.out
     have H6S := Lib.hid ((hkk b6 hn56).trans H6A.out)
     have BBS : Hid (Below w.heap.size w (wA.setCell ⟨b5, 5, none⟩ (.slice avW L.length cvW))) := (BB8.out.trans (WA.out.bl.mono BB8.out.size)).trans (hbu.toBelow G5.out (Nat.le_trans BB8.out.size WA.out.bl.size))
     have fq := frozen_of_heap HH 5
     clear h5S hkk hbu HQA HWR HH HOI
     go_upto_region 20 with (fail)
     clear fq p0 p1 p2 p3 p4 p5 lp l6
     generalize wA.setCell ⟨b5, 5, none⟩ (.slice avW L.length cvW) = wS at *
     have HLN := Lib.hid HLL.out
     refine wp_region_junk (fun _ => True) (by kernel_rfl) ?_
     refine J_loud1 0 _ rfl (by kernel_rfl) ?_
     simp only [List.getElem_toArray, List.getElem_cons_succ, List.getElem_cons_zero]
     intro wj hj
     go_wp2_with fail
     refine (awake17_c wj).mono ?_
     rintro e w20 ⟨rfl, hb20⟩
     go_wp2_with fail
     refine ⟨KeepX.below hb20, ?_⟩
     have D20 := Lib.hid (hj.trans (hb20.mono hj.size))
     clear hj hb20
     have K5 := Lib.hid ((D20.out.block _ (Array.getElem?_eq_some_iff.1 H5S.out).1).trans H5S.out)
     have K6 := Lib.hid ((D20.out.block _ (Array.getElem?_eq_some_iff.1 H6S.out).1).trans H6S.out)
     obtain ⟨p0, p1, p2, p3, p4, p5, lp⟩ := cl6 K5.out
     obtain ⟨q0, q1, q2, q3, q4, q5, lq⟩ := cl6 K6.out
     refine J_mobs [1, 2, 4] _ _ _ _ (by kernel_rfl) ?_
     simp only [List.map_cons, List.map_nil, List.getElem?_toArray, List.getElem?_cons_succ, List.getElem?_cons_zero, Option.getD_some, List.size_toArray, List.length_cons, List.length_nil, Nat.reduceAdd, Nat.reduceSub]
     repeat (go_big_quiet_step (fail))
     refine wpQuiet_nil ?_
     clear p0 p1 p2 p3 p4 p5 lp q0 q1 q2 q3 q4 q5 lq
     refine J_loud1 3 _ rfl (by kernel_rfl) ?_
     simp only [List.getElem_toArray, List.getElem_cons_succ, List.getElem_cons_zero]
     intro wj hj
     have D21 := Lib.hid (D20.out.trans (hj.mono D20.out.size))
     clear hj
     go_wp2_with fail
     refine (HTX.out (knwP P (atB R X)) _ wj (BBS.out.trans (D21.out.mono BBS.out.size)) ⟨tnm, _, _, rfl, HVO.out.ext (Ext.below (BBS.out.trans (D21.out.mono BBS.out.size))), HQS.out.ext (Ext.below D21.out)⟩ HKO.out HKS.out).mono ?_
     rintro e w21 ⟨rfl, hb21⟩
     go_wp2_with fail
     refine ⟨KeepX.below hb21, ?_⟩
     have D22 := Lib.hid (D21.out.trans (hb21.mono D21.out.size))
     clear hb21
     refine J_loud1 5 _ rfl (by kernel_rfl) ?_
     simp only [List.getElem_toArray, List.getElem_cons_succ, List.getElem_cons_zero]
     intro wj hj
     have D23 := Lib.hid (D22.out.trans (hj.mono D22.out.size))
     clear hj
     go_wp2_with fail
     refine (HTX.out (knwP P (atB R X)) _ wj (BBS.out.trans (D23.out.mono BBS.out.size)) ⟨tnm, _, _, rfl, HVO.out.ext (Ext.below (BBS.out.trans (D23.out.mono BBS.out.size))), HWS.out.ext (Ext.below D23.out)⟩ HKO.out HKS.out).mono ?_
     rintro e w22 ⟨rfl, hb22⟩
     go_wp2_with fail
     refine ⟨KeepX.below hb22, ?_⟩
     have D24 := Lib.hid (D23.out.trans (hb22.mono D23.out.size))
     clear hb22
     have K5 := Lib.hid ((D24.out.block _ (Array.getElem?_eq_some_iff.1 H5S.out).1).trans H5S.out)
     have K6 := Lib.hid ((D24.out.block _ (Array.getElem?_eq_some_iff.1 H6S.out).1).trans H6S.out)
     obtain ⟨p0, p1, p2, p3, p4, p5, lp⟩ := cl6 K5.out
     obtain ⟨q0, q1, q2, q3, q4, q5, lq⟩ := cl6 K6.out
     refine J_mobs [6, 7, 8, 9, 10, 11, 12, 13, 14, 15, 16, 17, 18, 19, 20, 21, 22, 23, 24] _ _ _ _ (by kernel_rfl) ?_
     simp only [List.map_cons, List.map_nil, List.getElem?_toArray, List.getElem?_cons_succ, List.getElem?_cons_zero, Option.getD_some, List.size_toArray, List.length_cons, List.length_nil, Nat.reduceAdd, Nat.reduceSub]
     repeat (go_big_quiet_step (fail))
     refine wpQuiet_nil ?_
     refine J_done (by kernel_rfl) (fun wk hk => ?_) _
     have BF := Lib.hid ((BBS.out.trans (D24.out.mono BBS.out.size)).trans (hk.mono (Nat.le_trans BBS.out.size D24.out.size)))
     clear hk
     go_wp2_with fail
     go_ret
     exact ⟨rfl, BF.out⟩
end Go.Proofs.YtkhfddodmjnecaaGreatDoor
