/-
 inline.Inline: the walk.
-/
import Derived.Test.YtchoiankeohonaaGreatDoorZInlineAll44
import Derived.Test.YtchoiankeohonaaGreatDoorZInlineAll07
set_option linter.all false
namespace Go.Proofs.YtchoiankeohonaaGreatDoor
open Go.ChangeShapes Go.WideShapes Go.ChangeAt Go.RowKit
set_option maxHeartbeats 16000000
set_option maxRecDepth 100000
set_option linter.unusedVariables false
attribute [local go_sem] Oper.semAt_some

theorem blocks_c (bb : Nat) (w : World) :
  Calls Tryz.prog 20 #[.pointer (some ⟨bb, 0, none⟩)] w fun e w' => e = .returned (.func (.func 35) #[] #[.pointer (some ⟨w.heap.size, 0, none⟩)]) ∧ w' = w.alloc (.cells #[.pointer (some ⟨bb, 0, none⟩)] 60) := by
 go_enter Tryz.func20, Tryz.ntmps20
 go_wp2_with fail
 go_ret
 exact ⟨rfl, rfl⟩
/-- the procedure behind so many rounds -/
def qsN (m : Md) (P : Pr) : Nat → Pr × Bool
 | 0 => (P, false)
 | k + 1 => stepQ m k (qsN m P k).1 (qsN m P k).2
/-- .. and where it ends -/
theorem qsN_end {m : Md} {P : Pr} (h : ∀ k, (qsN m P k).1.blks.length ≤ 2500) : ∀ k, k ≤ 6000 → (∀ j, j < k → j < (qsN m P j).1.blks.length) → (qsN m P k).1.blks.length ≤ k → (qsN m P k).1 = inlP m P := by
 have key : ∀ k, k ≤ 6000 → (∀ j, j < k → j < (qsN m P j).1.blks.length) → inlR m (6000 - k) k (qsN m P k).1 (qsN m P k).2 = inlP m P := by
  intro k
  induction k with
  | zero => intro _ _; rfl
  | succ k ih =>
   intro hk hj
   have e := ih (by omega) (fun j hjk => hj j (by omega))
   rw [show 6000 - k = (6000 - (k + 1)) + 1 by omega, inlR_step (hj k (by omega))] at e
   exact e
 intro k hk hj hl
 rw [← key k hk hj, inlR_end hl]
theorem qsN_inv {m : Md} {P : Pr} (hok : okM m = true) (hmd : MdOk m) (h : InlI m P P) : ∀ k, InlI m P (qsN m P k).1
 | 0 => h
 | k + 1 => by
  have ih := qsN_inv hok hmd h k
  show InlI m P (stepQ m k _ _).1
  by_cases hl : k < (qsN m P k).1.blks.length
  ·exact ih.step hok hmd hl _
  ·have e0 : callAt m (bq (qsN m P k).1 k) = none := by
    have : bq (qsN m P k).1 k = default := by unfold bq; simp [List.getD, Nat.le_of_not_lt hl]
    rw [this]; rfl
   unfold stepQ
   rw [e0]
   exact ih
theorem il_keptL {w w' : World} {B n s b : Nat} {e : TypeId} {v : Value} {xs : List Value} {r : Loop} (h : w.ownsRow B e s v n xs) (hk : But b w w') (hb : w.heap[b]? = some (.loop r)) : w'.ownsRow B e s v n xs := by
 refine World.ownsRow.kept h ⟨hk.os, hk.tape, hk.output, hk.size, fun k hk' hne => hk.block k hk' (fun e => hne (by rw [e]))⟩ (.inr fun e => ?_)
 obtain ⟨-, ⟨rfl, -⟩ | ⟨g, cap, cur, rfl, h3, h4, -⟩⟩ := h
 ·cases e
 ·simp only [Value.ownBlock, Option.some.injEq] at e
  subst e
  rw [h4] at hb
  cases hb
theorem BkS.butL {w0 w w' : World} {v : Value} {bs : List Bk} {b : Nat} {r : Loop} (h : BkS w0 w v bs) (hb : But b w w') (hc : w.heap[b]? = some (.loop r)) : BkS w0 w' v bs := by
 rcases h with h | ⟨L, h1, h2, h3⟩
 ·exact .inl h
 ·refine .inr ⟨L, h1, il_keptL h2 hb hc, fun x hx => ?_⟩
  rcases h3 x hx with h | ⟨LI, h4, h5, h6⟩
  ·exact .inl h
  ·exact .inr ⟨LI, h4, h5, il_keptL h6 hb hc⟩
theorem il_keptD {w w' : World} {B n s b : Nat} {e : TypeId} {v : Value} {xs : List Value} {r : Option (List Deferred)} (h : w.ownsRow B e s v n xs) (hk : But b w w') (hb : w.heap[b]? = some (.deferred r)) : w'.ownsRow B e s v n xs := by
 refine World.ownsRow.kept h ⟨hk.os, hk.tape, hk.output, hk.size, fun k hk' hne => hk.block k hk' (fun e => hne (by rw [e]))⟩ (.inr fun e => ?_)
 obtain ⟨-, ⟨rfl, -⟩ | ⟨g, cap, cur, rfl, h3, h4, -⟩⟩ := h
 ·cases e
 ·simp only [Value.ownBlock, Option.some.injEq] at e
  subst e
  rw [h4] at hb
  cases hb
theorem BkS.butD {w0 w w' : World} {v : Value} {bs : List Bk} {b : Nat} {r : Option (List Deferred)} (h : BkS w0 w v bs) (hb : But b w w') (hc : w.heap[b]? = some (.deferred r)) : BkS w0 w' v bs := by
 rcases h with h | ⟨L, h1, h2, h3⟩
 ·exact .inl h
 ·refine .inr ⟨L, h1, il_keptD h2 hb hc, fun x hx => ?_⟩
  rcases h3 x hx with h | ⟨LI, h4, h5, h6⟩
  ·exact .inl h
  ·exact .inr ⟨LI, h4, h5, il_keptD h6 hb hc⟩
/-- while the blocks are gone through -/
structure InlS (wb w0 : World) (m : Md) (P : Pr) (bb b5 pc b1 : Nat) (vg vd vp vo : Value) (nm : ByteArray) (k : Nat) (W : World) : Prop where
 bd : ∃ vb, BdW wb m bb W (qsN m P k).1 (qsN m P k).2 vg vd vp vo nm vb
 h5 : W.heap[b5]? = some (.cells #[.pointer (some ⟨bb, 0, none⟩)] 60)
 hp : W.heap[pc]? = some (.cells #[.pointer (some ⟨bb, 0, none⟩)] 60)
 hr : W.heap[b1]? = some (.cells #[.string { data := #[] }, .bool false, .int .i64 0, .int .i64 0, .slice none 0 0, .slice none 0 0] 35)
 hj : ∀ j, j < k → j < (qsN m P j).1.blks.length
 ww : wb.heap.size ≤ w0.heap.size
 lb : w0.heap.size ≤ bb
 be : Below w0.heap.size w0 W
theorem but_putObj (W : World) (l : Nat) (o : Obj) : But l W (W.putObj l o) := ⟨rfl, rfl, rfl, by simp, fun k _ hne => World.putObj_heap_other hne⟩
section
variable {wb w0 W W' : World} {m : Md} {P : Pr} {bb b5 pc b1 : Nat} {vg vd vp vo : Value} {nm : ByteArray} {k : Nat}
theorem InlS.loop (h : InlS wb w0 m P bb b5 pc b1 vg vd vp vo nm k W) {l : Nat} {r r0 : Loop} (hl : W.heap[l]? = some (.loop r0)) (hw : w0.heap.size ≤ l) : InlS wb w0 m P bb b5 pc b1 vg vd vp vo nm k (W.putObj l (.loop r)) := by
 have hb := but_putObj W l (.loop r)
 have key : ∀ {b : Nat} {cs : Array Value} {ty : TypeId}, W.heap[b]? = some (.cells cs ty) → (W.putObj l (.loop r)).heap[b]? = some (.cells cs ty) := fun {b cs ty} hc => by
  refine (hb.block b (Array.getElem?_eq_some_iff.1 hc).1 (fun e => ?_)).trans hc
  rw [e, hl] at hc
  cases hc
 obtain ⟨vb, hd⟩ := h.bd
 exact ⟨⟨vb, key hd.bx, hd.md, hd.ob, hd.bk.butL hb hl, hd.le, hd.be.trans (hb.toBelow (Nat.le_trans h.ww hw) hd.be.size)⟩, key h.h5, key h.hp, key h.hr, h.hj, h.ww, h.lb, h.be.trans (hb.toBelow hw h.be.size)⟩
theorem InlS.below (h : InlS wb w0 m P bb b5 pc b1 vg vd vp vo nm k W) (hb : Below W.heap.size W W') : InlS wb w0 m P bb b5 pc b1 vg vd vp vo nm k W' := by
 obtain ⟨vb, hd⟩ := h.bd
 have key : ∀ {b : Nat} {cs : Array Value} {ty : TypeId}, W.heap[b]? = some (.cells cs ty) → W'.heap[b]? = some (.cells cs ty) := fun {b cs ty} hc => (hb.block b (Array.getElem?_eq_some_iff.1 hc).1).trans hc
 exact ⟨⟨vb, hd.below hb⟩, key h.h5, key h.hp, key h.hr, h.hj, h.ww, h.lb, h.be.trans (hb.mono h.be.size)⟩
end
theorem InlS.next {wb w0 W : World} {m : Md} {P : Pr} {bb b5 pc b1 : Nat} {vg vd vp vo : Value} {nm : ByteArray} {k : Nat} (h : InlS wb w0 m P bb b5 pc b1 vg vd vp vo nm k W) (hk : k < (qsN m P k).1.blks.length) (he : qsN m P (k + 1) = qsN m P k) : InlS wb w0 m P bb b5 pc b1 vg vd vp vo nm (k + 1) W :=
 ⟨by rw [he]; exact h.bd, h.h5, h.hp, h.hr, fun j hj => by
   by_cases e : j = k
   ·subst e; exact hk
   ·exact h.hj j (by omega), h.ww, h.lb, h.be⟩
theorem InlS.gb {wb w0 W : World} {m : Md} {P : Pr} {bb b5 pc b1 : Nat} {vg vd vp vo : Value} {nm : ByteArray} {k : Nat} (h : InlS wb w0 m P bb b5 pc b1 vg vd vp vo nm k W) (hl : (qsN m P k).1.blks.length ≤ 3000) : GB bb pc W := by
 obtain ⟨vb, hd⟩ := h.bd
 obtain ⟨a, c, rfl, -⟩ := hd.bk.rd hd.ext
 exact ⟨cell_of_heap h.hp 0, a, _, c, cell_of_heap hd.bx 9, hl⟩
theorem InlS.turn {wb w0 W W' : World} {m : Md} {P : Pr} {bb b5 pc b1 : Nat} {vg vd vp vo vb : Value} {nm : ByteArray} {k : Nat} (h : InlS wb w0 m P bb b5 pc b1 vg vd vp vo nm k W) (hk : k < (qsN m P k).1.blks.length) (hb : But bb W W') (h1 : b5 ≠ bb) (h2 : pc ≠ bb) (h3 : b1 ≠ bb) (hd : BdW wb m bb W' (qsN m P (k + 1)).1 (qsN m P (k + 1)).2 vg vd vp vo nm vb) : InlS wb w0 m P bb b5 pc b1 vg vd vp vo nm (k + 1) W' := by
 have key : ∀ {b : Nat} {cs : Array Value} {ty : TypeId}, b ≠ bb → W.heap[b]? = some (.cells cs ty) → W'.heap[b]? = some (.cells cs ty) := fun {b cs ty} hne hc => (hb.block b (Array.getElem?_eq_some_iff.1 hc).1 hne).trans hc
 exact ⟨⟨vb, hd⟩, key h1 h.h5, key h2 h.hp, key h3 h.hr, fun j hj => by
  by_cases e : j = k
  ·subst e; exact hk
  ·exact h.hj j (by omega), h.ww, h.lb, h.be.trans (hb.toBelow h.lb h.be.size)⟩
theorem two_allocs (W : World) (A B : Obj) : (((W.alloc A).alloc B).drew).heap[W.heap.size]? = some A ∧ (((W.alloc A).alloc B).drew).heap[W.heap.size + 1]? = some B ∧ Below W.heap.size W (((W.alloc A).alloc B).drew) := by
 have h1 := allocs_heap [A, B] W 0 (by simp)
 have h2 := allocs_heap [A, B] W 1 (by simp)
 have h3 := allocs_below [A, B] W
 exact ⟨h1, h2, h3.drew⟩
def bdO (m : Md) (vg vd vp vo vb : Value) (nm : ByteArray) (P : Pr) : Obj := .cells #[vg, vd, vp, .int .i64 m.main, .string nm, .bool P.void, .int .i64 P.params, .int .i64 P.regs, vo, vb, .bool false] 62
def InlQ (m : Md) (P : Pr) (w : World) (e : Ending) (w' : World) : Prop := ∃ v', e = .returned v' ∧ PrV w' v' (inlP m P) ∧ Below w.heap.size w w'
def InlB (m : Md) (P : Pr) (wb w : World) (e : Ending) (w' : World) : Prop := ∃ (nm : ByteArray) (vo vb : Value), e = .returned (.agg #[.string nm, .bool (inlP m P).void, .int .i64 (inlP m P).params, .int .i64 (inlP m P).regs, vo, vb]) ∧ RdSls wb vo (inlP m P).objs ∧ BkS wb w' vb (inlP m P).blks ∧ Below w.heap.size w w'
theorem inline_b (m : Md) (v : Value) (n : Nat) (wb w : World) (hn : n < m.procs.length) (hbw : Below wb.heap.size wb w) (hv : MdV wb v m) (hok : okM m = true) (hmd : MdOk m) (hs : SzM m) (h0 : InlI m (pk m n) (pk m n)) :
  Calls Tryz.prog 9 #[v, .int .i64 (n : Int)] w (InlB m (pk m n) wb w) := by
 have HV := Lib.hid hv
 have HIN := Lib.hid (qsN_inv hok hmd h0)
 have HOK := Lib.hid hok
 have HMD := Lib.hid hmd
 have HSM := Lib.hid hs
 clear hok hmd hs h0
 obtain ⟨vg, vd, vp, rfl, hvg, hvd, hvp⟩ := hv
 obtain ⟨ag, cg, rfl, -⟩ := hvg
 obtain ⟨ad, cd, rfl, -⟩ := hvd
 have hvp' := hvp
 obtain ⟨ap, cp, rfl, hp1, hp2, -⟩ := hvp'
 unfold maxLen at hp2
 obtain ⟨bp, op, nm, vo, vb, hap, ho', hb', t0, t1, t2, t3, t4, t5⟩ := (RdPrs.at6 hvp).2 n hn
 subst hap
 have hpk : m.procs.getD n default = pk m n := rfl
 rw [hpk] at t1 t2 t3 ho' hb'
 clear hpk hvp
 have HVO := Lib.hid ho'
 have HVB := Lib.hid hb'
 obtain ⟨ao, co, rfl, -⟩ := ho'
 obtain ⟨ab, cb, rfl, -⟩ := hb'
 have HBW := Lib.hid hbw
 have hEw := Ext.below hbw
 replace t0 := hEw _ _ t0
 replace t1 := hEw _ _ t1
 replace t2 := hEw _ _ t2
 replace t3 := hEw _ _ t3
 replace t4 := hEw _ _ t4
 replace t5 := hEw _ _ t5
 clear hEw hbw
 have lbp : bp < w.heap.size := World.block_lt_of_cell? w _ t0
 generalize hP : pk m n = P at *
 clear hP
 obtain ⟨W0, hW0⟩ : ∃ W0, W0 = (w.alloc (.cells #[.slice ag m.globs.length cg, .slice ad m.data.length cd, .slice (some ⟨bp, op, none⟩) m.procs.length cp, .int .i64 m.main] 26)).alloc (.cells #[.string { data := #[] }, .bool false, .int .i64 0, .int .i64 0, .slice none 0 0, .slice none 0 0] 35) := ⟨_, rfl⟩
 have hW0' : W0 = allocs w [.cells #[.slice ag m.globs.length cg, .slice ad m.data.length cd, .slice (some ⟨bp, op, none⟩) m.procs.length cp, .int .i64 m.main] 26, .cells #[.string { data := #[] }, .bool false, .int .i64 0, .int .i64 0, .slice none 0 0, .slice none 0 0] 35] := hW0
 have B0 : Hid (Below w.heap.size w W0) := by rw [hW0']; exact allocs_below _ _
 have HM0 : Hid (W0.heap[w.heap.size]? = some (.cells #[.slice ag m.globs.length cg, .slice ad m.data.length cd, .slice (some ⟨bp, op, none⟩) m.procs.length cp, .int .i64 m.main] 26 (0, 0))) := by rw [hW0']; exact allocs_heap _ w 0 (by simp)
 have HR0 : Hid (W0.heap[w.heap.size + 1]? = some (.cells #[.string { data := #[] }, .bool false, .int .i64 0, .int .i64 0, .slice none 0 0, .slice none 0 0] 35 (0, 0))) := by rw [hW0']; exact allocs_heap _ w 1 (by simp)
 have hz0 : W0.heap.size = w.heap.size + 2 := by rw [hW0']; exact allocs_size _ _
 have HW0 := Lib.hid hW0
 clear hW0 hW0'
 have q1 : decide ((n : Int) < 0) = false := decide_eq_false (by omega)
 have q2 : decide ((m.procs.length : Int) ≤ (n : Int)) = false := decide_eq_false (by omega)
 have q3 : decide ((n : Int) < (m.procs.length : Int)) = true := decide_eq_true (by omega)
 have q4 : decide (n < m.procs.length) = true := decide_eq_true hn
 refine callsIn_wide.1 (callsIn_of_wp_marks (n := 6) Tryz.func9 rfl trivial ?_ rfl)
 simp only [Tryz.ntmps9, List.size_toArray, List.length_cons, List.length_nil, Nat.reduceAdd, Nat.reduceSub, Array.replicate_succ, Array.replicate_zero, List.push_toArray, List.append_toArray, List.nil_append, List.cons_append]
 refine wpIn_wide.2 ?_
 go_wp2_with fail
 rw [← HW0.out]
 clear HW0
 have hE : Ext w W0 := Ext.below B0.out
 replace t0 := hE _ _ t0
 replace t1 := hE _ _ t1
 replace t2 := hE _ _ t2
 replace t3 := hE _ _ t3
 replace t4 := hE _ _ t4
 replace t5 := hE _ _ t5
 obtain ⟨m0, m1, m2, m3, l0⟩ := cl4 HM0.out
 have lb0 : bp < W0.heap.size := by omega
 clear hE
 go_cut [5] from 18 to 26 (fun v wx => ∃ bb b5, v = .pointer (some ⟨b5, 0, none⟩) ∧ Hid (wx.heap[bb]? = some (bdO m (.slice ag m.globs.length cg) (.slice ad m.data.length cd) (.slice (some ⟨bp, op, none⟩) m.procs.length cp) (.slice ao P.objs.length co) (.slice ab P.blks.length cb) nm P)) ∧ Hid (wx.heap[b5]? = some (.cells #[.pointer (some ⟨bb, 0, none⟩)] 60)) ∧ Hid (Below W0.heap.size W0 wx) ∧ W0.heap.size ≤ bb ∧ W0.heap.size ≤ b5 ∧ bb ≠ b5)
 case first =>
  refine wp_region_late [0, 1, 2, 3, 4, 5, 6] (fun z => z = w.heap.size ∨ z = bp) (by kernel_rfl) ?_
  show wpH _ _ _ _ _ _ _ _ W0.drew
  refine H_mobs [0, 1, 2, 3, 4, 5, 6] _ _ _ _ (by kernel_rfl) ?_
  simp only [List.map_cons, List.map_nil, List.getElem?_toArray, List.getElem?_cons_succ, List.getElem?_cons_zero, Option.getD_some, List.size_toArray, List.length_cons, List.length_nil, Nat.reduceAdd, Nat.reduceSub]
  repeat (go_big_quiet_step (fail))
  refine wpQuiet_nil ?_
  clear t0 t1 t2 t3 t4 t5 m0 m1 m2 m3
  refine H_loud2 7 8 _ _ rfl rfl (by kernel_rfl) ?_ ?_
  all_goals simp only [List.getElem_toArray, List.getElem_cons_succ, List.getElem_cons_zero]
  ·go_wp2_with fail
   refine ⟨keep_below (w := W0.drew) (below_alloc _ _) (fun z hz => by show z < W0.heap.size; omega), ?_⟩
   refine H_loud1 8 _ rfl (by kernel_rfl) ?_
   simp only [List.getElem_toArray, List.getElem_cons_succ, List.getElem_cons_zero]
   go_wp2_with fail
   refine ⟨keep_below (below_alloc _ _) (fun z hz => by simp; omega), ?_⟩
   refine H_late 9 _ rfl (by kernel_rfl) ?_
   simp only [List.getElem_toArray, List.getElem_cons_succ, List.getElem_cons_zero]
   go_wp2_with fail
   refine H_done (by kernel_rfl) ?_ _
   go_wp2_with fail
   go_meet
   case rel =>
    obtain ⟨h1, h2, h3⟩ := two_allocs W0 (.cells #[.slice ag m.globs.length cg, .slice ad m.data.length cd, .slice (some ⟨bp, op, none⟩) m.procs.length cp, .int .i64 m.main, .string nm, .bool P.void, .int .i64 P.params, .int .i64 P.regs, .slice ao P.objs.length co, .slice ab P.blks.length cb, .bool false] 62) (.cells #[.pointer (some ⟨w.heap.size + 2, 0, none⟩)] 60)
    rw [hz0] at h1 h2
    exact ⟨w.heap.size + 2, w.heap.size + 2 + 1, rfl, h1, h2, h3, by omega, by omega, by omega⟩
  ·go_wp2_with fail
   refine ⟨keep_below (w := W0.drew) (below_alloc _ _) (fun z hz => by show z < W0.heap.size; omega), ?_⟩
   refine H_loud1 7 _ rfl (by kernel_rfl) ?_
   simp only [List.getElem_toArray, List.getElem_cons_succ, List.getElem_cons_zero]
   go_wp2_with fail
   refine ⟨keep_below (below_alloc _ _) (fun z hz => by simp; omega), ?_⟩
   refine H_late 9 _ rfl (by kernel_rfl) ?_
   simp only [List.getElem_toArray, List.getElem_cons_succ, List.getElem_cons_zero]
   go_wp2_with fail
   refine H_done (by kernel_rfl) ?_ _
   go_wp2_with fail
   go_meet
   case rel =>
    obtain ⟨h1, h2, h3⟩ := two_allocs W0 (.cells #[.pointer (some ⟨w.heap.size + 2 + 1, 0, none⟩)] 60) (.cells #[.slice ag m.globs.length cg, .slice ad m.data.length cd, .slice (some ⟨bp, op, none⟩) m.procs.length cp, .int .i64 m.main, .string nm, .bool P.void, .int .i64 P.params, .int .i64 P.regs, .slice ao P.objs.length co, .slice ab P.blks.length cb, .bool false] 62)
    rw [hz0] at h1 h2
    exact ⟨w.heap.size + 2 + 1, w.heap.size + 2, rfl, h2, h1, h3, by omega, by omega, by omega⟩
 case rest =>
  obtain ⟨bb, b5, rfl, HBB, HB5, B5, hle1, hle2, hne⟩ := hcut
  generalize wc = W5 at *
  have HM5 := Lib.hid ((B5.out.block _ (by omega)).trans HM0.out)
  have HR5 := Lib.hid ((B5.out.block _ (by omega)).trans HR0.out)
  have BB := Lib.hid (B0.out.trans (B5.out.mono B0.out.size))
  clear t0 t1 t2 t3 t4 t5 m0 m1 m2 m3 l0 lb0 HM0 HR0 q1 q2 q3 q4
  have h5p : W5.cell? ⟨b5, 0, none⟩ = some (.pointer (some ⟨bb, 0, none⟩)) := cell_of_heap HB5.out 0
  have l5 : b5 < W5.heap.size := (Array.getElem?_eq_some_iff.1 HB5.out).1
  have lbb : bb < W5.heap.size := (Array.getElem?_eq_some_iff.1 HBB.out).1
  go_wp2_with fail
  refine (blocks_c bb W5).mono ?_
  rintro e w6 ⟨rfl, hw6⟩
  have B6 : Hid (Below W5.heap.size W5 w6) := by rw [hw6]; exact below_alloc W5 _
  have HP6 : Hid (w6.heap[W5.heap.size]? = some (.cells #[.pointer (some ⟨bb, 0, none⟩)] 60)) := by rw [hw6]; exact heap_alloc_new W5 _
  have hz6 : w6.heap.size = W5.heap.size + 1 := by rw [hw6]; simp
  clear hw6
  go_wp2_with fail
  have I6 : Hid (InlS wb w m P bb b5 W5.heap.size (w.heap.size + 1) (.slice ag m.globs.length cg) (.slice ad m.data.length cd) (.slice (some ⟨bp, op, none⟩) m.procs.length cp) (.slice ao P.objs.length co) nm 0 w6) :=
   ⟨⟨_, (B6.out.block _ lbb).trans HBB.out, HV.out, HVO.out, .inl HVB.out, by have := HBW.out.size; omega, HBW.out.trans ((BB.out.trans (B6.out.mono BB.out.size)).mono HBW.out.size)⟩, (B6.out.block _ l5).trans HB5.out, HP6.out, (B6.out.block _ (Array.getElem?_eq_some_iff.1 HR5.out).1).trans HR5.out, fun j hj => absurd hj (Nat.not_lt_zero j), HBW.out.size, by omega, BB.out.trans (B6.out.mono BB.out.size)⟩
  have hzw : w.heap.size ≤ w6.heap.size := by have := BB.out.size; omega
  refine (wpIn_wide (n := 6)).1 ?_
  refine wp_rangeOverW (n := 6) (α := Nat) (gf := 35) rfl (enters_of Tryz.func35 (by kernel_rfl) rfl) (fun x => #[.int .i64 (x : Int)]) (fun _ => rfl) (fun _ A B => A = B) (fun _ A B => GB bb W5.heap.size A → GB bb W5.heap.size B) (PrB bb) (SdB bb)
   (fun xs W o h => ?sd) (fun s A B h b _ _ => by rw [h]) (fun _ _ _ _ h k g => k (h g)) (fun pre x W o h A g => ?kb) (fun pre x W o h => ?pr)
   (fun r J Jx hJ hY h0 => ?it)
   (fun pre W => InlS wb w m P bb b5 W5.heap.size (w.heap.size + 1) (.slice ag m.globs.length cg) (.slice ad m.data.length cd) (.slice (some ⟨bp, op, none⟩) m.procs.length cp) (.slice ao P.objs.length co) nm pre.length W) (fun _ _ _ => False) (fun s W r r0 hl h => h.loop hl (by omega)) (fun _ _ _ _ _ _ h => h) (fun s A B h e => e ▸ h)
   (fun r => I6.out.below (loopW_below w6 r)) ?a1 ?assign ?body ?done (fun _ _ _ h => h.elim)
  case sd =>
   obtain ⟨a, m', c, h1, h2⟩ := h
   exact ⟨a, m', c, (World.cell?_of_block (World.putObj_heap_other (by show bb ≠ _; omega))).trans h1, h2⟩
  case kb =>
   obtain ⟨h1, a, m', c, h2, h3⟩ := g
   exact ⟨(World.cell?_of_block (World.putObj_heap_other (by show W5.heap.size ≠ _; omega))).trans h1, a, m', c, (World.cell?_of_block (World.putObj_heap_other (by show bb ≠ _; omega))).trans h2, h3⟩
  case pr =>
   obtain ⟨h0, a, m', c, h1, h2⟩ := h
   exact ⟨h0, a, m', c, (World.cell?_of_block (World.putObj_heap_other (by show bb ≠ _; omega))).trans h1, h2⟩
  case it =>
   have hlw := loopW_below w6 r
   have hl1 : P.blks.length ≤ 3000 := by have := (HIN.out 0).sz; unfold sizeQ at this; show (qsN m P 0).1.blks.length ≤ 3000; omega
   have hG : GB bb W5.heap.size (loopW w6 r) := ⟨cell_of_heap ((hlw.block _ (by omega)).trans HP6.out) 0, _, _, _, cell_of_heap ((hlw.block _ (by omega)).trans ((B6.out.block _ lbb).trans HBB.out)) 9, hl1⟩
   exact blocks1_c bb W5.heap.size 5 (w6.heap.size + 1) (loopW w6 r) hG J Jx (fun pre x W hj hp => hY pre x W hj hp) h0
  case assign =>
   intro l x W K hK
   dsimp only
   gi_wp2
   exact hK
  case body =>
   intro l pre x W hl hi hpr
   obtain ⟨r, hl⟩ := hl
   obtain ⟨hx, a, m', c, h9, hxm, hm'⟩ := hpr
   obtain ⟨vb, hd⟩ := hi.bd
   have hvb : vb = .slice a m' c := Option.some.inj ((cell_of_heap hd.bx 9).symm.trans h9)
   have hrd := hd.bk.rd hd.ext
   subst hvb
   have hmm : m' = (qsN m P pre.length).1.blks.length := by
    obtain ⟨a', c', e, -⟩ := hrd
    simp only [Value.slice.injEq] at e
    exact e.2.1
   subst hmm
   rw [← hx] at hi hd hxm hm'
   have HIk := HIN.out x
   have HST : Hid (qsN m P (x + 1) = stepQ m x (qsN m P x).1 (qsN m P x).2) := rfl
   have HX := Lib.hid hx
   have ho : ∀ i ∈ (bq (qsN m P x).1 x).ins, i.op = 9 → 0 ≤ i.obj ∧ i.obj < (m.procs.length : Int) := fun i hi' h9 => by
    have h := okI_call (okB_all (okP_blk HIk.ok hxm) i hi') h9
    exact ⟨h.1, h.2.1⟩
   have hins : (bq (qsN m P x).1 x).ins.length ≤ 1000000 := by
    have := insN_mem (show bq (qsN m P x).1 x ∈ (qsN m P x).1.blks from getD_in hxm)
    have h2 := HIk.sz
    unfold sizeQ at h2
    omega
   have HC := Lib.hid (bcall_c m wb bb x _ _ _ _ _ _ _ _ W hd HSM.out hxm hins ho)
   have HI0 := Lib.hid hi
   have HSZ := Lib.hid HIk.sz
   have HOKQ := Lib.hid HIk.ok
   have p5 := cell_of_heap hi.h5 0
   have l5 := World.block_lt_of_cell? W _ p5
   have lll : w6.heap.size + 1 < W.heap.size := (Array.getElem?_eq_some_iff.1 hl).1
   have HXM := Lib.hid hxm
   have p10 := cell_of_heap hd.bx 10
   simp only [List.getElem?_toArray, List.getElem?_cons_zero, List.getElem?_cons_succ] at p5 p10
   clear hx hi hd hrd h9 ho hins hl hxm hm' hzw I6 HIk p10
   gi_wp2
   refine (callsIn_wide.2 HC.out).mono ?_
   rintro e w7 ⟨rfl, hb7⟩
   have HB7 := Lib.hid hb7
   have HI7 := Lib.hid (HI0.out.below hb7)
   obtain ⟨vb7, hd7⟩ := HI7.out.bd
   have HD7 := Lib.hid hd7
   have p5 := cell_of_heap HI7.out.h5 0
   have p10 := cell_of_heap hd7.bx 10
   simp only [List.getElem?_toArray, List.getElem?_cons_zero, List.getElem?_cons_succ] at p5 p10
   have l5 := World.block_lt_of_cell? w7 _ p5
   have lb7 := World.block_lt_of_cell? w7 _ p10
   have hz7 := hb7.size
   clear hb7 hd7 HC
   have hlen : (pre ++ [x]).length = x + 1 := by rw [List.length_append, List.length_singleton, ← HX.out]
   cases hca : callAt m (bq (qsN m P x).1 x) with
   | none =>
    have HN : Hid (qsN m P (x + 1) = qsN m P x) := by show _ = _; rw [HST.out]; unfold stepQ; rw [hca]
    clear hca
    have g1 : atI none = -1 := rfl
    rw [g1]
    clear g1
    gi_wp2
    refine ⟨⟨HB7.out.block _ (by omega), HB7.out.block _ (by omega)⟩, fun _ => HI7.out.gb (by have := HSZ.out; unfold sizeQ at this; omega), ?_⟩
    show InlS wb w m P bb b5 W5.heap.size (w.heap.size + 1) _ _ _ _ nm (pre ++ [x]).length w7
    rw [hlen]
    exact HI7.out.next HXM.out HN.out
   | some at' =>
    have g1 : atI (some at') = (at' : Int) := rfl
    rw [g1]
    clear g1
    have g2 : decide (0 ≤ (at' : Int)) = true := decide_eq_true (by omega)
    cases hfull : (qsN m P x).2
    ·have HP := Lib.hid (put_facts HOK.out HMD.out HOKQ.out HXM.out hca)
     have HN : Hid (qsN m P (x + 1) = if 2000 < sizeQ (putP m (qsN m P x).1 x at') ∨ 8000 < (putP m (qsN m P x).1 x at').regs then ((qsN m P x).1, true) else (putP m (qsN m P x).1 x at', false)) := by
      show _ = _
      rw [HST.out]; unfold stepQ; rw [hca, hfull]; rfl
     have HD8 := HD7.out
     rw [hfull] at HD8 p10
     have HPUT := Lib.hid (put_c m wb bb x at' _ _ _ _ _ _ _ w7 HD8 HP.out HSZ.out HOKQ.out)
     clear hca hfull HD8 HD7
     gi_wp2
     refine (callsIn_wide.2 HPUT.out).mono ?_
     rintro e w8 ⟨vb8, rfl, hb8, h8⟩
     have HB8 := Lib.hid hb8
     have HI8 : Hid (InlS wb w m P bb b5 W5.heap.size (w.heap.size + 1) (.slice ag m.globs.length cg) (.slice ad m.data.length cd) (.slice (some ⟨bp, op, none⟩) m.procs.length cp) (.slice ao P.objs.length co) nm (x + 1) w8) := by
      refine HI7.out.turn HXM.out hb8 (Ne.symm hne) (by omega) (by omega) ?_ (vb := vb8)
      rw [HN.out]
      split at h8
      ·rename_i hbig; rw [if_pos hbig]; exact h8
      ·rename_i hbig; rw [if_neg hbig]; exact h8
     clear h8 hb8 HPUT p5 p10
     gi_wp2
     refine ⟨⟨(HB8.out.block _ (by omega) (by omega)).trans (HB7.out.block _ (by omega)), (HB8.out.block _ (by omega) (by omega)).trans (HB7.out.block _ (by omega))⟩, fun _ => HI8.out.gb (by have := (HIN.out (x + 1)).sz; unfold sizeQ at this; omega), ?_⟩
     show InlS wb w m P bb b5 W5.heap.size (w.heap.size + 1) _ _ _ _ nm (pre ++ [x]).length w8
     rw [hlen]
     exact HI8.out
    ·have HN : Hid (qsN m P (x + 1) = qsN m P x) := by
      show _ = _
      rw [HST.out]; unfold stepQ; rw [hca, hfull]
      exact Prod.ext rfl hfull.symm
     rw [hfull] at p10
     clear hca hfull
     gi_wp2
     refine ⟨⟨HB7.out.block _ (by omega), HB7.out.block _ (by omega)⟩, fun _ => HI7.out.gb (by have := HSZ.out; unfold sizeQ at this; omega), ?_⟩
     show InlS wb w m P bb b5 W5.heap.size (w.heap.size + 1) _ _ _ _ nm (pre ++ [x]).length w7
     rw [hlen]
     exact HI7.out.next HXM.out HN.out
  case done =>
   intro xs W hS hi hK
   obtain ⟨a, m', c, h9, hle⟩ := hS
   obtain ⟨vb, hd⟩ := hi.bd
   have hvb : vb = .slice a m' c := Option.some.inj ((cell_of_heap hd.bx 9).symm.trans h9)
   subst hvb
   have hmm : m' = (qsN m P xs.length).1.blks.length := by
    obtain ⟨a', c', e, -⟩ := hd.bk.rd hd.ext
    simp only [Value.slice.injEq] at e
    exact e.2.1
   subst hmm
   have hbl : ∀ k, (qsN m P k).1.blks.length ≤ 2500 := fun k => by have := (HIN.out k).sz; unfold sizeQ at this; omega
   have hk6 : xs.length ≤ 6000 := by
    by_cases h0 : xs.length = 0
    ·omega
    ·have := hi.hj (xs.length - 1) (by omega)
     have := hbl (xs.length - 1)
     omega
   have HEQ : Hid ((qsN m P xs.length).1 = inlP m P) := qsN_end hbl xs.length hk6 hi.hj hle
   have HBK := Lib.hid hd.bk
   have HOB := Lib.hid hd.ob
   have HBE := Lib.hid hi.be
   have HBEb := Lib.hid hd.be
   have HRB := Lib.hid hi.hr
   have HK := Lib.hid hK
   obtain ⟨-, -, -, -, y4, y5, y6, y7, y8, y9, -, lb⟩ := cl11 hd.bx
   have p5 := cell_of_heap hi.h5 0
   simp only [List.getElem?_toArray, List.getElem?_cons_zero, List.getElem?_cons_succ] at p5
   have l5 := World.block_lt_of_cell? W _ p5
   obtain ⟨r0, r1, r2, r3, r4, r5, lr⟩ := cl6 hi.hr
   have fr := fun o => frozen_of_heap hi.hr o
   have fr0 := fr 0
   have fr1 := fr 1
   have fr2 := fr 2
   have fr3 := fr 3
   have fr4 := fr 4
   have fr5 := fr 5
   rw [HEQ.out] at HBK y5 y6 y7 y9
   have hob : (qsN m P xs.length).1.objs = P.objs := (HIN.out xs.length).mt.objs
   have HOB : Hid (RdSls wb (.slice ao P.objs.length co) (inlP m P).objs) := by rw [← HEQ.out]; exact HOB.out
   clear fr hi hd hbl hk6 HEQ h9 hle hK hob HIN HVB HVO
   generalize hQe : inlP m P = Q at *
   have HQE := Lib.hid hQe
   clear hQe
   have hne1 : bb ≠ w.heap.size + 1 := by omega
   go_wp2_with fail
   have HB1 : But (w.heap.size + 1) W ((((((W.setCell ⟨w.heap.size + 1, 0, none⟩ (.string nm)).setCell ⟨w.heap.size + 1, 1, none⟩ (.bool Q.void)).setCell ⟨w.heap.size + 1, 2, none⟩ (.int .i64 Q.params)).setCell ⟨w.heap.size + 1, 3, none⟩ (.int .i64 Q.regs)).setCell ⟨w.heap.size + 1, 4, none⟩ (.slice ao P.objs.length co)).setCell ⟨w.heap.size + 1, 5, none⟩ (.slice a Q.blks.length c)) :=
    (((((But.setCell _ _ _ _).trans (But.setCell _ _ _ _)).trans (But.setCell _ _ _ _)).trans (But.setCell _ _ _ _)).trans (But.setCell _ _ _ _)).trans (But.setCell _ _ _ _)
   have HF1 : ((((((W.setCell ⟨w.heap.size + 1, 0, none⟩ (.string nm)).setCell ⟨w.heap.size + 1, 1, none⟩ (.bool Q.void)).setCell ⟨w.heap.size + 1, 2, none⟩ (.int .i64 Q.params)).setCell ⟨w.heap.size + 1, 3, none⟩ (.int .i64 Q.regs)).setCell ⟨w.heap.size + 1, 4, none⟩ (.slice ao P.objs.length co)).setCell ⟨w.heap.size + 1, 5, none⟩ (.slice a Q.blks.length c)).heap[w.heap.size + 1]? = some (.cells #[.string nm, .bool Q.void, .int .i64 Q.params, .int .i64 Q.regs, .slice ao P.objs.length co, .slice a Q.blks.length c] 35 (0, 0)) := by
    have h1 := heap_setCell_same W (w.heap.size + 1) 0 _ _ (.string nm) HRB.out
    have h2 := heap_setCell_same _ (w.heap.size + 1) 1 _ _ (.bool Q.void) h1
    have h3 := heap_setCell_same _ (w.heap.size + 1) 2 _ _ (.int .i64 Q.params) h2
    have h4 := heap_setCell_same _ (w.heap.size + 1) 3 _ _ (.int .i64 Q.regs) h3
    have h5 := heap_setCell_same _ (w.heap.size + 1) 4 _ _ (.slice ao P.objs.length co) h4
    exact heap_setCell_same _ (w.heap.size + 1) 5 _ _ (.slice a Q.blks.length c) h5
   clear y4 y5 y6 y7 y8 y9 lb p5 l5 r0 r1 r2 r3 r4 r5 lr fr0 fr1 fr2 fr3 fr4 fr5
   generalize (((((W.setCell ⟨w.heap.size + 1, 0, none⟩ (.string nm)).setCell ⟨w.heap.size + 1, 1, none⟩ (.bool Q.void)).setCell ⟨w.heap.size + 1, 2, none⟩ (.int .i64 Q.params)).setCell ⟨w.heap.size + 1, 3, none⟩ (.int .i64 Q.regs)).setCell ⟨w.heap.size + 1, 4, none⟩ (.slice ao P.objs.length co)).setCell ⟨w.heap.size + 1, 5, none⟩ (.slice a Q.blks.length c) = WF at *
   have hsw : w.heap.size + 2 ≤ w6.heap.size := by have := BB.out.size; omega
   have HKF : WF.heap[w6.heap.size]? = some (.deferred (some [])) := (HB1.block _ (Array.getElem?_eq_some_iff.1 HK.out).1 (by omega)).trans HK.out
   have hfz : (WF.putObj w6.heap.size (.deferred none)).heap[w.heap.size + 1]? = some (.cells #[.string nm, .bool Q.void, .int .i64 Q.params, .int .i64 Q.regs, .slice ao P.objs.length co, .slice a Q.blks.length c] 35 (0, 0)) := (World.putObj_heap_other (by omega)).trans HF1
   obtain ⟨s0, s1, s2, s3, s4, s5, -⟩ := cl6 hfz
   have HBD := but_putObj WF w6.heap.size (.deferred none)
   have hbkF : BkS wb (WF.putObj w6.heap.size (.deferred none)) (.slice a Q.blks.length c) Q.blks := (HBK.out.but HB1 HRB.out (by decide) (by decide)).butD HBD HKF
   have hbeF : Below w.heap.size w (WF.putObj w6.heap.size (.deferred none)) := (HBE.out.trans (HB1.toBelow (by omega) HBE.out.size)).trans (HBD.toBelow (by omega) (Nat.le_trans HBE.out.size HB1.size))
   have HBKF := Lib.hid hbkF
   have HBEF := Lib.hid hbeF
   clear hbkF hbeF HBD hfz HB1 HF1
   rw [show W5.heap.size + 1 = w6.heap.size by omega]
   refine leavesM_one rfl HKF (v := .agg #[.string nm, .bool Q.void, .int .i64 Q.params, .int .i64 Q.regs, .slice ao P.objs.length co, .slice a Q.blks.length c]) (by simp [results, Tryz.results9, go_sem, s0, s1, s2, s3, s4, s5]) ?_
   refine ⟨nm, _, _, by rw [HQE.out], by rw [HQE.out]; exact HOB.out, by rw [HQE.out]; exact HBKF.out, HBEF.out⟩
theorem inline_c (m : Md) (v : Value) (n : Nat) (w : World) (hn : n < m.procs.length) (hv : MdV w v m) (hok : okM m = true) (hmd : MdOk m) (hs : SzM m) (h0 : InlI m (pk m n) (pk m n)) :
  Calls Tryz.prog 9 #[v, .int .i64 (n : Int)] w (InlQ m (pk m n) w) := by
 refine (inline_b m v n w w hn (Below.refl _ _) hv hok hmd hs h0).mono ?_
 rintro e w' ⟨nm, vo, vb, rfl, h1, h2, h3⟩
 exact ⟨_, rfl, ⟨nm, vo, vb, rfl, h1.ext (Ext.below h3), h2.rd (Ext.below h3)⟩, h3⟩
end Go.Proofs.YtchoiankeohonaaGreatDoor
