/-
 inline: what a row of blocks keeps while the builder turns; the builder in memory; shift, copied, the place of the first call.
-/
import Derived.Test.YtchoiankeohonaaGreatDoorZInlineAll33
import Derived.Test.YtchoiankeohonaaGreatDoorZInlineAll34
import Derived.Test.YtchoiankeohonaaGreatDoorZInlineAll07
import Derived.Test.YtchoiankeohonaaGreatDoorZInlineAll01
import Derived.Test.YtchoiankeohonaaGreatDoorZInlineAll26
set_option linter.all false
namespace Go.Proofs.YtchoiankeohonaaGreatDoor
open Go.ChangeShapes Go.WideShapes Go.ChangeAt Go.RowKit
set_option maxHeartbeats 4000000
set_option maxRecDepth 100000
set_option linter.unusedVariables false

theorem il_not {w : World} {B n s b : Nat} {e ty : TypeId} {v : Value} {xs : List Value} {cs : Array Value} (h : w.ownsRow B e s v n xs) (hb : w.heap[b]? = some (.cells cs ty)) (hne : e ≠ ty) : v.ownBlock ≠ some b := by
 obtain ⟨-, ⟨rfl, -⟩ | ⟨g, cap, cur, rfl, h3, h4, -⟩⟩ := h
 ·simp [Value.ownBlock]
 ·intro e
  simp only [Value.ownBlock, Option.some.injEq] at e
  subst e
  rw [h4] at hb
  injection hb with hb
  injection hb with _ hb
  exact hne hb
theorem il_kept {w w' : World} {B n s b : Nat} {e ty : TypeId} {v : Value} {xs : List Value} {cs : Array Value} (h : w.ownsRow B e s v n xs) (hk : But b w w') (hb : w.heap[b]? = some (.cells cs ty)) (hne : e ≠ ty) : w'.ownsRow B e s v n xs :=
 World.ownsRow.kept h ⟨hk.os, hk.tape, hk.output, hk.size, fun k hk' hne => hk.block k hk' (fun e => hne (by rw [e]))⟩ (.inr (il_not h hb hne))
theorem il_drew {B : Nat} {w w1 : World} (h : Below B w w1) (n : Nat) : Below B w (w1.drewN n) := ⟨h.os, h.tape, h.output, h.size, h.block⟩
theorem il_set {w : World} {B s n : Nat} {e : TypeId} {v : Value} {xs : List Value} (h : w.ownsRow B e s v n xs) {b : Nat} (hb : b < B) (j : Nat) (x : Value) : (w.setCell ⟨b, j, none⟩ x).ownsRow B e s v n xs :=
 World.ownsRow.kept h ⟨rfl, rfl, rfl, by simp, fun k hk hne => heap_setCell_other w ⟨b, j, none⟩ k x (fun e => hne (by rw [show k = b from e]))⟩ (.inr fun e => by have := (own_lt h e).1; omega)
/-- a block's instructions: as they were, or a row of one's own -/
def KrS (w0 w : World) (x : Bk × Value) : Prop := RdIns w0 x.2 x.1.ins ∨ ∃ LI : List (In × Value), LI.map Prod.fst = x.1.ins ∧ (∀ y ∈ LI, RdI w0 y.2 y.1.args) ∧ w.ownsRow 0 48 11 x.2 LI.length (LI.flatMap inCells)
section
variable {w0 w w' : World} {x : Bk × Value} {b : Nat} {cs : Array Value} {ty : TypeId} {v : Value} {bs : List Bk}
theorem KrS.rd (h : KrS w0 w x) (he : Ext w0 w) : RdIns w x.2 x.1.ins := by
 rcases h with h | ⟨LI, h1, h2, h3⟩
 ·exact h.ext he
 ·rw [← h1]
  exact OwnIn.rd (B := 0) ⟨h3, fun y hy => (h2 y hy).ext he⟩
theorem KrS.but (h : KrS w0 w x) (hb : But b w w') (hc : w.heap[b]? = some (.cells cs ty)) (ht : 48 ≠ ty) : KrS w0 w' x := by
 rcases h with h | ⟨LI, h1, h2, h3⟩
 ·exact .inl h
 ·exact .inr ⟨LI, h1, h2, il_kept h3 hb hc ht⟩
theorem KrS.below (h : KrS w0 w x) (hb : Below w.heap.size w w') : KrS w0 w' x := by
 rcases h with h | ⟨LI, h1, h2, h3⟩
 ·exact .inl h
 ·exact .inr ⟨LI, h1, h2, own_below h3 hb⟩
def BkS (w0 w : World) (v : Value) (bs : List Bk) : Prop := RdBks w0 v bs ∨ ∃ L : List (Bk × Value), L.map Prod.fst = bs ∧ w.ownsRow 0 51 5 v L.length (L.flatMap bkCells) ∧ ∀ x ∈ L, KrS w0 w x
theorem BkS.rd (h : BkS w0 w v bs) (he : Ext w0 w) : RdBks w v bs := by
 rcases h with h | ⟨L, rfl, h2, h3⟩
 ·exact h.ext he
 ·exact OwnBk.rd (B := 0) ⟨h2, fun x hx => (h3 x hx).rd he⟩
theorem BkS.but (h : BkS w0 w v bs) (hb : But b w w') (hc : w.heap[b]? = some (.cells cs ty)) (ht : 48 ≠ ty) (ht2 : 51 ≠ ty) : BkS w0 w' v bs := by
 rcases h with h | ⟨L, h1, h2, h3⟩
 ·exact .inl h
 ·exact .inr ⟨L, h1, il_kept h2 hb hc ht2, fun x hx => (h3 x hx).but hb hc ht⟩
theorem BkS.below (h : BkS w0 w v bs) (hb : Below w.heap.size w w') : BkS w0 w' v bs := by
 rcases h with h | ⟨L, h1, h2, h3⟩
 ·exact .inl h
 ·exact .inr ⟨L, h1, own_below h2 hb, fun x hx => (h3 x hx).below hb⟩
theorem BkS.src (h : BkS w0 w v bs) (he : Ext w0 w) : ∃ L : List (Bk × Value), L.map Prod.fst = bs ∧ (∀ x ∈ L, KrS w0 w x) ∧ Src w v L.length (L.flatMap bkCells) := by
 rcases h with h | ⟨L, h1, h2, h3⟩
 ·obtain ⟨L, rfl, h2, h3⟩ := h.src
  rw [List.length_map] at h3
  exact ⟨L, rfl, fun x hx => .inl (h2 x hx), h3.keep he⟩
 ·exact ⟨L, h1, h3, src_own h2⟩
end
/-- the builder -/
structure BdW (w0 : World) (m : Md) (bb : Nat) (w : World) (Q : Pr) (full : Bool) (vg vd vp vo : Value) (nm : ByteArray) (vb : Value) : Prop where
 bx : w.heap[bb]? = some (.cells #[vg, vd, vp, .int .i64 m.main, .string nm, .bool Q.void, .int .i64 Q.params, .int .i64 Q.regs, vo, vb, .bool full] 62)
 md : MdV w0 (.agg #[vg, vd, vp, .int .i64 m.main]) m
 ob : RdSls w0 vo Q.objs
 bk : BkS w0 w vb Q.blks
 le : w0.heap.size ≤ bb
 be : Below w0.heap.size w0 w
section
variable {w0 w w' : World} {m : Md} {bb : Nat} {Q : Pr} {full : Bool} {vg vd vp vo vb : Value} {nm : ByteArray}
theorem BdW.below (h : BdW w0 m bb w Q full vg vd vp vo nm vb) (hb : Below w.heap.size w w') : BdW w0 m bb w' Q full vg vd vp vo nm vb :=
 ⟨(hb.block _ (Array.getElem?_eq_some_iff.1 h.bx).1).trans h.bx, h.md, h.ob, h.bk.below hb, h.le, h.be.trans (hb.mono h.be.size)⟩
theorem BdW.ext (h : BdW w0 m bb w Q full vg vd vp vo nm vb) : Ext w0 w := Ext.below h.be
theorem BdW.lt (h : BdW w0 m bb w Q full vg vd vp vo nm vb) : bb < w.heap.size := (Array.getElem?_eq_some_iff.1 h.bx).1
theorem BdW.prv (h : BdW w0 m bb w Q full vg vd vp vo nm vb) : PrV w (.agg #[.string nm, .bool Q.void, .int .i64 Q.params, .int .i64 Q.regs, vo, vb]) Q := ⟨nm, vo, vb, rfl, h.ob.ext h.ext, h.bk.rd h.ext⟩
end
theorem shift_c (r g : Int) (w : World) (h0 : -1 ≤ r) (h1 : r ≤ 100000) (h2 : 0 ≤ g) (h3 : g ≤ 100000) :
  Calls Tryz.prog 55 #[.int .i64 r, .int .i64 g] w fun e w' => e = .returned (.int .i64 (shF r g)) ∧ w' = w := by
 by_cases h : r = -1
 ·have g1 : (r == -1) = true := beq_iff_eq.2 h
  have HS : Hid (shF r g = r) := by show _ = _; unfold shF; rw [if_pos h]
  clear h
  go_enter Tryz.func55, Tryz.ntmps55
  go_wp2_with fail
  go_ret
  exact ⟨ret_i HS.out.symm, rfl⟩
 ·have g1 : (r == -1) = false := beq_eq_false_iff_ne.2 h
  have HS : Hid (shF r g = r + g) := by show _ = _; unfold shF; rw [if_neg h]
  clear h
  go_enter Tryz.func55, Tryz.ntmps55
  go_wp2_with fail
  go_ret
  exact ⟨ret_i HS.out.symm, rfl⟩
theorem copied_c (d a : Int) (w : World) :
  Calls Tryz.prog 53 #[.int .i64 d, .int .i64 a] w fun e w' => e = .returned (aggI (copI d a) (.slice none 0 0)) ∧ Below w.heap.size w w' := by
 go_enter Tryz.func53, Tryz.ntmps53
 go_wp2_with fail
 refine bodyPost_ret (v := .agg #[.int .i64 2, .int .i64 d, .int .i64 a, .int .i64 (-1), .int .i64 0, .int .i64 0, .int .i64 0, .int .i64 0, .int .u32 0, .slice none 0 0, .bool false]) (by simp [results, Tryz.results53, go_sem]) rfl ?_
 exact ⟨rfl, below_alloc _ _⟩
/-- is it a call of a small procedure? -/
theorem call1_c (m : Md) (i : In) (va : Value) (bb pc : Nat) (vp : Value) (w : World) (hs : SzM m) (hpc : w.cell? ⟨pc, 0, none⟩ = some (.pointer (some ⟨bb, 0, none⟩))) (hvp : w.cell? ⟨bb, 2, none⟩ = some vp) (hp : RdPrs w vp m.procs) (ho : i.op = 9 → 0 ≤ i.obj ∧ i.obj < (m.procs.length : Int)) :
  Calls Tryz.prog 37 #[aggI i va, .pointer (some ⟨pc, 0, none⟩)] w fun e w' => e = .returned (.bool (smallC m i)) ∧ Below w.heap.size w w' := by
 unfold aggI
 obtain ⟨W0, hW0⟩ : ∃ W0, W0 = w.alloc (.cells #[.int .i64 i.op, .int .i64 i.d, .int .i64 i.a, .int .i64 i.b, .int .i64 i.fn, .int .i64 i.obj, .int .i64 i.off, .int .i64 i.size, .int .u32 i.num, va, .bool i.log] 48) := ⟨_, rfl⟩
 have B0 : Hid (Below w.heap.size w W0) := by rw [hW0]; exact below_alloc w _
 have H0 := Lib.hid (heap_of_alloc w _ _ hW0)
 have HW0 := Lib.hid hW0
 clear hW0
 have hE : Ext w W0 := Ext.below B0.out
 have d1 := hE _ _ hpc
 have d2 := hE _ _ hvp
 have lpc : pc < W0.heap.size := World.block_lt_of_cell? W0 _ d1
 have lbb : bb < W0.heap.size := World.block_lt_of_cell? W0 _ d2
 obtain ⟨x0, x1, x2, x3, x4, x5, x6, x7, x8, x9, x10, l0⟩ := cl11 H0.out
 by_cases h9 : i.op = 9
 ·have g9 : (i.op == 9) = true := beq_iff_eq.2 h9
  obtain ⟨o1, o2⟩ := ho h9
  have HX : Hid (smallC m i = smallP (pk m i.obj.toNat)) := by show _ = _; unfold smallC; rw [g9]; rfl
  clear h9
  have hp' := hp
  obtain ⟨ap, cp, rfl, hp1, hp2, -⟩ := hp'
  obtain ⟨bp, op, tnm, tvo, tvb, hap, hto, htb, t0, t1, t2, t3, t4, t5⟩ := (RdPrs.at6 hp).2 i.obj.toNat (by omega)
  subst hap
  have gk : ((i.obj.toNat : Nat) : Int) = i.obj := Int.toNat_of_nonneg o1
  have hlt : i.obj.toNat < m.procs.length := by omega
  have HPV : Hid (PrV w (.agg #[.string tnm, .bool (pk m i.obj.toNat).void, .int .i64 (pk m i.obj.toNat).params, .int .i64 (pk m i.obj.toNat).regs, tvo, tvb]) (pk m i.obj.toNat)) := ⟨tnm, tvo, tvb, rfl, hto, htb⟩
  have HSP : Hid (SzP (pk m i.obj.toNat)) := hs.procs _ (by unfold pk; exact getD_in hlt)
  have epk : m.procs.getD i.obj.toNat default = pk m i.obj.toNat := rfl
  rw [epk] at t1 t2 t3 hto htb
  clear epk
  generalize pk m i.obj.toNat = P at *
  replace t0 := hE _ _ t0
  replace t1 := hE _ _ t1
  replace t2 := hE _ _ t2
  replace t3 := hE _ _ t3
  replace t4 := hE _ _ t4
  replace t5 := hE _ _ t5
  obtain ⟨ao, co, rfl, -⟩ := hto
  obtain ⟨ab, cb, rfl, -⟩ := htb
  generalize i.obj.toNat = k at *
  rw [← gk] at x5 o1 o2
  clear gk
  have q1 : decide ((k : Int) < (m.procs.length : Int)) = true := decide_eq_true (by omega)
  have q2 : decide (k < m.procs.length) = true := decide_eq_true hlt
  unfold maxLen at hp2
  have lbp : bp < W0.heap.size := World.block_lt_of_cell? W0 _ t0
  clear hE hp ho hs hpc hvp
  go_enter Tryz.func37, Tryz.ntmps37
  go_wp2_with fail
  rw [← HW0.out]
  refine wp_region_junk (fun _ => True) (by kernel_rfl) ?_
  refine J_mobs [0, 1, 2, 3, 4, 5, 6, 7, 8, 9, 10, 11, 12] _ _ _ _ (by kernel_rfl) ?_
  simp only [List.map_cons, List.map_nil, List.getElem?_toArray, List.getElem?_cons_succ, List.getElem?_cons_zero, Option.getD_some, List.size_toArray, List.length_cons, List.length_nil, Nat.reduceAdd, Nat.reduceSub]
  repeat (go_big_quiet_step (fail))
  refine wpQuiet_nil ?_
  clear t0 t1 t2 t3 t4 t5 x0 x1 x2 x3 x4 x5 x6 x7 x8 x9 x10 d1 d2
  refine J_loud1 13 _ rfl (by kernel_rfl) ?_
  simp only [List.getElem_toArray, List.getElem_cons_succ, List.getElem_cons_zero]
  intro wj hj
  go_wp2_with fail
  refine (small_c P _ wj (HPV.out.ext (Ext.below (B0.out.trans (hj.mono B0.out.size)))) HSP.out).mono ?_
  rintro e w2 ⟨rfl, hb2⟩
  go_wp2_with fail
  refine ⟨KeepX.below hb2, ?_⟩
  have BB := Lib.hid (B0.out.trans ((hj.trans (hb2.mono hj.size)).mono B0.out.size))
  clear hj hb2
  refine J_mobs [14, 15] _ _ _ _ (by kernel_rfl) ?_
  simp only [List.map_cons, List.map_nil, List.getElem?_toArray, List.getElem?_cons_succ, List.getElem?_cons_zero, Option.getD_some, List.size_toArray, List.length_cons, List.length_nil, Nat.reduceAdd, Nat.reduceSub]
  repeat (go_big_quiet_step (fail))
  refine wpQuiet_nil ?_
  refine J_done (by kernel_rfl) (fun wm hm => ?_) _
  have BB := Lib.hid (BB.out.trans (hm.mono BB.out.size))
  go_wp2_with fail
  go_ret
  exact ⟨ret_b HX.out.symm, BB.out⟩
 ·have g9 : (i.op == 9) = false := beq_eq_false_iff_ne.2 h9
  have HX : Hid (smallC m i = false) := by show _ = _; unfold smallC; rw [g9]; rfl
  clear h9 ho hp
  go_enter Tryz.func37, Tryz.ntmps37
  go_wp2_with fail
  rw [← HW0.out]
  go_quiet (fail)
  go_wp2_with fail
  go_ret
  exact ⟨ret_b HX.out.symm, il_drew B0.out _⟩
theorem idx2_c (m : Md) (l : List In) (v : Value) (bb pc : Nat) (vp : Value) (w : World) (hs : SzM m) (hpc : w.cell? ⟨pc, 0, none⟩ = some (.pointer (some ⟨bb, 0, none⟩))) (hvp : w.cell? ⟨bb, 2, none⟩ = some vp) (hp : RdPrs w vp m.procs) (ho : ∀ i ∈ l, i.op = 9 → 0 ≤ i.obj ∧ i.obj < (m.procs.length : Int)) (hv : RdIns w v l) (hn : l.length ≤ 1000000) :
  Calls Tryz.prog 36 #[v, .func (.func 37) #[] #[.pointer (some ⟨pc, 0, none⟩)]] w fun e w' =>
   ((e = .returned (.int .i64 (-1)) ∧ ∀ j : Nat, j < l.length → smallC m (l.getD j default) = false) ∨ ∃ k : Nat, e = .returned (.int .i64 (k : Int)) ∧ k < l.length ∧ smallC m (l.getD k default) = true ∧ ∀ j : Nat, j < k → smallC m (l.getD j default) = false) ∧ Below w.heap.size w w' := by
 have hv' := hv
 obtain ⟨a, c, rfl, h1, h2, -⟩ := hv'
 have HC := Lib.hid (RdIns.at hv).2
 have HT : Hid (∀ (y : In) (va : Value) (w' : World), y ∈ l → Ext w w' → Calls Tryz.prog 37 #[aggI y va, .pointer (some ⟨pc, 0, none⟩)] w' fun e w'' => e = .returned (.bool (smallC m y)) ∧ Below w'.heap.size w' w'') := fun y va w' hy he => call1_c m y va bb pc vp w' hs (he _ _ hpc) (he _ _ hvp) (hp.ext he) (ho y hy)
 unfold aggI at HT
 clear hv hs hpc hvp hp ho
 unfold maxLen at h2
 go_enter Tryz.func36, Tryz.ntmps36
 go_wp2_with fail
 go_loopw [8] (fun i wr => ∃ k : Nat, k ≤ l.length ∧ i = .int .i64 (k : Int) ∧ Hid (Below w.heap.size w wr) ∧ Hid (∀ j : Nat, j < k → smallC m (l.getD j default) = false)) (fun i _ => l.length - (intOf i).toNat)
 case atStart => exact ⟨0, Nat.zero_le _, rfl, Below.refl _ _, fun j hj => absurd hj (Nat.not_lt_zero j)⟩
 case round =>
  obtain ⟨k, hk, rfl, hB, hN⟩ := hrel
  by_cases hlt : k < l.length
  ·obtain ⟨b, o, va, rfl, -, -, d0, d1, d2, d3, d4, d5, d6, d7, d8, d9, d10⟩ := HC.out k hlt
   have hE : Ext w wr := Ext.below hB.out
   replace d0 := hE _ _ d0
   replace d1 := hE _ _ d1
   replace d2 := hE _ _ d2
   replace d3 := hE _ _ d3
   replace d4 := hE _ _ d4
   replace d5 := hE _ _ d5
   replace d6 := hE _ _ d6
   replace d7 := hE _ _ d7
   replace d8 := hE _ _ d8
   replace d9 := hE _ _ d9
   replace d10 := hE _ _ d10
   have HE := Lib.hid hE
   clear hE
   have HTk := Lib.hid (fun w' (he : Ext w w') => HT.out (l.getD k default) va w' (getD_in hlt) he)
   have HAT : Hid (smallC m (l.getD k default) = smallC m (l.getD k default)) := rfl
   generalize hy : l.getD k default = y at d0 d1 d2 d3 d4 d5 d6 d7 d8 d9 d10 HTk
   have HY := Lib.hid hy
   clear hy
   cases hh : smallC m y
   ·rw [hh] at HTk
    have HNX : Hid (∀ j : Nat, j < k + 1 → smallC m (l.getD j default) = false) := fun j hj => by
     by_cases e : j = k
     ·subst e; rw [HY.out]; exact hh
     ·exact hN.out j (by omega)
    clear hh
    go_wp2_with (go_at_call 37; refine (HTk.out _ HE.out).mono ?_; rintro e w3 ⟨rfl, hb3⟩; have hB := Lib.hid (hB.out.trans (hb3.mono hB.out.size)); clear hb3)
    go_roundw
    case rel => exact ⟨k + 1, by omega, by go_num, hB, HNX⟩
    case measure => simp [intOf]; omega
   ·rw [hh] at HTk
    have HH : Hid (smallC m (l.getD k default) = true) := by show _ = _; rw [HY.out]; exact hh
    clear hh
    go_wp2_with (go_at_call 37; refine (HTk.out _ HE.out).mono ?_; rintro e w3 ⟨rfl, hb3⟩; have hB := Lib.hid (hB.out.trans (hb3.mono hB.out.size)); clear hb3)
    go_ret
    exact ⟨.inr ⟨k, rfl, hlt, HH.out, hN.out⟩, hB.out⟩
  ·obtain rfl : k = l.length := by omega
   go_wp2_with fail
   go_ret
   exact ⟨.inl ⟨rfl, hN.out⟩, hB.out⟩
theorem callAt_none {m : Md} {b : Bk} (h : ∀ j : Nat, j < b.ins.length → smallC m (b.ins.getD j default) = false) : callAt m b = none := by
 unfold callAt
 rw [List.findIdx?_eq_none_iff]
 intro x hx
 obtain ⟨j, hj, rfl⟩ := List.getElem_of_mem hx
 have := h j hj
 simpa [List.getD, hj] using this
theorem callAt_at {m : Md} {b : Bk} {k : Nat} (hk : k < b.ins.length) (h : smallC m (b.ins.getD k default) = true) (hn : ∀ j : Nat, j < k → smallC m (b.ins.getD j default) = false) : callAt m b = some k := by
 unfold callAt
 rw [List.findIdx?_eq_some_iff_getElem]
 refine ⟨hk, by simpa [List.getD, hk] using h, fun j hj => ?_⟩
 have := hn j hj
 have hj' : j < b.ins.length := by omega
 simpa [List.getD, hj'] using this
def atI (o : Option Nat) : Int := match o with | none => -1 | some k => (k : Int)
theorem bcall_c (m : Md) (w0 : World) (bb n : Nat) (Q : Pr) (full : Bool) (vg vd vp vo : Value) (nm : ByteArray) (vb : Value) (w : World) (h : BdW w0 m bb w Q full vg vd vp vo nm vb) (hs : SzM m) (hn : n < Q.blks.length) (hl : (bq Q n).ins.length ≤ 1000000) (ho : ∀ i ∈ (bq Q n).ins, i.op = 9 → 0 ≤ i.obj ∧ i.obj < (m.procs.length : Int)) :
  Calls Tryz.prog 21 #[.pointer (some ⟨bb, 0, none⟩), .int .i64 (n : Int)] w fun e w' => e = .returned (.int .i64 (atI (callAt m (bq Q n)))) ∧ Below w.heap.size w w' := by
 have HBX := Lib.hid h.bx
 have hvb := h.bk.rd h.ext
 have hvb' := hvb
 obtain ⟨ab, cb, rfl, h1, h2, -⟩ := hvb'
 unfold maxLen at h2
 obtain ⟨b, o, vi, rfl, hvi, c0, c1, c2, c3, c4⟩ := (RdBks.at hvb).2 n hn
 obtain ⟨vg', vd', vp', e, -, -, hvp⟩ := h.md
 simp only [Value.agg.injEq, List.toArray_eq_toArray_eq, Array.mk.injEq, List.cons.injEq, and_true, true_and] at e
 obtain ⟨rfl, rfl, rfl, -⟩ := e
 have HVI := Lib.hid hvi
 have HVP := Lib.hid (hvp.ext h.ext)
 have HS := Lib.hid hs
 have HO := Lib.hid ho
 clear hvb hvi hs ho hvp h
 obtain ⟨W0, hW0⟩ : ∃ W0, W0 = w.alloc (.cells #[.pointer (some ⟨bb, 0, none⟩)] 60) := ⟨_, rfl⟩
 have B0 : Hid (Below w.heap.size w W0) := by rw [hW0]; exact below_alloc w _
 have H0 := Lib.hid (heap_of_alloc w _ _ hW0)
 have HW0 := Lib.hid hW0
 clear hW0
 have hE : Ext w W0 := Ext.below B0.out
 have hbx := (B0.out.block _ (Array.getElem?_eq_some_iff.1 HBX.out).1).trans HBX.out
 obtain ⟨-, -, Y2, -, -, -, -, -, -, -, -, -⟩ := cl11 hbx
 have y2 := Lib.hid Y2
 clear Y2
 obtain ⟨-, -, -, -, -, -, -, -, -, y9, -, lbb⟩ := cl11 HBX.out
 have p0 : W0.cell? ⟨w.heap.size, 0, none⟩ = some (.pointer (some ⟨bb, 0, none⟩)) := cell_of_heap H0.out 0
 have l0 : w.heap.size < W0.heap.size := (Array.getElem?_eq_some_iff.1 H0.out).1
 have P0 := Lib.hid p0
 have lb : b < w.heap.size := World.block_lt_of_cell? w _ c0
 have HCL := Lib.hid (idx2_c m (bq Q n).ins vi bb w.heap.size vp W0 HS.out P0.out y2.out (HVP.out.ext hE) HO.out (HVI.out.ext hE) hl)
 clear hbx c1 c2 c3 c4 hE p0 l0 HO HVP HS P0 y2
 have ebq : bq Q n = Q.blks.getD n default := rfl
 rw [ebq] at HCL hl ⊢
 clear ebq
 generalize Q.blks.getD n default = K at *
 obtain ⟨ai, ci, rfl, -⟩ := HVI.out
 have q1 : decide ((n : Int) < (Q.blks.length : Int)) = true := decide_eq_true (by omega)
 have q2 : decide (n < Q.blks.length) = true := decide_eq_true hn
 go_enter Tryz.func21, Tryz.ntmps21
 go_wp2_with fail
 rw [← HW0.out]
 refine HCL.out.mono ?_
 rintro e w2 ⟨h2, hb2⟩
 have BB := Lib.hid (B0.out.trans (hb2.mono B0.out.size))
 clear hb2
 rcases h2 with ⟨rfl, hN⟩ | ⟨k, rfl, hk, hy, hN⟩
 ·have HR : Hid (atI (callAt m K) = -1) := by show _ = _; rw [callAt_none hN]; rfl
  clear hN
  go_wp2_with fail
  go_ret
  exact ⟨ret_i HR.out.symm, BB.out⟩
 ·have HR : Hid (atI (callAt m K) = (k : Int)) := by show _ = _; rw [callAt_at hk hy hN]; rfl
  clear hN hy
  go_wp2_with fail
  go_ret
  exact ⟨ret_i HR.out.symm, BB.out⟩
end Go.Proofs.YtchoiankeohonaaGreatDoor
