/-
 Contracts of the reference's functions of flow that look at blocks: Outs, leads, Preds, has, within.; Contracts of the reference's functions of flow: has, within, leads, Preds.; Rows of instructions, one by one.; The contract of the reference's within: what comes first in a block from a place on.; Contracts of the functions of flow that mark registers in a list of bools of the call's own.; Contracts of flow's before and join, and of slices.Clone at bools.
-/
import Derived.Test.YtkhfddodmjnecaaGreatDoorZFoldKnown01
import Derived.Test.YtkhfddodmjnecaaGreatDoorZFoldKnown00
import Derived.WalkSpells

set_option linter.all false
namespace Go.Proofs.YtkhfddodmjnecaaGreatDoor
open Go.ChangeShapes Go.WideShapes Go.ChangeAt Go.RowKit
set_option maxHeartbeats 1000000
set_option maxRecDepth 20000

theorem Own.drewN {w0 w : World} {B : Nat} {v : Value} {l : List Int} (h : Own w0 B w v l) (n : Nat) : Own w0 B (w.drewN n) v l :=
 ⟨h.own, ⟨h.below.os, h.below.tape, h.below.output, h.below.size, h.below.block⟩, h.le⟩
def inP (p : Pr) (t : Int) : Bool := decide (0 ≤ t) && decide (t < p.blks.length)
theorem outsP_eq (p : Pr) (n : Nat) : outsP p n = (outsB (p.blks.getD n default)).filter (inP p) := rfl
theorem routsP_c (p : Pr) (V : Value) (n : Nat) (w : World) (hv : PrV w V p) (hn : n < p.blks.length) (hlen : p.blks.length ≤ 1000000) :
  Calls Tryz.prog 97 #[V, .int .i64 (n : Int)] w (RetI w (outsP p n)) := by
 obtain ⟨nm, vo, vb, rfl, hvo, a, c, rfl, hc1, hc2, hcell⟩ := hv
 obtain ⟨b, o, rfl, ⟨vi, c0, hvi⟩, c1, c2, c3, c4⟩ := hcell n hn
 simp only [Nat.add_zero] at c0
 have hbw : b < w.heap.size := World.block_lt_of_cell? w _ c0
 clear hcell
 have H := Lib.hid (outsP_eq p n)
 have HB : Hid (∀ w', Ext w w' → Calls Tryz.prog 136 #[.agg #[vi, .int .i64 (p.blks.getD n default).fin, .int .i64 (p.blks.getD n default).a, .int .i64 (p.blks.getD n default).to, .int .i64 (p.blks.getD n default).els]] w' (RetI w' (outsB (p.blks.getD n default)))) :=
  fun w' he => routs_c _ _ _ ⟨vi, rfl, hvi.ext he⟩
 have HL := outsB_len (p.blks.getD n default)
 generalize p.blks.getD n default = B at *
 go_enter Tryz.func97, Tryz.ntmps97
 go_wp2_with fail
 refine (HB.out _ (Ext.alloc w _)).mono ?_
 rintro e w1 ⟨v1, rfl, ho, hb⟩
 have hbc : w1.cell? ⟨w.heap.size, 5, none⟩ = some (.slice (some ⟨b, o, none⟩) p.blks.length c) := by
  rw [hb.cell (by simp)]; simp [go_sem]
 have hz := hb.size
 simp at hz
 have hz' : w.heap.size < w1.heap.size := by omega
 obtain ⟨ad, cp, rfl, hl1, hl2, hcell⟩ := ho.rd
 clear ho
 clear c0 c1 c2 c3 c4
 have HC := Lib.hid hcell
 clear hcell
 have HE : Hid (Ext w1 w1) := Ext.refl _
 generalize outsB B = L at *
 go_wp2_with fail
 go_loopw [5, 7] (fun v k wr => ∃ i : Nat, i ≤ L.length ∧ k = .int .i64 i ∧ Own w1 w1.heap.size wr v ((L.take i).filter (inP p))) (fun _ k _ => L.length - (intOf k).toNat)
 case atStart => exact ⟨0, Nat.zero_le _, rfl, Own.nil (Nat.le_refl _)⟩
 case round =>
  obtain ⟨i, hk, rfl, O⟩ := hrel
  have hl := filter_take_le (inP p) L i
  have hcr := O.bcell
  by_cases hlt : i < L.length
  ·obtain ⟨b2, o2, rfl, hcx⟩ := HC.out i hlt
   have hc' := O.old HE.out (Nat.le_refl _) _ _ hcx
   simp only [Nat.mul_one, Nat.add_zero] at hc'
   clear hcx
   have hF1 := filter_snoc_yes (inP p) L i hlt
   have hF2 := filter_snoc_no (inP p) L i hlt
   generalize L.getD i 0 = x at hc' hF1 hF2
   by_cases h0 : 0 ≤ x
   ·by_cases h1 : x < (p.blks.length : Int)
    ·have HF := Lib.hid (hF1 (by unfold inP; simp [h0, h1]))
     clear hF1 hF2
     go_wp2_with fail
     go_quiet (fail)
     obtain ⟨wq, hq⟩ : ∃ wq, wq = wr.drewN nq := ⟨_, rfl⟩
     rw [← hq]
     have Oq : Own w1 w1.heap.size wq u5 ((L.take i).filter (inP p)) := hq ▸ O.drewN nq
     have hcq : wq.cell? ⟨b2, o2 + i, none⟩ = some (.int .i64 x) := hq ▸ hc'
     clear hq O hcr hc'
     go_wp2_with (at_builtin; refine app1 Oq rfl rfl rfl rfl (by first | rfl | simp) (by omega) ?_; intro v1 w2 O1)
     go_roundw
     case rel => exact ⟨i + 1, by omega, by go_num, by rw [HF.out]; exact O1⟩
     case measure => simp [intOf]; omega
    ·have h1' : decide (x < (p.blks.length : Int)) = false := by simpa using h1
     have HF := Lib.hid (hF2 (by unfold inP; simp [h1]))
     clear hF1 hF2
     go_wp2_with fail
     go_quiet (fail)
     have Oq := O.drewN nq
     go_wp2
     go_roundw
     case rel => exact ⟨i + 1, by omega, by go_num, by rw [HF.out]; exact Oq⟩
     case measure => simp [intOf]; omega
   ·have h0' : decide (0 ≤ x) = false := by simpa using h0
    have HF := Lib.hid (hF2 (by unfold inP; simp [h0]))
    clear hF1 hF2
    go_wp2_with fail
    go_quiet (fail)
    have Oq := O.drewN nq
    go_wp2
    go_roundw
    case rel => exact ⟨i + 1, by omega, by go_num, by rw [HF.out]; exact Oq⟩
    case measure => simp [intOf]; omega
  ·have HF : Hid ((L.take i).filter (inP p) = L.filter (inP p)) := by show _ = _; rw [List.take_of_length_le (by omega)]
   go_wp2
   go_ret
   rw [H.out, ← HF.out]
   exact O.ret ((below_alloc _ _).trans (hb.mono (by simp))) (by omega)
end Go.Proofs.YtkhfddodmjnecaaGreatDoor

set_option linter.all false
namespace Go.Proofs.YtkhfddodmjnecaaGreatDoor
open Go.ChangeShapes Go.WideShapes Go.ChangeAt Go.RowKit
set_option maxHeartbeats 1000000
set_option maxRecDepth 20000

/-- is a number in a list? -/
def hasL (l : List Int) (r : Int) : Bool := l.contains r
theorem any_take_succ (l : List Int) (r : Int) (i : Nat) (h : i < l.length) (h0 : ∀ j, j < i → (l.getD j 0 == r) = false) (h1 : (l.getD i 0 == r) = false) : ∀ j, j < i + 1 → (l.getD j 0 == r) = false := by
 intro j hj
 by_cases e : j = i
 ·subst e; exact h1
 ·exact h0 j (by omega)
theorem contains_no (l : List Int) (r : Int) (h : ∀ j, j < l.length → (l.getD j 0 == r) = false) : hasL l r = false := by
 unfold hasL
 rw [Bool.eq_false_iff]
 intro hc
 rw [List.contains_iff_mem] at hc
 obtain ⟨j, hj, rfl⟩ := List.getElem_of_mem hc
 have := h j hj
 simp [List.getD, hj] at this
theorem contains_yes (l : List Int) (r : Int) (i : Nat) (h : i < l.length) (h1 : (l.getD i 0 == r) = true) : hasL l r = true := by
 unfold hasL
 rw [List.contains_iff_mem]
 have : l.getD i 0 = r := eq_of_beq h1
 rw [← this]
 simp [List.getD, h]
theorem rleads_c (p : Pr) (V : Value) (n : Nat) (r : Int) (w : World) (hv : PrV w V p) (hn : n < p.blks.length) (hlen : p.blks.length ≤ 1000000) :
  Calls Tryz.prog 64 #[V, .int .i64 (n : Int), .int .i64 r] w fun e w' => e = .returned (.bool (hasL (outsP p n) r)) ∧ Below w.heap.size w w' := by
 have HO : Hid (∀ w', Ext w w' → Calls Tryz.prog 97 #[V, .int .i64 (n : Int)] w' (RetI w' (outsP p n))) := fun w' he => routsP_c p V n w' (hv.ext he) hn hlen
 have HL : (outsP p n).length ≤ 2 := Nat.le_trans (List.length_filter_le _ _) (outsB_len _)
 obtain ⟨nm, vo, vb, rfl, _⟩ := hv
 generalize outsP p n = l at *
 go_enter Tryz.func64, Tryz.ntmps64
 go_wp2_with fail
 refine (HO.out _ (Ext.alloc w _)).mono ?_
 rintro e w1 ⟨v1, rfl, ho, hb⟩
 obtain ⟨a, c, rfl, hl1, hl2, hcell⟩ := ho.rd
 have HC := Lib.hid hcell
 clear hcell ho
 go_wp2_with fail
 go_loop [8] (fun i => ∃ k : Nat, k ≤ l.length ∧ i = .int .i64 k ∧ Hid (∀ j, j < k → (l.getD j 0 == r) = false)) (fun i => l.length - (intOf i).toNat)
 case atStart => exact ⟨0, Nat.zero_le _, rfl, fun j hj => absurd hj (by omega)⟩
 case round =>
  obtain ⟨k, hk, rfl, hno⟩ := hrel
  by_cases hlt : k < l.length
  ·obtain ⟨b, o, rfl, hcx⟩ := HC.out k hlt
   simp only [Nat.mul_one, Nat.add_zero] at hcx
   obtain ⟨x, hx⟩ : ∃ x, l.getD k 0 = x := ⟨_, rfl⟩
   rw [hx] at hcx
   have HX := Lib.hid hx
   clear hx
   by_cases hp : (x == r) = true
   ·have HP := Lib.hid hp
    go_wp2
    go_ret
    exact ⟨ret_b (contains_yes l r k hlt (by rw [HX.out]; exact HP.out)).symm, (below_alloc _ _).trans (hb.mono (by simp))⟩
   ·have hp := eq_false_of_ne_true hp
    have HP := Lib.hid hp
    go_wp2
    go_round
    case rel => exact ⟨k + 1, by omega, by go_num, any_take_succ l r k hlt hno.out (by rw [HX.out]; exact HP.out)⟩
    case measure => simp [intOf]; omega
  ·have H := Lib.hid (contains_no l r fun j hj => hno.out j (by omega))
   go_wp2
   go_ret
   exact ⟨ret_b H.out.symm, (below_alloc _ _).trans (hb.mono (by simp))⟩
theorem OwnI.below {w w' : World} {B : Nat} {v : Value} {l : List Int} (h : OwnI w B v l) (hb : Below w.heap.size w w') : OwnI w' B v l := by
 obtain ⟨h1, h2 | ⟨g, cap, cur, h3, h4, h5, r⟩⟩ := h
 ·exact ⟨h1, .inl h2⟩
 ·exact ⟨h1, .inr ⟨g, cap, cur, h3, h4, (hb.block g (Array.getElem?_eq_some_iff.1 h5).1).trans h5, r⟩⟩
/-- the blocks that lead to a block -/
def predsP (p : Pr) (r : Int) : List Int := ((List.range p.blks.length).filter fun i => hasL (outsP p i) r).map fun i : Nat => (i : Int)
def predsU (p : Pr) (r : Int) (k : Nat) : List Int := ((List.range k).filter fun i => hasL (outsP p i) r).map fun i : Nat => (i : Int)
theorem predsU_yes (p : Pr) (r : Int) (k : Nat) (h : hasL (outsP p k) r = true) : predsU p r (k + 1) = predsU p r k ++ [(k : Int)] := by
 unfold predsU; rw [List.range_succ, List.filter_append, List.map_append, List.filter_cons, h]; rfl
theorem predsU_no (p : Pr) (r : Int) (k : Nat) (h : hasL (outsP p k) r = false) : predsU p r (k + 1) = predsU p r k := by
 unfold predsU; rw [List.range_succ, List.filter_append, List.map_append, List.filter_cons, h]; simp
theorem predsU_le (p : Pr) (r : Int) (k : Nat) : (predsU p r k).length ≤ k := by
 unfold predsU; rw [List.length_map]; exact Nat.le_trans (List.length_filter_le _ _) (by simp)
theorem rpreds_c (p : Pr) (V : Value) (r : Int) (w : World) (hv : PrV w V p) (hlen : p.blks.length ≤ 1000000) :
  Calls Tryz.prog 35 #[V, .int .i64 r] w (RetI w (predsP p r)) := by
 have HO : Hid (∀ k w', k < p.blks.length → Ext w w' → Calls Tryz.prog 64 #[V, .int .i64 (k : Int), .int .i64 r] w' fun e w'' => e = .returned (.bool (hasL (outsP p k) r)) ∧ Below w'.heap.size w' w'') := fun k w' hk he => rleads_c p V k r w' (hv.ext he) hk hlen
 obtain ⟨nm, vo, vb, rfl, _, ad, c, rfl, _⟩ := hv
 go_enter Tryz.func35, Tryz.ntmps35
 go_wp2_with fail
 obtain ⟨W0, hW0⟩ : ∃ W0, W0 = w.alloc (.cells #[.string nm, .bool p.void, .int .i64 p.params, .int .i64 p.regs, vo, .slice ad p.blks.length c] 32) := ⟨_, rfl⟩
 have hbc : ∀ j : Nat, j < 6 → W0.cell? ⟨w.heap.size, j, none⟩ = #[Value.string nm, .bool p.void, .int .i64 p.params, .int .i64 p.regs, vo, .slice ad p.blks.length c][j]? := fun j _ => by rw [hW0, cell_of_heap (heap_alloc_new w _)]
 have k0 := hbc 0 (by decide)
 have k1 := hbc 1 (by decide)
 have k2 := hbc 2 (by decide)
 have k3 := hbc 3 (by decide)
 have k4 := hbc 4 (by decide)
 have k5 := hbc 5 (by decide)
 simp at k0 k1 k2 k3 k4 k5
 have hz : w.heap.size < W0.heap.size := by rw [hW0]; simp
 have HX : Hid (Ext w W0) := by rw [hW0]; exact Ext.alloc w _
 have HB : Hid (Below w.heap.size w W0) := by rw [hW0]; exact below_alloc w _
 rw [← hW0]
 clear hW0 hbc
 go_loopw [5, 6] (fun v i wr => ∃ k : Nat, k ≤ p.blks.length ∧ i = .int .i64 k ∧ Own W0 W0.heap.size wr v (predsU p r k)) (fun _ i _ => p.blks.length - (intOf i).toNat)
 case atStart => exact ⟨0, Nat.zero_le _, rfl, (show predsU p r 0 = [] from rfl) ▸ Own.nil (Nat.le_refl _)⟩
 case round =>
  obtain ⟨k, hk, rfl, O⟩ := hrel
  have hcr := O.bcell
  have hl := predsU_le p r k
  by_cases hlt : k < p.blks.length
  ·have E := HO.out k wr hlt (O.old HX.out (by omega))
   cases hp : hasL (outsP p k) r
   ·have HF := Lib.hid (predsU_no p r k hp)
    rw [hp] at E
    have E := Lib.hid E
    clear hp
    go_wp2_with (go_at_call 64; refine E.out.mono ?_; rintro e w2 ⟨rfl, hb2⟩)
    go_roundw
    case rel => exact ⟨k + 1, by omega, by go_num, by rw [HF.out]; exact ⟨(O.own).below hb2, O.below.trans (hb2.mono O.below.size), O.le⟩⟩
    case measure => simp [intOf]; omega
   ·have HF := Lib.hid (predsU_yes p r k hp)
    rw [hp] at E
    have E := Lib.hid E
    clear hp
    go_wp2_with (first | (go_at_call 64; refine E.out.mono ?_; rintro e w2 ⟨rfl, hb2⟩; have O2 : Own W0 W0.heap.size w2 u5 (predsU p r k) := ⟨(O.own).below hb2, O.below.trans (hb2.mono O.below.size), O.le⟩) | (at_builtin; refine app1 O2 rfl rfl rfl rfl (by first | rfl | simp) (by omega) ?_; intro v1 w3 O1))
    go_roundw
    case rel => exact ⟨k + 1, by omega, by go_num, by rw [HF.out]; exact O1⟩
    case measure => simp [intOf]; omega
  ·obtain rfl : k = p.blks.length := by omega
   go_wp2
   go_ret
   exact O.ret HB.out (by omega)
end Go.Proofs.YtkhfddodmjnecaaGreatDoor

set_option linter.all false
namespace Go.Proofs.YtkhfddodmjnecaaGreatDoor
open Go Go.RowKit

theorem RdIns.at {w : World} {a : Option Addr} {n c : Nat} {l : List In} (h : RdIns w (.slice a n c) l) : n = l.length ∧ ∀ k, k < l.length → ∃ b o va, a = some ⟨b, o, none⟩ ∧ b < w.heap.size ∧ RdI w va (l.getD k default).args ∧
  (w.cell? ⟨b, o + k * 11, none⟩ = some (.int .i64 (l.getD k default).op) ∧ w.cell? ⟨b, o + k * 11 + 1, none⟩ = some (.int .i64 (l.getD k default).d) ∧ w.cell? ⟨b, o + k * 11 + 2, none⟩ = some (.int .i64 (l.getD k default).a) ∧
  w.cell? ⟨b, o + k * 11 + 3, none⟩ = some (.int .i64 (l.getD k default).b) ∧ w.cell? ⟨b, o + k * 11 + 4, none⟩ = some (.int .i64 (l.getD k default).fn) ∧ w.cell? ⟨b, o + k * 11 + 5, none⟩ = some (.int .i64 (l.getD k default).obj) ∧
  w.cell? ⟨b, o + k * 11 + 6, none⟩ = some (.int .i64 (l.getD k default).off) ∧ w.cell? ⟨b, o + k * 11 + 7, none⟩ = some (.int .i64 (l.getD k default).size) ∧ w.cell? ⟨b, o + k * 11 + 8, none⟩ = some (.int .u32 (l.getD k default).num) ∧
  w.cell? ⟨b, o + k * 11 + 9, none⟩ = some va ∧ w.cell? ⟨b, o + k * 11 + 10, none⟩ = some (.bool (l.getD k default).log)) := by
 obtain ⟨a', c', e, h1, h2, hc⟩ := h
 simp only [Value.slice.injEq] at e
 obtain ⟨rfl, rfl, rfl⟩ := e
 refine ⟨rfl, fun k hk => ?_⟩
 obtain ⟨b, o, rfl, h0, h1, h2, h3, h4, h5, h6, h7, h8, ⟨va, h9, hv⟩, h10⟩ := hc k hk
 exact ⟨b, o, va, rfl, World.block_lt_of_cell? w _ h0, hv, h0, h1, h2, h3, h4, h5, h6, h7, h8, h9, h10⟩
end Go.Proofs.YtkhfddodmjnecaaGreatDoor

set_option linter.all false
namespace Go.Proofs.YtkhfddodmjnecaaGreatDoor
open Go.ChangeShapes Go.WideShapes Go.ChangeAt Go.RowKit
set_option maxHeartbeats 1000000
set_option maxRecDepth 20000

/-- what comes first among instructions: 1: the register is read; 2: it is set; 0: neither -/
def withinI (r : Int) : List In → Int
 | [] => 0
 | i :: l => if hasL (usesI i) r = true then 1 else if defI i = r then 2 else withinI r l
def endReads (b : Bk) (r : Int) : Bool := (b.fin == 2 || b.fin == 3) && b.a == r
def withinB (b : Bk) (k : Nat) (r : Int) : Int := if withinI r (b.ins.drop k) = 0 then (if endReads b r = true then 1 else 0) else withinI r (b.ins.drop k)
end Go.Proofs.YtkhfddodmjnecaaGreatDoor

set_option linter.all false
namespace Go.Proofs.YtkhfddodmjnecaaGreatDoor
open Go.ChangeShapes Go.WideShapes Go.ChangeAt Go.RowKit
set_option maxHeartbeats 1000000
set_option maxRecDepth 20000

/-- a list of bools in a row of the call's own -/
def OwnB (w : World) (base : Nat) (v : Value) (l : List Bool) : Prop := w.ownsRow base 4 1 v l.length (l.map Value.bool)
theorem OwnB.rd {w : World} {base : Nat} {v : Value} {l : List Bool} (h : OwnB w base v l) : RdB w v l := by
 obtain ⟨h1, ⟨rfl, h2⟩ | ⟨g, cap, cur, rfl, hb, hg, hn, hc, hcs, ht⟩⟩ := h
 ·have : l = [] := List.eq_nil_of_length_eq_zero h2
  subst this
  exact ⟨none, 0, rfl, Nat.le_refl _, by simp [maxLen], fun i hi => absurd hi (by simp)⟩
 ·refine ⟨_, _, rfl, hn, hc, fun i hi => ⟨g, 0, rfl, ?_⟩⟩
  have h3 : (l.map Value.bool)[i]? = some (.bool (l.getD i false)) := by
   rw [List.getElem?_map, List.getElem?_eq_getElem hi]; simp [List.getD, hi]
  rw [← ht, List.getElem?_take] at h3
  split at h3
  ·simp only [Nat.zero_add, Nat.mul_one, Nat.add_zero]
   rw [World.cell?]
   simp only [hg]
   simpa using h3
  ·cases h3
theorem OwnB.cellAt {w : World} {B g n c : Nat} {l : List Bool} (h : OwnB w B (.slice (some ⟨g, 0, none⟩) n c) l) : n = l.length ∧ n ≤ c ∧ c ≤ maxLen ∧ B ≤ g ∧ (∀ i, i < n → w.cell? ⟨g, i, none⟩ = some (.bool (l.getD i false))) ∧ (∀ i, w.frozen? ⟨g, i, none⟩ = false) ∧ g < w.heap.size := by
 obtain ⟨ad, cp, h1, h2, h3, h4⟩ := h.rd
 simp only [Value.slice.injEq] at h1
 obtain ⟨rfl, rfl, rfl⟩ := h1
 have hf := World.ownsRow.frozenAt h
 obtain ⟨_, ⟨h5, _⟩ | ⟨g', cap, cur, h5, hb, hh, _⟩⟩ := h
 ·simp at h5
 ·simp only [Value.slice.injEq, Option.some.injEq, Addr.mk.injEq] at h5
  refine ⟨rfl, h2, h3, by omega, fun i hi => ?_, hf, ?_⟩
  ·obtain ⟨b, o, e, hc⟩ := h4 i hi
   simp only [Option.some.injEq, Addr.mk.injEq] at e
   obtain ⟨rfl, rfl, _⟩ := e
   simpa using hc
  ·have := (Array.getElem?_eq_some_iff.1 hh).1
   omega
theorem OwnB.set {w : World} {B g n c : Nat} {l : List Bool} (h : OwnB w B (.slice (some ⟨g, 0, none⟩) n c) l) (i : Nat) (x : Bool) : OwnB (w.setCell ⟨g, i, none⟩ (.bool x)) B (.slice (some ⟨g, 0, none⟩) n c) (l.set i x) := by
 obtain ⟨rfl, _⟩ := h.cellAt
 have := (World.ownsRow.stored h i (.bool x)).1
 unfold OwnB
 rw [List.length_set, List.map_set]
 exact this
/-- the world but for one block, and new ones -/
structure But (g : Nat) (w w' : World) : Prop where
 os : w'.os = w.os
 tape : w'.tape = w.tape
 output : w'.output = w.output
 size : w.heap.size ≤ w'.heap.size
 block : ∀ k, k < w.heap.size → k ≠ g → w'.heap[k]? = w.heap[k]?
theorem But.refl (g : Nat) (w : World) : But g w w := ⟨rfl, rfl, rfl, Nat.le_refl _, fun _ _ _ => rfl⟩
theorem But.trans {g : Nat} {a b c : World} (h : But g a b) (k : But g b c) : But g a c :=
 ⟨k.os.trans h.os, k.tape.trans h.tape, k.output.trans h.output, Nat.le_trans h.size k.size, fun i hi hg => (k.block i (Nat.lt_of_lt_of_le hi h.size) hg).trans (h.block i hi hg)⟩
theorem But.below {g : Nat} {w w' : World} (h : Below w.heap.size w w') : But g w w' := ⟨h.os, h.tape, h.output, h.size, fun k hk _ => h.block k hk⟩
theorem But.setCell (g i : Nat) (w : World) (x : Value) : But g w (w.setCell ⟨g, i, none⟩ x) :=
 ⟨rfl, rfl, rfl, by simp [World.setCell], fun k _ hk => Below.heap_setCell w ⟨g, i, none⟩ x k hk⟩
theorem But.toBelow {g B : Nat} {w w' : World} (h : But g w w') (hg : B ≤ g) (hB : B ≤ w.heap.size) : Below B w w' := ⟨h.os, h.tape, h.output, h.size, fun k hk => h.block k (by omega) (by omega)⟩
theorem But.cell {g : Nat} {w w' : World} (h : But g w w') {b o : Nat} (hb : b < w.heap.size) (hg : b ≠ g) : w'.cell? ⟨b, o, none⟩ = w.cell? ⟨b, o, none⟩ := World.cell?_of_block (w := w) (a := ⟨b, o, none⟩) (h.block b hb hg)
/-- what is read, but for the one block -/
def ExtB (g : Nat) (w w' : World) : Prop := ∀ a v, a.block ≠ g → w.cell? a = some v → w'.cell? a = some v
theorem But.ext {g : Nat} {w w' : World} (h : But g w w') : ExtB g w w' := fun a _ hg hv => (World.cell?_of_block (w := w) (h.block a.block (World.block_lt_of_cell? w a hv) hg)).trans hv
theorem OwnB.below {w w' : World} {B : Nat} {v : Value} {l : List Bool} (h : OwnB w B v l) (hb : Below w.heap.size w w') : OwnB w' B v l := by
 obtain ⟨h1, h2 | ⟨g, cap, cur, h3, h4, h5, r⟩⟩ := h
 ·exact ⟨h1, .inl h2⟩
 ·exact ⟨h1, .inr ⟨g, cap, cur, h3, h4, (hb.block g (Array.getElem?_eq_some_iff.1 h5).1).trans h5, r⟩⟩
theorem OwnB.but {w w' : World} {B g g0 n c : Nat} {l : List Bool} (h : OwnB w B (.slice (some ⟨g0, 0, none⟩) n c) l) (hb : But g w w') (hg : g0 ≠ g) : OwnB w' B (.slice (some ⟨g0, 0, none⟩) n c) l := by
 obtain ⟨h1, h2 | ⟨g', cap, cur, h3, h4, h5, r⟩⟩ := h
 ·exact ⟨h1, .inl h2⟩
 ·simp only [Value.slice.injEq, Option.some.injEq, Addr.mk.injEq] at h3
  refine ⟨h1, .inr ⟨g', cap, cur, by simp only [h3], h4, (hb.block g' (Array.getElem?_eq_some_iff.1 h5).1 (by omega)).trans h5, r⟩⟩

/-- marked, if there is such a one -/
def setB (l : List Bool) (r : Int) (is : Bool) : List Bool := if 0 ≤ r ∧ r < l.length then l.set r.toNat is else l
theorem setB_len (l : List Bool) (r : Int) (is : Bool) : (setB l r is).length = l.length := by unfold setB; split <;> simp
/-- a list of bools at a block of its own -/
def RowB (w : World) (g n c : Nat) (l : List Bool) : Prop := OwnB w 0 (.slice (some ⟨g, 0, none⟩) n c) l
theorem RowB.below {w w' : World} {g n c : Nat} {l : List Bool} (h : RowB w g n c l) (hb : Below w.heap.size w w') : RowB w' g n c l := OwnB.below h hb
end Go.Proofs.YtkhfddodmjnecaaGreatDoor

set_option linter.all false
namespace Go.Proofs.YtkhfddodmjnecaaGreatDoor
open Go.ChangeShapes Go.WideShapes Go.ChangeAt Go.RowKit
set_option maxHeartbeats 1000000
set_option maxRecDepth 20000

def marksB (l : List Bool) (rs : List Int) : List Bool := rs.foldl (fun l r => setB l r true) l
/-- what is live ahead of an instruction -/
def beforeB (l : List Bool) (i : In) : List Bool := marksB (setB l (defI i) false) (usesI i)
theorem marksB_len (l : List Bool) (rs : List Int) : (marksB l rs).length = l.length := by
 unfold marksB
 induction rs generalizing l with
 | nil => rfl
 | cons r rs ih => rw [List.foldl_cons, ih, setB_len]
/-- joined so far -/
def orB (lt lf : List Bool) (k : Nat) : List Bool := (List.range lt.length).map fun i => lt.getD i false || (decide (i < k) && lf.getD i false)
def grewB (lt lf : List Bool) (k : Nat) : Bool := (List.range k).any fun i => lf.getD i false && !lt.getD i false
def joinB (lt lf : List Bool) : List Bool := orB lt lf lt.length
theorem orB_len (lt lf : List Bool) (k : Nat) : (orB lt lf k).length = lt.length := by simp [orB]
theorem list_ext (a b : List Bool) (hl : a.length = b.length) (h : ∀ i, i < a.length → a.getD i false = b.getD i false) : a = b := by
 apply List.ext_getElem hl
 intro i h1 h2
 have := h i h1
 simpa [List.getD, h1, h2] using this
theorem info_bool : (Tryz.prog.info? 4).map (fun i => (i.zero, i.size, i.bytes)) = some (some (.bool false), 1, 1) := by kernel_rfl
end Go.Proofs.YtkhfddodmjnecaaGreatDoor
