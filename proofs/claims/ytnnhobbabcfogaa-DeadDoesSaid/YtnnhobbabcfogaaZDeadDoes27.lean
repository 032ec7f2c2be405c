/-
 Contracts of the reference's functions of flow that look at blocks: Outs, leads, Preds, has, within.; Contracts of the reference's functions of flow: has, within, leads, Preds.; The contract of the reference's within: what comes first in a block from a place on.
-/
import Derived.Test.YtnnhobbabcfogaaZDeadDoes26
import Derived.Test.YtnnhobbabcfogaaZDeadDoes04

set_option linter.all false
namespace Go.Proofs.Ytnnhobbabcfogaa
open Go.ChangeShapes Go.WideShapes Go.ChangeAt Go.RowKit
set_option maxHeartbeats 1000000
set_option maxRecDepth 20000

theorem Own.drewN {w0 w : World} {B : Nat} {v : Value} {l : List Int} (h : Own w0 B w v l) (n : Nat) : Own w0 B (w.drewN n) v l :=
 ⟨h.own, ⟨h.below.os, h.below.tape, h.below.output, h.below.size, h.below.block⟩, h.le⟩
def inP (p : Pr) (t : Int) : Bool := decide (0 ≤ t) && decide (t < p.blks.length)
theorem outsP_eq (p : Pr) (n : Nat) : outsP p n = (outsB (p.blks.getD n default)).filter (inP p) := rfl
theorem routsP_c (p : Pr) (V : Value) (n : Nat) (w : World) (hv : PrV w V p) (hn : n < p.blks.length) (hlen : p.blks.length ≤ 1000000) :
  Calls Try.prog 93 #[V, .int .i64 (n : Int)] w (RetI w (outsP p n)) := by
 obtain ⟨nm, vo, vb, rfl, hvo, a, c, rfl, hc1, hc2, hcell⟩ := hv
 obtain ⟨b, o, rfl, ⟨vi, c0, hvi⟩, c1, c2, c3, c4⟩ := hcell n hn
 simp only [Nat.add_zero] at c0
 have hbw : b < w.heap.size := World.block_lt_of_cell? w _ c0
 clear hcell
 have H := Lib.hid (outsP_eq p n)
 have HB : Hid (∀ w', Ext w w' → Calls Try.prog 128 #[.agg #[vi, .int .i64 (p.blks.getD n default).fin, .int .i64 (p.blks.getD n default).a, .int .i64 (p.blks.getD n default).to, .int .i64 (p.blks.getD n default).els]] w' (RetI w' (outsB (p.blks.getD n default)))) :=
  fun w' he => routs_c _ _ _ ⟨vi, rfl, hvi.ext he⟩
 have HL := outsB_len (p.blks.getD n default)
 generalize p.blks.getD n default = B at *
 go_enter Try.func93, Try.ntmps93
 go_wp2_with fail
 refine (HB.out _ (Ext.alloc w _)).mono ?_
 rintro e w1 ⟨v1, rfl, ho, hb⟩
 have hbc : w1.cell? ⟨w.heap.size, 5, none⟩ = some (.slice (some ⟨b, o, none⟩) p.blks.length c) := by
  rw [hb.cell (by simp)]; simp [go_sem]
 have hz := hb.size
 simp at hz
 have hz' : w.heap.size < w1.heap.size := by omega
 obtain ⟨ad, cp, rfl, hl1, hl2, hcell⟩ := ho.rd
 clear ho
 clear c0 c1 c2 c3 c4
 have HC := Lib.hid hcell
 clear hcell
 have HE : Hid (Ext w1 w1) := Ext.refl _
 generalize outsB B = L at *
 go_wp2_with fail
 go_loopw [5, 7] (fun v k wr => ∃ i : Nat, i ≤ L.length ∧ k = .int .i64 i ∧ Own w1 w1.heap.size wr v ((L.take i).filter (inP p))) (fun _ k _ => L.length - (intOf k).toNat)
 case atStart => exact ⟨0, Nat.zero_le _, rfl, Own.nil (Nat.le_refl _)⟩
 case round =>
  obtain ⟨i, hk, rfl, O⟩ := hrel
  have hl := filter_take_le (inP p) L i
  have hcr := O.bcell
  by_cases hlt : i < L.length
  ·obtain ⟨b2, o2, rfl, hcx⟩ := HC.out i hlt
   have hc' := O.old HE.out (Nat.le_refl _) _ _ hcx
   simp only [Nat.mul_one, Nat.add_zero] at hc'
   clear hcx
   have hF1 := filter_snoc_yes (inP p) L i hlt
   have hF2 := filter_snoc_no (inP p) L i hlt
   generalize L.getD i 0 = x at hc' hF1 hF2
   by_cases h0 : 0 ≤ x
   ·by_cases h1 : x < (p.blks.length : Int)
    ·have HF := Lib.hid (hF1 (by unfold inP; simp [h0, h1]))
     clear hF1 hF2
     go_wp2_with fail
     go_quiet (fail)
     obtain ⟨wq, hq⟩ : ∃ wq, wq = wr.drewN nq := ⟨_, rfl⟩
     rw [← hq]
     have Oq : Own w1 w1.heap.size wq u5 ((L.take i).filter (inP p)) := hq ▸ O.drewN nq
     have hcq : wq.cell? ⟨b2, o2 + i, none⟩ = some (.int .i64 x) := hq ▸ hc'
     clear hq O hcr hc'
     go_wp2_with (at_builtin; refine app1 Oq rfl rfl rfl rfl (by first | rfl | simp) (by omega) ?_; intro v1 w2 O1)
     go_roundw
     case rel => exact ⟨i + 1, by omega, by go_num, by rw [HF.out]; exact O1⟩
     case measure => simp [intOf]; omega
    ·have h1' : decide (x < (p.blks.length : Int)) = false := by simpa using h1
     have HF := Lib.hid (hF2 (by unfold inP; simp [h1]))
     clear hF1 hF2
     go_wp2_with fail
     go_quiet (fail)
     have Oq := O.drewN nq
     go_wp2
     go_roundw
     case rel => exact ⟨i + 1, by omega, by go_num, by rw [HF.out]; exact Oq⟩
     case measure => simp [intOf]; omega
   ·have h0' : decide (0 ≤ x) = false := by simpa using h0
    have HF := Lib.hid (hF2 (by unfold inP; simp [h0]))
    clear hF1 hF2
    go_wp2_with fail
    go_quiet (fail)
    have Oq := O.drewN nq
    go_wp2
    go_roundw
    case rel => exact ⟨i + 1, by omega, by go_num, by rw [HF.out]; exact Oq⟩
    case measure => simp [intOf]; omega
  ·have HF : Hid ((L.take i).filter (inP p) = L.filter (inP p)) := by show _ = _; rw [List.take_of_length_le (by omega)]
   go_wp2
   go_ret
   rw [H.out, ← HF.out]
   exact O.ret ((below_alloc _ _).trans (hb.mono (by simp))) (by omega)
end Go.Proofs.Ytnnhobbabcfogaa

set_option linter.all false
namespace Go.Proofs.Ytnnhobbabcfogaa
open Go.ChangeShapes Go.WideShapes Go.ChangeAt Go.RowKit
set_option maxHeartbeats 1000000
set_option maxRecDepth 20000

/-- is a number in a list? -/
def hasL (l : List Int) (r : Int) : Bool := l.contains r
theorem any_take_succ (l : List Int) (r : Int) (i : Nat) (h : i < l.length) (h0 : ∀ j, j < i → (l.getD j 0 == r) = false) (h1 : (l.getD i 0 == r) = false) : ∀ j, j < i + 1 → (l.getD j 0 == r) = false := by
 intro j hj
 by_cases e : j = i
 ·subst e; exact h1
 ·exact h0 j (by omega)
theorem contains_no (l : List Int) (r : Int) (h : ∀ j, j < l.length → (l.getD j 0 == r) = false) : hasL l r = false := by
 unfold hasL
 rw [Bool.eq_false_iff]
 intro hc
 rw [List.contains_iff_mem] at hc
 obtain ⟨j, hj, rfl⟩ := List.getElem_of_mem hc
 have := h j hj
 simp [List.getD, hj] at this
theorem contains_yes (l : List Int) (r : Int) (i : Nat) (h : i < l.length) (h1 : (l.getD i 0 == r) = true) : hasL l r = true := by
 unfold hasL
 rw [List.contains_iff_mem]
 have : l.getD i 0 = r := eq_of_beq h1
 rw [← this]
 simp [List.getD, h]
theorem rhas_c (l : List Int) (v : Value) (r : Int) (w : World) (hv : RdI w v l) (hn : l.length ≤ 1000000) :
  Calls Try.prog 126 #[v, .int .i64 r] w fun e w' => e = .returned (.bool (hasL l r)) ∧ w = w' := by
 obtain ⟨a, c, rfl, hl1, hl2, hcell⟩ := hv
 have HC := Lib.hid hcell
 clear hcell
 go_enter Try.func126, Try.ntmps126
 go_wp2
 go_loop [5] (fun i => ∃ k : Nat, k ≤ l.length ∧ i = .int .i64 k ∧ Hid (∀ j, j < k → (l.getD j 0 == r) = false)) (fun i => l.length - (intOf i).toNat)
 case atStart => exact ⟨0, Nat.zero_le _, rfl, fun j hj => absurd hj (by omega)⟩
 case round =>
  obtain ⟨k, hk, rfl, hno⟩ := hrel
  by_cases hlt : k < l.length
  ·obtain ⟨b, o, rfl, hcx⟩ := HC.out k hlt
   simp only [Nat.mul_one, Nat.add_zero] at hcx
   obtain ⟨x, hx⟩ : ∃ x, l.getD k 0 = x := ⟨_, rfl⟩
   rw [hx] at hcx
   have HX := Lib.hid hx
   clear hx
   by_cases hp : (x == r) = true
   ·have HP := Lib.hid hp
    go_wp2
    go_ret
    exact ⟨ret_b (contains_yes l r k hlt (by rw [HX.out]; exact HP.out)).symm, rfl⟩
   ·have hp := eq_false_of_ne_true hp
    have HP := Lib.hid hp
    go_wp2
    go_round
    case rel => exact ⟨k + 1, by omega, by go_num, any_take_succ l r k hlt hno.out (by rw [HX.out]; exact HP.out)⟩
    case measure => simp [intOf]; omega
  ·have H := Lib.hid (contains_no l r fun j hj => hno.out j (by omega))
   go_wp2
   go_ret
   exact ⟨ret_b H.out.symm, rfl⟩
theorem OwnI.below {w w' : World} {B : Nat} {v : Value} {l : List Int} (h : OwnI w B v l) (hb : Below w.heap.size w w') : OwnI w' B v l := by
 obtain ⟨h1, h2 | ⟨g, cap, cur, h3, h4, h5, r⟩⟩ := h
 ·exact ⟨h1, .inl h2⟩
 ·exact ⟨h1, .inr ⟨g, cap, cur, h3, h4, (hb.block g (Array.getElem?_eq_some_iff.1 h5).1).trans h5, r⟩⟩
/-- the blocks that lead to a block -/
def predsP (p : Pr) (r : Int) : List Int := ((List.range p.blks.length).filter fun i => hasL (outsP p i) r).map fun i : Nat => (i : Int)
def predsU (p : Pr) (r : Int) (k : Nat) : List Int := ((List.range k).filter fun i => hasL (outsP p i) r).map fun i : Nat => (i : Int)
theorem predsU_yes (p : Pr) (r : Int) (k : Nat) (h : hasL (outsP p k) r = true) : predsU p r (k + 1) = predsU p r k ++ [(k : Int)] := by
 unfold predsU; rw [List.range_succ, List.filter_append, List.map_append, List.filter_cons, h]; rfl
theorem predsU_no (p : Pr) (r : Int) (k : Nat) (h : hasL (outsP p k) r = false) : predsU p r (k + 1) = predsU p r k := by
 unfold predsU; rw [List.range_succ, List.filter_append, List.map_append, List.filter_cons, h]; simp
theorem predsU_le (p : Pr) (r : Int) (k : Nat) : (predsU p r k).length ≤ k := by
 unfold predsU; rw [List.length_map]; exact Nat.le_trans (List.length_filter_le _ _) (by simp)
end Go.Proofs.Ytnnhobbabcfogaa

set_option linter.all false
namespace Go.Proofs.Ytnnhobbabcfogaa
open Go.ChangeShapes Go.WideShapes Go.ChangeAt Go.RowKit
set_option maxHeartbeats 1000000
set_option maxRecDepth 20000

/-- what comes first among instructions: 1: the register is read; 2: it is set; 0: neither -/
def withinI (r : Int) : List In → Int
 | [] => 0
 | i :: l => if hasL (usesI i) r = true then 1 else if defI i = r then 2 else withinI r l
def endReads (b : Bk) (r : Int) : Bool := (b.fin == 2 || b.fin == 3) && b.a == r
def withinB (b : Bk) (k : Nat) (r : Int) : Int := if withinI r (b.ins.drop k) = 0 then (if endReads b r = true then 1 else 0) else withinI r (b.ins.drop k)
theorem drop_cons (l : List In) (k : Nat) (h : k < l.length) : l.drop k = l.getD k default :: l.drop (k + 1) := by
 rw [List.drop_eq_getElem_cons h]; simp [List.getD, h]
theorem withinI_1 (r : Int) (l : List In) (k : Nat) (h : k < l.length) (h1 : hasL (usesI (l.getD k default)) r = true) : withinI r (l.drop k) = 1 := by
 rw [drop_cons l k h]; unfold withinI; rw [if_pos h1]
theorem withinI_2 (r : Int) (l : List In) (k : Nat) (h : k < l.length) (h1 : hasL (usesI (l.getD k default)) r = false) (h2 : defI (l.getD k default) = r) : withinI r (l.drop k) = 2 := by
 rw [drop_cons l k h]; unfold withinI; rw [if_neg (by rw [h1]; exact Bool.false_ne_true), if_pos h2]
theorem withinI_3 (r : Int) (l : List In) (k : Nat) (h : k < l.length) (h1 : hasL (usesI (l.getD k default)) r = false) (h2 : ¬ defI (l.getD k default) = r) : withinI r (l.drop k) = withinI r (l.drop (k + 1)) := by
 rw [drop_cons l k h]; conv => lhs; unfold withinI
 rw [if_neg (by rw [h1]; exact Bool.false_ne_true), if_neg h2]
/-- what a row's instruction is, by value, in every world that has grown out of this one -/
theorem rwithin_c (B : Bk) (V : Value) (k0 : Nat) (r : Int) (w : World) (hv : BkV w V B) (hk0 : k0 ≤ B.ins.length) (hn : B.ins.length ≤ 1000000) (hargs : ∀ k, k < B.ins.length → (B.ins.getD k default).args.length ≤ 1000) :
  Calls Try.prog 92 #[V, .int .i64 (k0 : Int), .int .i64 r] w fun e w' => e = .returned (.int .i64 (withinB B k0 r)) ∧ Below w.heap.size w w' := by
 obtain ⟨ins, fin, a, to, els⟩ := B
 obtain ⟨vi, rfl, hvi⟩ := hv
 have hvi0 := hvi
 obtain ⟨ad, c, rfl, hl1, hl2, -⟩ := hvi
 simp only [] at hk0 hn hargs hvi0 hl1
 have HA := Lib.hid hargs
 have HI := Lib.hid hvi0
 clear hargs hvi0
 go_enter Try.func92, Try.ntmps92
 go_wp2_with fail
 obtain ⟨W0, hW0⟩ : ∃ W0, W0 = w.alloc (.cells #[.slice ad ins.length c, .int .i64 fin, .int .i64 a, .int .i64 to, .int .i64 els] 48) := ⟨_, rfl⟩
 have hbc : ∀ j : Nat, j < 5 → W0.cell? ⟨w.heap.size, j, none⟩ = #[Value.slice ad ins.length c, .int .i64 fin, .int .i64 a, .int .i64 to, .int .i64 els][j]? := fun j _ => by rw [hW0, cell_of_heap (heap_alloc_new w _)]
 have q0 := hbc 0 (by decide)
 have q1 := hbc 1 (by decide)
 have q2 := hbc 2 (by decide)
 simp at q0 q1 q2
 have hz : w.heap.size < W0.heap.size := by rw [hW0]; simp
 have HX : Hid (Ext w W0) := by rw [hW0]; exact Ext.alloc w _
 have HB : Hid (Below w.heap.size w W0) := by rw [hW0]; exact below_alloc w _
 rw [← hW0]
 clear hW0 hbc
 go_loopw [7] (fun i wr => ∃ k : Nat, k ≤ ins.length ∧ i = .int .i64 k ∧ Below W0.heap.size W0 wr ∧ Hid (withinI r (ins.drop k0) = withinI r (ins.drop k))) (fun i _ => ins.length - (intOf i).toNat)
 case atStart => exact ⟨k0, hk0, rfl, Below.refl _ _, rfl⟩
 case round =>
  obtain ⟨k, hk, rfl, hb, HW⟩ := hrel
  obtain ⟨hcr, -⟩ := bcell' hb
  have hzr := hb.size
  by_cases hlt : k < ins.length
  ·have hX := HX.out.trans (Ext.below hb)
   have hI := (HI.out.ext hX).at
   obtain ⟨b, o, va, rfl, hbw, hva, c0, c1, c2, c3, c4, c5, c6, c7, c8, c9, c10⟩ := hI.2 k hlt
   have ha := HA.out k hlt
   have W1 := withinI_1 r ins k hlt
   have W2 := withinI_2 r ins k hlt
   have W3 := withinI_3 r ins k hlt
   generalize ins.getD k default = I at *
   have EU : Hid (∀ w', Below wr.heap.size wr w' → Calls Try.prog 127 #[.agg #[.int .i64 I.op, .int .i64 I.d, .int .i64 I.a, .int .i64 I.b, .int .i64 I.fn, .int .i64 I.obj, .int .i64 I.off, .int .i64 I.size, .int .u32 I.num, va, .bool I.log]] w' (RetI w' (usesI I))) :=
    fun w' h' => ruses_c I _ w' ⟨va, rfl, hva.ext (Ext.below h')⟩ ha
   have ED : Hid (∀ w', Below wr.heap.size wr w' → Calls Try.prog 62 #[.agg #[.int .i64 I.op, .int .i64 I.d, .int .i64 I.a, .int .i64 I.b, .int .i64 I.fn, .int .i64 I.obj, .int .i64 I.off, .int .i64 I.size, .int .u32 I.num, va, .bool I.log]] w' fun e w'' => e = .returned (.int .i64 (defI I)) ∧ Below w'.heap.size w' w'') :=
    fun w' h' => rdef_c I _ w' ⟨va, rfl, hva.ext (Ext.below h')⟩
   have hul : (usesI I).length ≤ 1000000 := by
    unfold usesI
    have := List.length_filter_le (· != -1) I.args
    simp only [List.length_append]
    split <;> split <;> split <;> simp <;> omega
   clear hI hva ha hX
   have hzr' : w.heap.size < wr.heap.size := by omega
   go_wp2_with fail
   refine (EU.out _ (Below.refl _ _)).mono ?_
   rintro e w1 ⟨v1, rfl, ho1, hb1⟩
   obtain ⟨hc1, -⟩ := bcell' hb1
   have EH := fun w' (h' : Below w1.heap.size w1 w') => rhas_c (usesI I) v1 r w' (ho1.rd.ext (Ext.below h')) hul
   have hz1 := hb1.size
   have hz1' : w.heap.size < w1.heap.size := by omega
   cases hh : hasL (usesI I) r
   ·have EH' : Hid (Calls Try.prog 126 #[v1, .int .i64 r] w1 fun e w'' => e = .returned (.bool false) ∧ w1 = w'') := (EH _ (Below.refl _ _)).mono fun _ _ h => ⟨h.1.trans (ret_b hh), h.2⟩
    clear EH ho1 hul
    have hW3 := W3 hh
    have hW2 := W2 hh
    clear W1 W2 W3
    obtain ⟨D, hD⟩ : ∃ D, defI I = D := ⟨_, rfl⟩
    rw [hD] at hW2 hW3
    have ED' : Hid (Calls Try.prog 62 #[.agg #[.int .i64 I.op, .int .i64 I.d, .int .i64 I.a, .int .i64 I.b, .int .i64 I.fn, .int .i64 I.obj, .int .i64 I.off, .int .i64 I.size, .int .u32 I.num, va, .bool I.log]] w1 fun e w'' => e = .returned (.int .i64 D) ∧ Below w1.heap.size w1 w'') := by
     rw [← hD]; exact ED.out _ hb1
    clear hD ED EU hh
    by_cases hd : D = r
    ·have HR := Lib.hid (hW2 hd)
     have hd' : (D == r) = true := beq_iff_eq.2 hd
     clear hW2 hW3 hd
     go_wp2_with (first | (go_at_call 126; refine EH'.out.mono ?_; rintro e w' ⟨rfl, rfl⟩) | (go_at_call 62; refine ED'.out.mono ?_; rintro e w2 ⟨rfl, hb2⟩))
     go_ret
     refine ⟨ret_i ?_, ((HB.out.trans (hb.mono (by omega))).trans (hb1.mono (by omega))).trans (hb2.mono (by omega))⟩
     unfold withinB
     simp only []
     rw [HW.out, HR.out]
     rfl
    ·have HR := Lib.hid (hW3 hd)
     have hd' : (D == r) = false := beq_eq_false_iff_ne.2 hd
     clear hW2 hW3 hd
     go_wp2_with (first | (go_at_call 126; refine EH'.out.mono ?_; rintro e w' ⟨rfl, rfl⟩) | (go_at_call 62; refine ED'.out.mono ?_; rintro e w2 ⟨rfl, hb2⟩))
     go_roundw
     case rel => exact ⟨k + 1, by omega, by go_num, (hb.trans (hb1.mono (by omega))).trans (hb2.mono (by omega)), HW.out.trans HR.out⟩
     case measure => simp [intOf]; omega
   ·have EH' : Hid (Calls Try.prog 126 #[v1, .int .i64 r] w1 fun e w'' => e = .returned (.bool true) ∧ w1 = w'') := (EH _ (Below.refl _ _)).mono fun _ _ h => ⟨h.1.trans (ret_b hh), h.2⟩
    have HR := Lib.hid (W1 hh)
    clear EH ho1 hul hh W1 W2 W3 ED EU
    go_wp2_with (first | (go_at_call 126; refine EH'.out.mono ?_; rintro e w' ⟨rfl, rfl⟩))
    go_ret
    refine ⟨ret_i ?_, (HB.out.trans (hb.mono (by omega))).trans (hb1.mono (by omega))⟩
    unfold withinB
    simp only []
    rw [HW.out, HR.out]
    rfl
  ·have HR : Hid (withinI r (ins.drop k0) = 0) := HW.out.trans (by rw [List.drop_of_length_le (by omega)]; rfl)
   go_wp2
   all_goals
    go_ret
    refine ⟨ret_i ?_, HB.out.trans (hb.mono (by omega))⟩
    unfold withinB endReads
    simp only []
    rw [HR.out]
    simp [*]
end Go.Proofs.Ytnnhobbabcfogaa
