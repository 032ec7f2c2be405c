/-
 The document's: which procedures are small.; The example of law 20, plain.; Outcomes compared; the worked example of layer 14.; Runs with more fuel: what was put out begins with what was; what ended otherwise is the same.; Contracts of the statements' Begins and Same; sizes of what statements go through.; The statements' Does: a module with another procedure in the place of one is right, and its runs that end have the same outcome.
-/
import Derived.Test.YtchoiankeohonaaGreatDoorZInlineAll33
import Derived.Test.YtchoiankeohonaaGreatDoorZInlineAll44
import Derived.Test.YtchoiankeohonaaGreatDoorZInlineAll23
import Derived.Test.YtchoiankeohonaaGreatDoorZInlineAll10
import Derived.Test.YtchoiankeohonaaGreatDoorZInlineAll04
import Derived.Test.YtchoiankeohonaaGreatDoorZInlineAll46
import Derived.Test.YtchoiankeohonaaGreatDoorZInlineAll01
import Derived.Test.YtchoiankeohonaaGreatDoorZInlineAll22
import Derived.Test.YtchoiankeohonaaGreatDoorZInlineAll07

set_option linter.all false
namespace Go.Proofs.YtchoiankeohonaaGreatDoor
open Go.ChangeShapes Go.WideShapes Go.ChangeAt Go.RowKit
set_option maxHeartbeats 4000000
set_option maxRecDepth 100000
set_option linter.unusedVariables false

theorem rsize20_c (p : Pr) (V : Value) (w : World) (hP : PrV w V p) (hs : SzP p) :
  Calls Tryz.prog 19 #[V] w fun e w' => e = .returned (.int .i64 ((p.blks.length : Int) + (insN p : Int))) ∧ Below w.heap.size w w' := by
 obtain ⟨nm, vo, vb, rfl, ⟨ao, co, rfl, -⟩, hvb⟩ := hP
 have hvb' := hvb
 obtain ⟨ab, cb, rfl, h1, h2, -⟩ := hvb'
 have HBk := Lib.hid (RdBks.at hvb).2
 clear hvb
 unfold maxLen at h2
 have hbl := hs.blks
 have HSz := Lib.hid (fun k => insS_take_le p.blks k hs.ins hbl)
 have HIn : Hid (insN p = insS p.blks) := rfl
 obtain ⟨W0, hW0⟩ : ∃ W0, W0 = w.alloc (.cells #[.string nm, .bool p.void, .int .i64 p.params, .int .i64 p.regs, .slice ao p.objs.length co, .slice ab p.blks.length cb] 35) := ⟨_, rfl⟩
 have B0 : Hid (Below w.heap.size w W0) := by rw [hW0]; exact below_alloc w _
 have H0 := Lib.hid (heap_of_alloc w _ _ hW0)
 have HW0 := Lib.hid hW0
 clear hW0
 go_enter Tryz.func19, Tryz.ntmps19
 go_wp2_with fail
 rw [← HW0.out]
 clear HW0
 go_loopw [3, 4] (fun n i wr => ∃ k : Nat, k ≤ p.blks.length ∧ i = .int .i64 (k : Int) ∧ n = .int .i64 ((p.blks.length : Int) + (insS (p.blks.take k) : Int)) ∧ Hid (Below w.heap.size w wr) ∧ Hid (Below W0.heap.size W0 wr)) (fun _ i _ => p.blks.length - (intOf i).toNat)
 case atStart => exact ⟨0, Nat.zero_le _, rfl, by simp [insS], B0, Below.refl _ _⟩
 case round =>
  clear B0
  obtain ⟨k, hk, rfl, rfl, hB, hB0⟩ := hrel
  have h0 := (hB0.out.block _ (Array.getElem?_eq_some_iff.1 H0.out).1).trans H0.out
  obtain ⟨x0, x1, x2, x3, x4, x5, lx⟩ := cl6 h0
  by_cases hlt : k < p.blks.length
  ·obtain ⟨b, o, vi, rfl, ⟨ai, ci, rfl, hi1, hi2, -⟩, c0, c1, c2, c3, c4⟩ := HBk.out k hlt
   replace c0 := Ext.below hB.out _ _ c0
   have lb := World.block_lt_of_cell? wr _ c0
   have hst := insS_take p.blks k hlt
   have hs1 := HSz.out (k + 1)
   have hs0 := HSz.out k
   rw [hst] at hs1
   have HST := Lib.hid hst
   clear hst c1 c2 c3 c4
   generalize insS (p.blks.take k) = S at hs0 hs1 HST ⊢
   generalize p.blks.getD k default = K at *
   unfold maxLen at hi2
   go_wp2_with fail
   go_roundw
   case rel => exact ⟨k + 1, by omega, by go_num, by rw [HST.out]; congr 1; omega, hB, hB0⟩
   case measure => simp [intOf]; omega
  ·obtain rfl : k = p.blks.length := by omega
   go_wp2_with fail
   go_ret
   exact ⟨ret_i (by rw [HIn.out, List.take_length]), hB.out⟩
theorem rsmall_c (p : Pr) (V : Value) (w : World) (hP : PrV w V p) (hs : SzP p) :
  Calls Tryz.prog 8 #[V] w fun e w' => e = .returned (.bool (smallP p)) ∧ Below w.heap.size w w' := by
 have HSP := Lib.hid (small_is p)
 have hPe := hP
 obtain ⟨nm, vo, vb, rfl, hvo, hvb⟩ := hP
 have HZ : Hid (∀ w', Ext w w' → Calls Tryz.prog 19 #[.agg #[.string nm, .bool p.void, .int .i64 p.params, .int .i64 p.regs, vo, vb]] w' fun e w'' => e = .returned (.int .i64 ((p.blks.length : Int) + (insN p : Int))) ∧ Below w'.heap.size w' w'') := fun w' he => rsize20_c p _ w' (hPe.ext he) hs
 clear hPe
 obtain ⟨ao, co, rfl, ho1, ho2, -⟩ := hvo
 have hvb' := hvb
 obtain ⟨ab, cb, rfl, h1, h2, -⟩ := hvb'
 have HBk := Lib.hid (RdBks.at hvb).2
 have HIL : Hid (∀ b ∈ p.blks, b.ins.length ≤ 100000) := hs.ins
 have hbl := hs.blks
 clear hvb hs
 unfold maxLen at h2 ho2
 obtain ⟨W0, hW0⟩ : ∃ W0, W0 = w.alloc (.cells #[.string nm, .bool p.void, .int .i64 p.params, .int .i64 p.regs, .slice ao p.objs.length co, .slice ab p.blks.length cb] 35) := ⟨_, rfl⟩
 have B0 : Hid (Below w.heap.size w W0) := by rw [hW0]; exact below_alloc w _
 have H0 := Lib.hid (heap_of_alloc w _ _ hW0)
 have HW0 := Lib.hid hW0
 clear hW0
 go_enter Tryz.func8, Tryz.ntmps8
 go_wp2_with fail
 rw [← HW0.out]
 clear HW0
 obtain ⟨x0, x1, x2, x3, x4, x5, lx⟩ := cl6 H0.out
 go_loopw [3] (fun i wr => ∃ k : Nat, k ≤ p.blks.length ∧ i = .int .i64 (k : Int) ∧ wr = W0 ∧ Hid (∀ j : Nat, j < k → ((p.blks.getD j default).ins.any fun i => i.op == 9) = false)) (fun i _ => p.blks.length - (intOf i).toNat)
 case atStart => exact ⟨0, Nat.zero_le _, rfl, rfl, fun j hj => absurd hj (Nat.not_lt_zero j)⟩
 case round =>
  obtain ⟨k, hk, rfl, rfl, hN⟩ := hrel
  by_cases hlt : k < p.blks.length
  ·obtain ⟨b, o, vi, rfl, hvi, c0, c1, c2, c3, c4⟩ := HBk.out k hlt
   have hE : Ext w wr := Ext.below B0.out
   replace c0 := hE _ _ c0
   have HVI := Lib.hid (hvi.ext hE)
   have hil := HIL.out (p.blks.getD k default) (getD_in hlt)
   obtain ⟨ai, ci, rfl, hi1, hi2, -⟩ := hvi
   have lb := World.block_lt_of_cell? wr _ c0
   unfold maxLen at hi2
   have HNX : Hid (((p.blks.getD k default).ins.any fun i => i.op == 9) = false → ∀ j : Nat, j < k + 1 → ((p.blks.getD j default).ins.any fun i => i.op == 9) = false) := fun h j hj => by
    by_cases e : j = k
    ·subst e; exact h
    ·exact hN.out j (by omega)
   have HYA : Hid (((p.blks.getD k default).ins.any fun i => i.op == 9) = true → (p.blks.any fun b => b.ins.any fun i => i.op == 9) = true) := fun h => List.any_eq_true.2 ⟨_, getD_in hlt, h⟩
   clear hE c1 c2 c3 c4 hN
   generalize p.blks.getD k default = K at *
   have HIA := Lib.hid (RdIns.at HVI.out).2
   go_wp2_with fail
   go_loopw [4] (fun i w2 => ∃ l : Nat, l ≤ K.ins.length ∧ i = .int .i64 (l : Int) ∧ w2 = wr ∧ Hid (∀ j : Nat, j < l → ((K.ins.getD j default).op == 9) = false)) (fun i _ => K.ins.length - (intOf i).toNat)
   case atStart => exact ⟨0, Nat.zero_le _, rfl, rfl, fun j hj => absurd hj (Nat.not_lt_zero j)⟩
   case round =>
    obtain ⟨l, hl, rfl, rfl, hM⟩ := hrel
    by_cases hlk : l < K.ins.length
    ·obtain ⟨b2, o2, va, rfl, hlb2, -, d0, -⟩ := HIA.out l hlk
     have HO : Hid (((K.ins.getD l default).op == 9) = true → (K.ins.any fun i => i.op == 9) = true) := fun h => List.any_eq_true.2 ⟨_, getD_in hlk, h⟩
     have HM2 : Hid (((K.ins.getD l default).op == 9) = false → ∀ j : Nat, j < l + 1 → ((K.ins.getD j default).op == 9) = false) := fun h j hj => by
      by_cases e : j = l
      ·subst e; exact h
      ·exact hM.out j (by omega)
     generalize (K.ins.getD l default).op = oo at *
     cases h9 : (oo == 9)
     ·have HM2 := Lib.hid (HM2.out h9)
      go_wp2_with fail
      go_roundw
      case rel => exact ⟨l + 1, by omega, by go_num, trivial, HM2⟩
      case measure => simp [intOf]; omega
     ·have HA := Lib.hid (HYA.out (HO.out h9))
      go_wp2_with fail
      go_ret
      exact ⟨ret_b (by rw [HSP.out, HA.out]; simp), B0.out⟩
    ·obtain rfl : l = K.ins.length := by omega
     have HKA : Hid ((K.ins.any fun i => i.op == 9) = false) := by
      show _ = _
      rw [List.any_eq_false]
      intro x hx
      obtain ⟨j, hj, rfl⟩ := List.getElem_of_mem hx
      have := hM.out j hj
      simpa [List.getD, hj] using this
     have HNX := Lib.hid (HNX.out HKA.out)
     go_wp2_with fail
     go_roundw
     case rel => exact ⟨k + 1, by omega, by go_num, trivial, HNX⟩
     case measure => simp [intOf]; omega
  ·obtain rfl : k = p.blks.length := by omega
   have HA : Hid ((p.blks.any fun b => b.ins.any fun i => i.op == 9) = false) := by
    show _ = _
    rw [List.any_eq_false]
    intro x hx
    obtain ⟨j, hj, rfl⟩ := List.getElem_of_mem hx
    have := hN.out j hj
    simpa [List.getD, hj] using this
   have HS2 : Hid (smallP p = (decide (p.objs.length = 0) && decide (p.blks.length + insN p ≤ 24))) := by show _ = _; rw [HSP.out, HA.out]; simp
   by_cases ho : p.objs.length = 0
   ·have g1 : ((p.objs.length : Int) == 0) = true := beq_iff_eq.2 (by omega)
    have HO := Lib.hid ho
    have g2 : decide ((p.blks.length : Int) + (insN p : Int) ≤ 24) = decide (p.blks.length + insN p ≤ 24) := by
     by_cases z : p.blks.length + insN p ≤ 24
     ·rw [decide_eq_true z, decide_eq_true (by omega)]
     ·rw [decide_eq_false z, decide_eq_false (by omega)]
    have HG := Lib.hid g2
    clear ho g2
    go_wp2_with fail
    refine (HZ.out wr (Ext.below B0.out)).mono ?_
    rintro e w2 ⟨rfl, hb2⟩
    have BB := Lib.hid (B0.out.trans (hb2.mono B0.out.size))
    clear hb2
    go_wp2_with fail
    go_ret
    exact ⟨ret_b (by rw [HS2.out, HG.out, decide_eq_true HO.out]; rfl), BB.out⟩
   ·have g1 : ((p.objs.length : Int) == 0) = false := beq_eq_false_iff_ne.2 (by omega)
    have HO := Lib.hid ho
    clear ho
    go_wp2_with fail
    go_ret
    exact ⟨ret_b (by rw [HS2.out, decide_eq_false HO.out]; rfl), B0.out⟩
end Go.Proofs.YtchoiankeohonaaGreatDoor

set_option linter.all false
namespace Go.Proofs.YtchoiankeohonaaGreatDoor
set_option maxRecDepth 100000

def jF : Pr := ⟨false, 1, 2, [], [⟨[⟨1, 1, -1, -1, 0, 0, 0, 0, 1, [], false⟩, ⟨3, 1, 0, 1, 1, 0, 0, 0, 0, [], false⟩], 3, 1, 0, 0⟩]⟩
def jM : Pr := ⟨false, 0, 2, [], [⟨[⟨11, 0, -1, -1, 0, 0, 0, 0, 0, [], false⟩, ⟨9, 1, -1, -1, 0, 1, 0, 0, 0, [0], false⟩], 3, 1, 0, 0⟩]⟩
def jMd : Md := ⟨[], [], [jM, jF], 0⟩
theorem j_ok : okM jMd = true := by decide +kernel
theorem j_small : smallP jF = true := by decide +kernel
theorem j_inl : (inlP jMd jM).blks.length = 3 ∧ (inlP jMd jM).regs = 4 := by decide +kernel
theorem j_run : (playM (withM jMd 0 (inlP jMd jM)) [4] 100).exit = 5 := by decide +kernel
theorem j_sz : SzM jMd := ⟨fun p hp => by
 simp only [jMd, List.mem_cons, List.not_mem_nil, or_false] at hp
 rcases hp with rfl | rfl
 ·refine ⟨by decide, fun b hb => ?_⟩
  simp only [jM, List.mem_singleton] at hb
  subst hb; decide
 ·refine ⟨by decide, fun b hb => ?_⟩
  simp only [jF, List.mem_singleton] at hb
  subst hb; decide⟩
theorem j_md : MdOk jMd := by
 refine ⟨(fun s hs => by cases hs), (fun d hd => by cases hd), fun p hp => ?_, by unfold I64; decide⟩
 simp only [jMd, List.mem_cons, List.not_mem_nil, or_false] at hp
 rcases hp with rfl | rfl
 ·refine ⟨by unfold I64; decide, by unfold I64; decide, (fun s hs => by cases hs), fun b hb => ?_⟩
  simp only [jM, List.mem_singleton] at hb; subst hb
  refine ⟨fun i hi => ?_, by unfold I64; decide, by unfold I64; decide, by unfold I64; decide, by unfold I64; decide⟩
  simp only [List.mem_cons, List.not_mem_nil, or_false] at hi
  rcases hi with rfl | rfl
  ·exact ⟨by unfold I64; decide, by unfold I64; decide, by unfold I64; decide, by unfold I64; decide, by unfold I64; decide, by unfold I64; decide, by unfold I64; decide, by unfold I64; decide, by decide, (fun x hx => by cases hx)⟩
  ·refine ⟨by unfold I64; decide, by unfold I64; decide, by unfold I64; decide, by unfold I64; decide, by unfold I64; decide, by unfold I64; decide, by unfold I64; decide, by unfold I64; decide, by decide, fun x hx => ?_⟩
   simp only [List.mem_singleton] at hx
   subst hx; unfold I64; decide
 ·refine ⟨by unfold I64; decide, by unfold I64; decide, (fun s hs => by cases hs), fun b hb => ?_⟩
  simp only [jF, List.mem_singleton] at hb; subst hb
  refine ⟨fun i hi => ?_, by unfold I64; decide, by unfold I64; decide, by unfold I64; decide, by unfold I64; decide⟩
  simp only [List.mem_cons, List.not_mem_nil, or_false] at hi
  rcases hi with rfl | rfl
  all_goals exact ⟨by unfold I64; decide, by unfold I64; decide, by unfold I64; decide, by unfold I64; decide, by unfold I64; decide, by unfold I64; decide, by unfold I64; decide, by unfold I64; decide, by decide, (fun x hx => by cases hx)⟩
theorem j_inv : InlI jMd (pk jMd 0) (pk jMd 0) := InlI.start (okM_proc j_ok (by decide)) (j_md.procs _ (List.mem_cons_self ..)) (by decide +kernel)
end Go.Proofs.YtchoiankeohonaaGreatDoor

set_option linter.all false
namespace Go.Proofs.YtchoiankeohonaaGreatDoor
open Go.ChangeShapes Go.WideShapes Go.ChangeAt Go.RowKit
set_option maxHeartbeats 8000000
set_option linter.unusedVariables false
set_option maxRecDepth 100000

end Go.Proofs.YtchoiankeohonaaGreatDoor

set_option linter.all false
namespace Go.Proofs.YtchoiankeohonaaGreatDoor
set_option linter.unusedVariables false

/-- a later outcome: what was put out stays at the beginning -/
structure Later (a b : Oc) : Prop where
 out : a.out <+: b.out
 ins : a.ins ≤ b.ins
theorem Later.trans {a b c : Oc} (h : Later a b) (k : Later b c) : Later a c := ⟨h.out.trans k.out, Int.le_trans h.ins k.ins⟩
end Go.Proofs.YtchoiankeohonaaGreatDoor

set_option linter.all false
namespace Go.Proofs.YtchoiankeohonaaGreatDoor
open Go.ChangeShapes Go.WideShapes Go.ChangeAt Go.RowKit
set_option maxHeartbeats 8000000
set_option linter.unusedVariables false
set_option maxRecDepth 100000

theorem below_drewNr {B : Nat} {w w1 : World} (h : Below B w w1) (n : Nat) : Below B w (w1.drewN n) := ⟨h.os, h.tape, h.output, h.size, h.block⟩
theorem prefix_at {a b : List Int} (h : a <+: b) (i : Nat) (hi : i < a.length) : a.getD i 0 = b.getD i 0 := by
 obtain ⟨t, rfl⟩ := h
 rw [List.getD, List.getD, List.getElem?_append_left hi]
theorem begins_yes (a b : List Int) (va vb : Value) (w : World) (ha : RdW w va a) (hb : RdW w vb b) (hp : a <+: b) :
  Calls Tryz.prog 29 #[va, vb] w fun e w' => e = .returned (.bool true) ∧ Below w.heap.size w w' := by
 obtain ⟨aa, ca, rfl, h1, h2, h3⟩ := ha
 obtain ⟨ab, cb, rfl, h1', h2', h3'⟩ := hb
 unfold maxLen at h2 h2'
 have H := Lib.hid h3
 have H' := Lib.hid h3'
 have hl := hp.length_le
 have HP := Lib.hid hp
 have g0 : decide ((b.length : Int) < (a.length : Int)) = false := decide_eq_false (by omega)
 have g1 : decide (b.length < a.length) = false := decide_eq_false (by omega)
 clear h3 h3' hp
 go_enter Tryz.func29, Tryz.ntmps29
 go_wp2_with fail
 go_loopw [5] (fun i wr => ∃ k : Nat, k ≤ a.length ∧ i = .int .i64 (k : Int) ∧ Hid (Below w.heap.size w wr)) (fun i _ => a.length - (intOf i).toNat)
 case atStart => exact ⟨0, Nat.zero_le _, rfl, Below.refl _ _⟩
 case round =>
  obtain ⟨k, hk, rfl, hB⟩ := hrel
  by_cases hlt : k < a.length
  ·obtain ⟨ba, oa, rfl, hc⟩ := H.out k hlt
   obtain ⟨bb, ob, rfl, hc'⟩ := H'.out k (by omega)
   simp only [Nat.mul_one, Nat.add_zero] at hc hc'
   replace hc := Ext.below hB.out _ _ hc
   replace hc' := Ext.below hB.out _ _ hc'
   rw [← prefix_at HP.out k hlt] at hc'
   have hlb : k < b.length := by omega
   generalize a.getD k 0 = x at *
   go_wp2_with fail
   go_quiet (fail)
   go_wp2_with fail
   go_roundw
   case rel => exact ⟨k + 1, by omega, by go_num, below_drewNr hB.out _⟩
   case measure => simp [intOf]; omega
  ·go_wp2_with fail
   go_ret
   exact ⟨rfl, hB.out⟩
theorem OutV.rd {B : Nat} {w w' : World} {v : Value} {o : Oc} (h : OutV B w v o) (he : Below w.heap.size w w') : ∃ a c, v = .agg #[.slice a o.out.length c, .int .i64 o.ins, .int .u32 o.exit, .int .i64 o.e] ∧ RdW w' (.slice a o.out.length c) o.out := by
 obtain ⟨vo, rfl, ho⟩ := h
 obtain ⟨a, c, rfl⟩ := row_shape ho
 exact ⟨a, c, rfl, own_rows 0 (own_below ho he)⟩
/-- the same outcome is the same -/
theorem same_yes (o : Oc) (a b : Option Addr) (c d : Nat) (w : World) (ha : RdW w (.slice a o.out.length c) o.out) (hb : RdW w (.slice b o.out.length d) o.out) :
  Calls Tryz.prog 12 #[.agg #[.slice a o.out.length c, .int .i64 o.ins, .int .u32 o.exit, .int .i64 o.e], .agg #[.slice b o.out.length d, .int .i64 o.ins, .int .u32 o.exit, .int .i64 o.e]] w fun e w' => e = .returned (.bool true) ∧ Below w.heap.size w w' := by
 have HB := Lib.hid (fun w' (he : Ext w w') => begins_yes o.out o.out _ _ w' (ha.ext he) (hb.ext he) (List.prefix_refl _))
 clear ha hb
 generalize o.out.length = n at *
 generalize o.ins = x at *
 generalize o.exit = y at *
 generalize o.e = z at *
 go_enter Tryz.func12, Tryz.ntmps12
 go_wp2_with fail
 have hb2 : Below w.heap.size w ((w.alloc (.cells #[.slice a n c, .int .i64 x, .int .u32 y, .int .i64 z] 41)).alloc (.cells #[.slice b n d, .int .i64 x, .int .u32 y, .int .i64 z] 41)) := (below_alloc w _).trans ((below_alloc _ _).mono (by simp))
 refine (HB.out _ (Ext.below hb2)).mono ?_
 rintro e w3 ⟨rfl, hb3⟩
 have h0 : w3.heap[w.heap.size]? = some (.cells #[.slice a n c, .int .i64 x, .int .u32 y, .int .i64 z] 41 (0, 0)) :=
  (hb3.block w.heap.size (by simp; omega)).trans ((allocs_heap [.cells #[.slice a n c, .int .i64 x, .int .u32 y, .int .i64 z] 41, .cells #[.slice b n d, .int .i64 x, .int .u32 y, .int .i64 z] 41] w 0 (by simp)))
 have h1 : w3.heap[w.heap.size + 1]? = some (.cells #[.slice b n d, .int .i64 x, .int .u32 y, .int .i64 z] 41 (0, 0)) :=
  (hb3.block (w.heap.size + 1) (by simp)).trans ((allocs_heap [.cells #[.slice a n c, .int .i64 x, .int .u32 y, .int .i64 z] 41, .cells #[.slice b n d, .int .i64 x, .int .u32 y, .int .i64 z] 41] w 1 (by simp)))
 have a1 := cell_of_heap h0 1
 have a2 := cell_of_heap h0 2
 have a3 := cell_of_heap h0 3
 have b1 := cell_of_heap h1 1
 have b2 := cell_of_heap h1 2
 have b3 := cell_of_heap h1 3
 simp only [List.getElem?_toArray, List.getElem?_cons_zero, List.getElem?_cons_succ] at a1 a2 a3 b1 b2 b3
 have l0 : w.heap.size < w3.heap.size := (Array.getElem?_eq_some_iff.1 h0).1
 have l1 : w.heap.size + 1 < w3.heap.size := (Array.getElem?_eq_some_iff.1 h1).1
 have hbe := Lib.hid (hb2.trans (hb3.mono hb2.size))
 clear h0 h1 hb3 hb2
 go_wp2_with fail
 go_ret
 exact ⟨rfl, hbe.out⟩
theorem few_sz {m : Md} (h : fewM m = true) : SzM m := by
 unfold fewM at h
 simp only [Bool.and_eq_true, List.all_eq_true] at h
 refine ⟨fun p hp => ?_⟩
 have h2 := h.2.2.2 p hp
 unfold prF at h2
 simp only [Bool.and_eq_true, decide_eq_true_eq, List.all_eq_true] at h2
 refine ⟨by omega, fun b hb => ?_⟩
 have h3 := h2.2.2 b hb
 unfold blkF at h3
 simp only [Bool.and_eq_true, decide_eq_true_eq] at h3
 omega
end Go.Proofs.YtchoiankeohonaaGreatDoor

set_option linter.all false
namespace Go.Proofs.YtchoiankeohonaaGreatDoor
open Go.ChangeShapes Go.WideShapes Go.ChangeAt Go.RowKit
set_option maxHeartbeats 4000000
set_option maxRecDepth 100000
set_option linter.unusedVariables false

theorem OutV.same {B : Nat} {w : World} {v : Value} {o o' : Oc} (h : OutV B w v o') (hs : SameO o o') : OutV B w v o := by
 obtain ⟨vo, rfl, ho⟩ := h
 exact ⟨vo, by rw [hs.ins, hs.exit, hs.e], by rw [hs.out]; exact ho⟩
theorem OutV.grow {B : Nat} {w w' : World} {v : Value} {o : Oc} (h : OutV B w v o) (hb : Below w.heap.size w w') : OutV B w' v o := by
 obtain ⟨vo, rfl, ho⟩ := h
 exact ⟨vo, rfl, own_below ho hb⟩
theorem okE_ok {m : Md} (h : okM m = true) : okE m = 0 := by unfold okE; rw [h]; rfl
theorem clamp60 : (clampF 60000).toNat = 60000 := by decide
theorem clamp3 : (clampF 3000).toNat = 3000 := by decide
end Go.Proofs.YtchoiankeohonaaGreatDoor
