/-
 Steps: the walks; a map of numbers to numbers.; Where a block leads in the end, the document's way: the walk.
-/
import Derived.Test.YtnnhobbabcfogaaDoorZDeadDrops36
import Derived.Test.YtnnhobbabcfogaaDoorZDeadDrops27
import Derived.Test.YtnnhobbabcfogaaDoorZDeadDrops18
import Derived.Maps.Own
import Derived.Maps.OwnOps
import Derived.Maps.Views
import Derived.Maps.OwnSet
import Derived.Deep.Cut

set_option linter.all false
namespace Go.Proofs.YtnnhobbabcfogaaDoor
open Go.ChangeShapes Go.WideShapes Go.ChangeAt Go.RowKit Go.Maps
set_option maxHeartbeats 2000000
set_option linter.unusedVariables false
set_option maxRecDepth 20000

theorem stepB_eq (p : Pr) (n : Nat) : stepB p n = ((((bkAt p n).ins.length : Int) == 0) && (((bkAt p n).fin == 1) && ((bkAt p n).to != (n : Int)))) := rfl
theorem step_c (p : Pr) (v : Value) (n : Nat) (w : World) (hP : PrV w v p) (hn : n < p.blks.length) (hl : p.blks.length ≤ 1000000) :
  Calls Tryd.prog 67 #[v, .int .i64 (n : Int)] w fun e w' => e = .returned (.bool (stepB p n)) ∧ Below w.heap.size w w' := by
 obtain ⟨nm, vo, vb, rfl, -, hvb⟩ := hP
 have hvb' := hvb
 obtain ⟨ab, cb, rfl, h1, h2, -⟩ := hvb'
 unfold maxLen at h2
 obtain ⟨b, o, vi, rfl, hvi, c0, c1, c2, c3, c4⟩ := (RdBks.at hvb).2 n hn
 clear hvb
 have HS := Lib.hid (stepB_eq p n)
 unfold bkAt at HS
 generalize p.blks.getD n default = K at *
 obtain ⟨ai, ci, rfl, hi1, hi2, -⟩ := hvi
 unfold maxLen at hi2
 have hbl : b < w.heap.size := World.block_lt_of_cell? w _ c0
 cases t1 : (((K.ins.length : Int) == 0))
 ·have HR : Hid (stepB p n = false) := by show _ = _; rw [HS.out, t1]; rfl
  clear HS
  go_enter Tryd.func67, Tryd.ntmps67
  go_wp2_with fail
  go_ret
  exact ⟨by rw [HR.out]; rfl, (Below.refl _ _).alloc (Nat.le_refl _) _ |>.alloc (by simp) _⟩
 ·cases t2 : (K.fin == 1)
  ·have HR : Hid (stepB p n = false) := by show _ = _; rw [HS.out, t1, t2]; rfl
   clear HS
   go_enter Tryd.func67, Tryd.ntmps67
   go_wp2_with fail
   go_ret
   exact ⟨by rw [HR.out]; rfl, (Below.refl _ _).alloc (Nat.le_refl _) _ |>.alloc (by simp) _⟩
  ·cases t3 : (K.to != (n : Int))
   ·have HR : Hid (stepB p n = false) := by show _ = _; rw [HS.out, t1, t2, t3]; rfl
    clear HS
    go_enter Tryd.func67, Tryd.ntmps67
    go_wp2_with fail
    go_ret
    exact ⟨by rw [HR.out]; rfl, (Below.refl _ _).alloc (Nat.le_refl _) _ |>.alloc (by simp) _⟩
   ·have HR : Hid (stepB p n = true) := by show _ = _; rw [HS.out, t1, t2, t3]; rfl
    clear HS
    go_enter Tryd.func67, Tryd.ntmps67
    go_wp2_with fail
    go_ret
    exact ⟨by rw [HR.out]; rfl, (Below.refl _ _).alloc (Nat.le_refl _) _ |>.alloc (by simp) _⟩
theorem rstep_c (p : Pr) (v : Value) (n : Nat) (w : World) (hP : PrV w v p) (hn : n < p.blks.length) (hl : p.blks.length ≤ 1000000) :
  Calls Tryd.prog 69 #[v, .int .i64 (n : Int)] w fun e w' => e = .returned (.bool (stepB p n)) ∧ Below w.heap.size w w' := by
 obtain ⟨nm, vo, vb, rfl, -, hvb⟩ := hP
 have hvb' := hvb
 obtain ⟨ab, cb, rfl, h1, h2, -⟩ := hvb'
 unfold maxLen at h2
 obtain ⟨b, o, vi, rfl, hvi, c0, c1, c2, c3, c4⟩ := (RdBks.at hvb).2 n hn
 clear hvb
 have HS := Lib.hid (stepB_eq p n)
 unfold bkAt at HS
 generalize p.blks.getD n default = K at *
 obtain ⟨ai, ci, rfl, hi1, hi2, -⟩ := hvi
 unfold maxLen at hi2
 have hbl : b < w.heap.size := World.block_lt_of_cell? w _ c0
 cases t1 : (((K.ins.length : Int) == 0))
 ·have HR : Hid (stepB p n = false) := by show _ = _; rw [HS.out, t1]; rfl
  clear HS
  go_enter Tryd.func69, Tryd.ntmps69
  go_wp2_with fail
  go_ret
  exact ⟨by rw [HR.out]; rfl, (Below.refl _ _).alloc (Nat.le_refl _) _ |>.alloc (by simp) _⟩
 ·cases t2 : (K.fin == 1)
  ·have HR : Hid (stepB p n = false) := by show _ = _; rw [HS.out, t1, t2]; rfl
   clear HS
   go_enter Tryd.func69, Tryd.ntmps69
   go_wp2_with fail
   go_ret
   exact ⟨by rw [HR.out]; rfl, (Below.refl _ _).alloc (Nat.le_refl _) _ |>.alloc (by simp) _⟩
  ·cases t3 : (K.to != (n : Int))
   ·have HR : Hid (stepB p n = false) := by show _ = _; rw [HS.out, t1, t2, t3]; rfl
    clear HS
    go_enter Tryd.func69, Tryd.ntmps69
    go_wp2_with fail
    go_ret
    exact ⟨by rw [HR.out]; rfl, (Below.refl _ _).alloc (Nat.le_refl _) _ |>.alloc (by simp) _⟩
   ·have HR : Hid (stepB p n = true) := by show _ = _; rw [HS.out, t1, t2, t3]; rfl
    clear HS
    go_enter Tryd.func69, Tryd.ntmps69
    go_wp2_with fail
    go_ret
    exact ⟨by rw [HR.out]; rfl, (Below.refl _ _).alloc (Nat.le_refl _) _ |>.alloc (by simp) _⟩

def intR : Value → Option (DataW Unit × List MemPlace)
 | .int .i64 z => some (.lit (.int .i64 z), [])
 | _ => none
theorem intR_inv {v : Value} {z : Int} {ps : List MemPlace} (h : intR v = some (.lit (.int .i64 z), ps)) : v = .int .i64 z := by
 unfold intR at h
 split at h
 ·simp only [Option.some.injEq, Prod.mk.injEq, DataW.lit.injEq, Lit.int.injEq, true_and] at h
  rw [h.1]
 ·cases h
/-- block b is a map of numbers to numbers, of at most n entries -/
def MapI (w : World) (b n : Nat) (M : Int → Option Int) : Prop :=
 ∃ D, w.ownsMap Tryd.prog 3 intR b n D ∧ IsMap D ∧ ∀ x, Maps.has D (.int .i64 x) = (M x).isSome ∧ D.atKey (.int .i64 x) (.lit (.int .i64 0)) = .lit (.int .i64 ((M x).getD 0))
theorem lawI : Keyed Tryd.prog 3 := int_keyed Tryd.underlying3
theorem zeroI (w : World) : (zeroValue 3).run Tryd.prog w = .ok (.int .i64 0) w := by kernel_rfl
theorem MapI.made (w : World) : MapI (w.alloc (.map #[] 0)) w.heap.size 0 (fun _ => none) :=
 ⟨.map [], World.ownsMap_made _ _ _ _, isMap_empty, fun _ => ⟨rfl, rfl⟩⟩
theorem MapI.kept {w w' : World} {b n : Nat} {M : Int → Option Int} {row : Option Nat} (h : MapI w b n M) (hg : w.grownBy w' row) (hr : some b ≠ row) : MapI w' b n M := by
 obtain ⟨D, h1, h2, h3⟩ := h
 exact ⟨D, h1.kept hg hr, h2, h3⟩
theorem MapI.grow {w w' : World} {b n : Nat} {M : Int → Option Int} (h : MapI w b n M) (hb : Below w.heap.size w w') : MapI w' b n M :=
 h.kept (row := none) ⟨hb.os, hb.tape, hb.output, hb.size, fun k hk _ => hb.block k hk⟩ (by simp)
theorem MapI.look {w : World} {b n : Nat} {M : Int → Option Int} (h : MapI w b n M) (x : Int) (hx : (Lit.int .i64 x).wf = true) : (Instr.lookup 92 (.map (some b)) (.int .i64 x) true).run Tryd.prog w = .ok (.tuple #[.int .i64 ((M x).getD 0), .bool (M x).isSome]) w := by
 obtain ⟨D, h1, h2, h3⟩ := h
 obtain ⟨v, ps, hr, hv⟩ := h1.look_ok lawI Tryd.underlying92 (zeroI w) (zd := .lit (.int .i64 0)) (zp := []) rfl (keyOf_int_mk Tryd.underlying3 hx)
 rw [(h3 x).2] at hv
 rw [hr, (h3 x).1, intR_inv hv]
theorem MapI.put {ops : Array Oper} {rest : List Oper} {o : Oper} {a : Act} {Q : Exit → Act → World → Prop} {w : World} {b n : Nat} {M : Int → Option Int} (h : MapI w b n M) (x z : Int) (hx : (Lit.int .i64 x).wf = true) (hn : n < maxLen)
  (hg : o.guard = none) (m k v : Operand) (hop : o.op = Op.mapUpdate 92 m k v) (hm : a.eval m = .map (some b)) (hk : a.eval k = .int .i64 x) (hv : a.eval v = .int .i64 z)
  (hK : ∀ w', MapI w' b (n + 1) (fun y => if y = x then some z else M y) → w.grownBy w' (some b) → wpList Tryd.prog ops Q rest (a.put o.dst undef) w') : wpList Tryd.prog ops Q (o :: rest) a w := by
 obtain ⟨D, h1, h2, h3⟩ := h
 refine wpList_mapUpdate_own w hg m k v 92 hop 3 3 lawI Tryd.underlying92 intR b n D hm h1 hn _ _ (.int .i64 x) hk hv (keyOf_int_mk Tryd.underlying3 hx) (.lit (.int .i64 z)) [] rfl ?_
 intro w' h1' hgr
 refine hK w' ⟨_, h1', h2.put _ _, fun y => ?_⟩ hgr
 by_cases e : y = x
 ·subst e
  dsimp only
  rw [if_pos rfl, atKey_put_same h2 (by trivial), has_put_same h2 (by trivial)]
  exact ⟨rfl, rfl⟩
 ·have hne : (Lit.int .i64 y) ≠ Lit.int .i64 x := by intro e2; simp only [Lit.int.injEq] at e2; exact e e2.2
  dsimp only
  rw [if_neg e, atKey_put_other hne, has_put_other hne]
  exact h3 y
theorem wf_i64' (x : Int) (h : -9223372036854775808 ≤ x) (h' : x ≤ 9223372036854775807) : (Lit.int .i64 x).wf = true := WalkArith.wf_i64 (by omega)
theorem MapI.ne {w : World} {b n B m g s : Nat} {e : TypeId} {M : Int → Option Int} {v : Value} {xs : List Value} (h : MapI w b n M) (ho : w.ownsRow B e s v m xs) : some b ≠ v.ownBlock := by
 obtain ⟨D, h1, -, -⟩ := h
 intro e2
 obtain ⟨-, ⟨rfl, -⟩ | ⟨g', cap, cur, rfl, hb, hg, -⟩⟩ := ho
 ·cases e2
 ·simp only [Value.ownBlock, Option.some.injEq] at e2
  subst e2
  obtain ⟨es, ck, hes, -⟩ := h1
  rw [hg] at hes
  cases hes
end Go.Proofs.YtnnhobbabcfogaaDoor

set_option linter.all false
namespace Go.Proofs.YtnnhobbabcfogaaDoor
open Go.ChangeShapes Go.WideShapes Go.ChangeAt Go.RowKit Go.Maps
set_option maxHeartbeats 2000000
set_option linter.unusedVariables false
set_option maxRecDepth 20000

theorem leS_stop {p : Pr} {m k : Nat} (h : stepB p (itS p m k) = false) : ∀ j, leS p m (k + j) = leS p m k
 | 0 => rfl
 | j + 1 => by
  have e : leS p m (k + (j + 1)) = (if itS p m (k + (j + 1)) < leS p m (k + j) then itS p m (k + (j + 1)) else leS p m (k + j)) := rfl
  have h1 := itS_stop h (j + 1)
  have h2 := leS_le p m k k (Nat.le_refl _)
  rw [e, h1, leS_stop h j, if_neg (by omega)]
/-- the cells of a block's way on -/
theorem bk_to {w : World} {a : Option Addr} {n c : Nat} {p : Pr} (h : RdBks w (.slice a n c) p.blks) (k : Nat) (hk : k < p.blks.length) : ∃ b o, a = some ⟨b, o, none⟩ ∧ w.cell? ⟨b, o + k * 5 + 3, none⟩ = some (.int .i64 (bkAt p k).to) := by
 obtain ⟨b, o, vi, e, -, -, -, -, h3, -⟩ := (RdBks.at h).2 k hk
 exact ⟨b, o, e, h3⟩
theorem itS_next {p : Pr} {n k : Nat} (hJ : JmpOk p) (hn : n < p.blks.length) (h : stepB p (itS p n k) = true) : (bkAt p (itS p n k)).to = ((itS p n (k + 1) : Nat) : Int) := by
 have h1 := hJ.to1 _ (hJ.it hn k) (stepB_fin h).1
 show _ = ((nxS p (itS p n k) : Nat) : Int)
 unfold nxS
 rw [if_pos h]
 omega
theorem rfin_c (p : Pr) (v : Value) (n : Nat) (w : World) (hP : PrV w v p) (hJ : JmpOk p) (hn : n < p.blks.length) (hl : p.blks.length ≤ 1000000) :
  Calls Tryd.prog 53 #[v, .int .i64 (n : Int)] w fun e w' => e = .returned (.int .i64 (endS p n : Int)) ∧ Below w.heap.size w w' := by
 have HST : Hid (∀ (k : Nat) w', Ext w w' → k < p.blks.length → Calls Tryd.prog 69 #[v, .int .i64 (k : Int)] w' fun e w'' => e = .returned (.bool (stepB p k)) ∧ Below w'.heap.size w' w'') := fun k w' he hk => rstep_c p v k w' (hP.ext he) hk hl
 obtain ⟨nm, vo, vb, rfl, -, hvb⟩ := hP
 have hvb' := hvb
 obtain ⟨ab, cb, rfl, h1, h2, -⟩ := hvb'
 unfold maxLen at h2
 have HTO := Lib.hid (bk_to hvb)
 clear hvb
 obtain ⟨W0, hW0⟩ : ∃ W0, W0 = w.alloc (.cells #[.string nm, .bool p.void, .int .i64 p.params, .int .i64 p.regs, vo, .slice ab p.blks.length cb] 37) := ⟨_, rfl⟩
 have BB : Hid (Below w.heap.size w W0) := by rw [hW0]; exact below_alloc w _
 have H00 := Lib.hid (heap_of_alloc w _ _ hW0)
 have l0w : w.heap.size < W0.heap.size := (Array.getElem?_eq_some_iff.1 H00.out).1
 go_enter Tryd.func53, Tryd.ntmps53
 go_wp2_with fail
 rw [← hW0]
 clear hW0
 go_loopw [1, 5] (fun sn i wr => ∃ k : Nat, i = .int .i64 (k : Int) ∧ sn = .int .i64 (itS p n k : Int) ∧ k ≤ p.blks.length ∧ Hid (Below W0.heap.size W0 wr)) (fun _ i _ => p.blks.length - (intOf i).toNat)
 case atStart => exact ⟨0, rfl, rfl, Nat.zero_le _, Below.refl _ _⟩
 case round =>
  obtain ⟨k, rfl, rfl, hk, HW⟩ := hrel
  have hz := HW.out.size
  have H0 := Lib.hid ((HW.out.block _ l0w).trans H00.out)
  obtain ⟨y0, y1, y2, y3, y4, y5, l0⟩ := cl6 H0.out
  by_cases hlt : k < p.blks.length
  ·have g1 : decide ((k : Int) < (p.blks.length : Int)) = true := decide_eq_true (by omega)
   have g2 : decide (k < p.blks.length) = true := decide_eq_true hlt
   have hlq := hJ.it hn k
   have HX : Hid (Below W0.heap.size W0 wr) := HW
   go_wp2_with fail
   refine (HST.out (itS p n k) wr (Ext.below (BB.out.trans (HX.out.mono BB.out.size))) hlq).mono ?_
   rintro e w3 ⟨rfl, hb3⟩
   have H0 := Lib.hid ((hb3.block _ l0).trans H0.out)
   have HX := Lib.hid (HX.out.trans (hb3.mono HX.out.size))
   clear y0 y1 y2 y3 y4 y5 hb3 HW
   obtain ⟨y0, y1, y2, y3, y4, y5, l3⟩ := cl6 H0.out
   cases hst : stepB p (itS p n k)
   ·have HR : Hid (itS p n p.blks.length = itS p n k) := by
     have := itS_stop hst (p.blks.length - k)
     rwa [show k + (p.blks.length - k) = p.blks.length by omega] at this
    clear hst
    rw [← HR.out]
    clear HR
    obtain ⟨W2, rfl⟩ : ∃ W2 : World, W2 = w3 := ⟨_, rfl⟩
    have BB : Hid (Below w.heap.size w W2) := BB.out.trans (HX.out.mono BB.out.size)
    have hm : itS p n p.blks.length < p.blks.length := hJ.it hn _
    have hE : Hid (endS p n = leS p (itS p n p.blks.length) p.blks.length) := rfl
    clear HX y0 y1 y2 y3 y4 y5
    have l2w : w.heap.size < W2.heap.size := (Array.getElem?_eq_some_iff.1 H0.out).1
    have H01 := H0
    obtain ⟨y0, y1, y2, y3, y4, y5, -⟩ := cl6 H01.out
    generalize itS p n p.blks.length = m at *
    go_wp2_with fail
    clear y0 y1 y2 y3 y4 y5
    go_loopw [1, 6, 7] (fun sn sl i wr => ∃ k : Nat, i = .int .i64 (k : Int) ∧ sn = .int .i64 (itS p m k : Int) ∧ sl = .int .i64 (leS p m k : Int) ∧ k ≤ p.blks.length ∧ Hid (Below W2.heap.size W2 wr)) (fun _ _ i _ => p.blks.length - (intOf i).toNat)
    case atStart => exact ⟨0, rfl, rfl, rfl, Nat.zero_le _, Below.refl _ _⟩
    case round =>
     obtain ⟨k, rfl, rfl, rfl, hk, HW⟩ := hrel
     have hz := HW.out.size
     have H0 := Lib.hid ((HW.out.block _ l2w).trans H01.out)
     obtain ⟨y0, y1, y2, y3, y4, y5, l0⟩ := cl6 H0.out
     by_cases hlt : k < p.blks.length
     ·have g1 : decide ((k : Int) < (p.blks.length : Int)) = true := decide_eq_true (by omega)
      have g2 : decide (k < p.blks.length) = true := decide_eq_true hlt
      have hlq := hJ.it hm k
      have HX : Hid (Below W2.heap.size W2 wr) := HW
      go_wp2_with fail
      refine (HST.out (itS p m k) wr (Ext.below (BB.out.trans (HX.out.mono BB.out.size))) hlq).mono ?_
      rintro e w3 ⟨rfl, hb3⟩
      have H0 := Lib.hid ((hb3.block _ l0).trans H0.out)
      have HX := Lib.hid (HX.out.trans (hb3.mono HX.out.size))
      clear y0 y1 y2 y3 y4 y5 hb3 HW
      obtain ⟨y0, y1, y2, y3, y4, y5, l3⟩ := cl6 H0.out
      cases hst : stepB p (itS p m k)
      ·have HR : Hid (endS p n = leS p m k) := by
        show _ = _
        rw [hE.out]
        have := leS_stop hst (p.blks.length - k)
        rwa [show k + (p.blks.length - k) = p.blks.length by omega] at this
       clear hst
       go_wp2_with fail
       go_ret
       exact ⟨by rw [HR.out]; rfl, BB.out.trans (HX.out.mono BB.out.size)⟩
      ·obtain ⟨b, o, rfl, c3⟩ := HTO.out (itS p m k) hlq
       replace c3 := (Ext.below (BB.out.trans (HX.out.mono BB.out.size))) _ _ c3
       rw [itS_next hJ hm hst] at c3
       clear hst
       have hle : Hid (leS p m (k + 1) = if itS p m (k + 1) < leS p m k then itS p m (k + 1) else leS p m k) := rfl
       by_cases hcmp : itS p m (k + 1) < leS p m k
       ·have q1 : decide (itS p m (k + 1) < leS p m k) = true := decide_eq_true hcmp
        have q2 : decide ((itS p m (k + 1) : Int) < (leS p m k : Int)) = true := decide_eq_true (by omega)
        have hle := Lib.hid (hle.out.trans (if_pos hcmp))
        obtain ⟨T, hT⟩ : ∃ T, T = itS p m (k + 1) := ⟨_, rfl⟩
        have HT := Lib.hid hT
        rw [← hT] at c3 q1 q2 hle hcmp
        clear hT
        go_wp2_with fail
        exact ⟨⟨k + 1, rfl, by rw [HT.out], by rw [hle.out], by omega, HX⟩, by simp [intOf]; omega⟩
       ·have q1 : decide (itS p m (k + 1) < leS p m k) = false := decide_eq_false hcmp
        have q2 : decide ((itS p m (k + 1) : Int) < (leS p m k : Int)) = false := decide_eq_false (by omega)
        have hle := Lib.hid (hle.out.trans (if_neg hcmp))
        obtain ⟨T, hT⟩ : ∃ T, T = itS p m (k + 1) := ⟨_, rfl⟩
        have HT := Lib.hid hT
        rw [← hT] at c3 q1 q2 hcmp
        clear hT
        go_wp2_with fail
        exact ⟨⟨k + 1, rfl, by rw [HT.out], by rw [hle.out], by omega, HX⟩, by simp [intOf]; omega⟩
     ·obtain rfl : k = p.blks.length := by omega
      have g1 : decide ((p.blks.length : Int) < (p.blks.length : Int)) = false := decide_eq_false (by omega)
      have g2 : decide (p.blks.length < p.blks.length) = false := decide_eq_false (by omega)
      have HX : Hid (Below W2.heap.size W2 wr) := HW
      have HR := hE
      go_wp2_with fail
      go_ret
      exact ⟨by rw [HR.out]; rfl, BB.out.trans (HX.out.mono BB.out.size)⟩
   ·obtain ⟨b, o, rfl, c3⟩ := HTO.out (itS p n k) hlq
    replace c3 := (Ext.below (BB.out.trans (HX.out.mono BB.out.size))) _ _ c3
    rw [itS_next hJ hn hst] at c3
    clear hst
    obtain ⟨T, hT⟩ : ∃ T, T = itS p n (k + 1) := ⟨_, rfl⟩
    have HT := Lib.hid hT
    rw [← hT] at c3
    clear hT
    go_wp2_with fail
    exact ⟨⟨k + 1, rfl, by rw [HT.out], by omega, HX⟩, by simp [intOf]; omega⟩
  ·obtain rfl : k = p.blks.length := by omega
   have g1 : decide ((p.blks.length : Int) < (p.blks.length : Int)) = false := decide_eq_false (by omega)
   have g2 : decide (p.blks.length < p.blks.length) = false := decide_eq_false (by omega)
   have HX : Hid (Below W0.heap.size W0 wr) := HW
   obtain ⟨W2, rfl⟩ : ∃ W2 : World, W2 = wr := ⟨_, rfl⟩
   have BB : Hid (Below w.heap.size w W2) := BB.out.trans (HX.out.mono BB.out.size)
   have hm : itS p n p.blks.length < p.blks.length := hJ.it hn _
   have hE : Hid (endS p n = leS p (itS p n p.blks.length) p.blks.length) := rfl
   clear HX y0 y1 y2 y3 y4 y5
   have l2w : w.heap.size < W2.heap.size := (Array.getElem?_eq_some_iff.1 H0.out).1
   have H01 := H0
   obtain ⟨y0, y1, y2, y3, y4, y5, -⟩ := cl6 H01.out
   generalize itS p n p.blks.length = m at *
   go_wp2_with fail
   clear y0 y1 y2 y3 y4 y5
   go_loopw [1, 6, 7] (fun sn sl i wr => ∃ k : Nat, i = .int .i64 (k : Int) ∧ sn = .int .i64 (itS p m k : Int) ∧ sl = .int .i64 (leS p m k : Int) ∧ k ≤ p.blks.length ∧ Hid (Below W2.heap.size W2 wr)) (fun _ _ i _ => p.blks.length - (intOf i).toNat)
   case atStart => exact ⟨0, rfl, rfl, rfl, Nat.zero_le _, Below.refl _ _⟩
   case round =>
    obtain ⟨k, rfl, rfl, rfl, hk, HW⟩ := hrel
    have hz := HW.out.size
    have H0 := Lib.hid ((HW.out.block _ l2w).trans H01.out)
    obtain ⟨y0, y1, y2, y3, y4, y5, l0⟩ := cl6 H0.out
    by_cases hlt : k < p.blks.length
    ·have g1 : decide ((k : Int) < (p.blks.length : Int)) = true := decide_eq_true (by omega)
     have g2 : decide (k < p.blks.length) = true := decide_eq_true hlt
     have hlq := hJ.it hm k
     have HX : Hid (Below W2.heap.size W2 wr) := HW
     go_wp2_with fail
     refine (HST.out (itS p m k) wr (Ext.below (BB.out.trans (HX.out.mono BB.out.size))) hlq).mono ?_
     rintro e w3 ⟨rfl, hb3⟩
     have H0 := Lib.hid ((hb3.block _ l0).trans H0.out)
     have HX := Lib.hid (HX.out.trans (hb3.mono HX.out.size))
     clear y0 y1 y2 y3 y4 y5 hb3 HW
     obtain ⟨y0, y1, y2, y3, y4, y5, l3⟩ := cl6 H0.out
     cases hst : stepB p (itS p m k)
     ·have HR : Hid (endS p n = leS p m k) := by
       show _ = _
       rw [hE.out]
       have := leS_stop hst (p.blks.length - k)
       rwa [show k + (p.blks.length - k) = p.blks.length by omega] at this
      clear hst
      go_wp2_with fail
      go_ret
      exact ⟨by rw [HR.out]; rfl, BB.out.trans (HX.out.mono BB.out.size)⟩
     ·obtain ⟨b, o, rfl, c3⟩ := HTO.out (itS p m k) hlq
      replace c3 := (Ext.below (BB.out.trans (HX.out.mono BB.out.size))) _ _ c3
      rw [itS_next hJ hm hst] at c3
      clear hst
      have hle : Hid (leS p m (k + 1) = if itS p m (k + 1) < leS p m k then itS p m (k + 1) else leS p m k) := rfl
      by_cases hcmp : itS p m (k + 1) < leS p m k
      ·have q1 : decide (itS p m (k + 1) < leS p m k) = true := decide_eq_true hcmp
       have q2 : decide ((itS p m (k + 1) : Int) < (leS p m k : Int)) = true := decide_eq_true (by omega)
       have hle := Lib.hid (hle.out.trans (if_pos hcmp))
       obtain ⟨T, hT⟩ : ∃ T, T = itS p m (k + 1) := ⟨_, rfl⟩
       have HT := Lib.hid hT
       rw [← hT] at c3 q1 q2 hle hcmp
       clear hT
       go_wp2_with fail
       exact ⟨⟨k + 1, rfl, by rw [HT.out], by rw [hle.out], by omega, HX⟩, by simp [intOf]; omega⟩
      ·have q1 : decide (itS p m (k + 1) < leS p m k) = false := decide_eq_false hcmp
       have q2 : decide ((itS p m (k + 1) : Int) < (leS p m k : Int)) = false := decide_eq_false (by omega)
       have hle := Lib.hid (hle.out.trans (if_neg hcmp))
       obtain ⟨T, hT⟩ : ∃ T, T = itS p m (k + 1) := ⟨_, rfl⟩
       have HT := Lib.hid hT
       rw [← hT] at c3 q1 q2 hcmp
       clear hT
       go_wp2_with fail
       exact ⟨⟨k + 1, rfl, by rw [HT.out], by rw [hle.out], by omega, HX⟩, by simp [intOf]; omega⟩
    ·obtain rfl : k = p.blks.length := by omega
     have g1 : decide ((p.blks.length : Int) < (p.blks.length : Int)) = false := decide_eq_false (by omega)
     have g2 : decide (p.blks.length < p.blks.length) = false := decide_eq_false (by omega)
     have HX : Hid (Below W2.heap.size W2 wr) := HW
     have HR := hE
     go_wp2_with fail
     go_ret
     exact ⟨by rw [HR.out]; rfl, BB.out.trans (HX.out.mono BB.out.size)⟩
end Go.Proofs.YtnnhobbabcfogaaDoor
