/-
 A run of the middle language in memory: the runner's struct, its memory, what it puts out, where the globals lie.; The contracts of the runner's small methods.; The contract of the runner's store.; Contracts of the parts of ir.Check: slots, offsets, registers, blocks, ends, bare instructions.
-/
import Derived.Test.YtobfpfjdkpaeiaaZHazardWrites00
import Derived.Test.YtobfpfjdkpaeiaaZHazardWrites15
import Derived.Test.YtobfpfjdkpaeiaaZHazardWrites09
import Derived.BigQuiet
import Derived.IntWalk
import Derived.Test.YtobfpfjdkpaeiaaZHazardWrites12

set_option linter.all false
namespace Go.Proofs.Ytobfpfjdkpaeiaa
open Go.ChangeShapes Go.WideShapes Go.ChangeAt Go.RowKit
set_option maxHeartbeats 1000000
set_option linter.unusedVariables false
set_option maxRecDepth 20000

def rowOf (b n : Nat) : Value := .slice (some ⟨b, 0, none⟩) n n
/-- what stays in a run -/
structure RK where
 wp : World
 br : Nat
 bm : Nat
 vg : Value
 vd : Value
 vp : Value
 va : Value
 vi : Value
 m : Md
 at' : List Int
 en : Int
 inp : List Int
/-- what turns in a run -/
structure RS where
 mem : List Int
 out : List Int
 ins : Int
 exit : Int
 e : Int
 fuel : Int
 deep : Int
def RS.cells (k : RK) (vo : Value) (s : RS) : List Value := [k.vg, k.vd, k.vp, .int .i64 k.m.main, rowOf k.bm 65536, k.va, .int .i64 k.en, k.vi, vo, .int .i64 s.ins, .int .u32 s.exit, .int .i64 s.e, .int .i64 s.fuel, .int .i64 s.deep]
structure Rn (k : RK) (w : World) (vo : Value) (s : RS) : Prop where
 bx : w.ownsRow k.wp.heap.size 108 14 (rowOf k.br 1) 1 (s.cells k vo)
 mm : w.ownsRow k.wp.heap.size 5 1 (rowOf k.bm 65536) 65536 (s.mem.map (Value.int .u8))
 oo : w.ownsRow k.wp.heap.size 56 1 vo s.out.length (s.out.map (Value.int .u32))
 aa : w.ownsRow k.wp.heap.size 3 1 k.va k.at'.length (k.at'.map (Value.int .i64))
 md : MdV k.wp (.agg #[k.vg, k.vd, k.vp, .int .i64 k.m.main]) k.m
 ii : RdW k.wp k.vi k.inp
 below : Below k.wp.heap.size k.wp w
/-- two rows of different types lie in different blocks -/
theorem rows_neR {w : World} {B B' s s' n n' : Nat} {e e' : TypeId} {v v' : Value} {xs xs' : List Value} (h : w.ownsRow B e s v n xs) (h' : w.ownsRow B' e' s' v' n' xs') (he : e ≠ e') : v.ownBlock = none ∨ v.ownBlock ≠ v'.ownBlock := by
 obtain ⟨-, ⟨rfl, -⟩ | ⟨g, cap, cur, rfl, -, hg, -⟩⟩ := h
 ·exact .inl rfl
 ·obtain ⟨-, ⟨rfl, -⟩ | ⟨g', cap', cur', rfl, -, hg', -⟩⟩ := h'
  ·exact .inr (by simp [Value.ownBlock])
  ·refine .inr fun e2 => he ?_
   simp only [Value.ownBlock, Option.some.injEq] at e2
   subst e2
   rw [hg] at hg'
   simp at hg'
   exact hg'.2
/-- all but the run's own blocks stays -/
structure Kp (k : RK) (vo vo' : Value) (w w' : World) : Prop where
 size : w.heap.size ≤ w'.heap.size
 «to» : vo'.ownBlock = vo.ownBlock ∨ ∃ g, vo'.ownBlock = some g ∧ w.heap.size ≤ g
 keep : ∀ b, b < w.heap.size → b ≠ k.br → b ≠ k.bm → some b ≠ vo.ownBlock → w'.heap[b]? = w.heap[b]?
theorem Kp.refl (k : RK) (vo : Value) (w : World) : Kp k vo vo w w := ⟨Nat.le_refl _, .inl rfl, fun _ _ _ _ _ => rfl⟩
theorem Kp.trans {k : RK} {v1 v2 v3 : Value} {w1 w2 w3 : World} (h : Kp k v1 v2 w1 w2) (h' : Kp k v2 v3 w2 w3) : Kp k v1 v3 w1 w3 := by
 refine ⟨Nat.le_trans h.size h'.size, ?_, fun b hb h1 h2 h3 => ?_⟩
 ·rcases h'.to with e | ⟨g, e, hg⟩
  ·rw [e]; exact h.to
  ·exact .inr ⟨g, e, Nat.le_trans h.size hg⟩
 ·rw [h'.keep b (Nat.lt_of_lt_of_le hb h.size) h1 h2, h.keep b hb h1 h2 h3]
  rcases h.to with e | ⟨g, e, hg⟩
  ·rw [e]; exact h3
  ·rw [e]; intro e2; simp only [Option.some.injEq] at e2; omega
theorem Kp.of_below {k : RK} {vo : Value} {w w' : World} (h : Below w.heap.size w w') : Kp k vo vo w w' := ⟨h.size, .inl rfl, fun b hb _ _ _ => h.block b hb⟩
theorem Kp.cell {k : RK} {vo vo' : Value} {w w' : World} (h : Kp k vo vo' w w') {b o : Nat} {v : Value} (h1 : b ≠ k.br) (h2 : b ≠ k.bm) (h3 : some b ≠ vo.ownBlock) (hv : w.cell? ⟨b, o, none⟩ = some v) : w'.cell? ⟨b, o, none⟩ = some v :=
 (World.cell?_of_block (a := ⟨b, o, none⟩) (h.keep b (World.block_lt_of_cell? w _ hv) h1 h2 h3)).trans hv
section
variable {k : RK} {w w' : World} {vo : Value} {s : RS}
theorem Rn.grow (h : Rn k w vo s) (hb : Below w.heap.size w w') : Rn k w' vo s :=
 ⟨own_below h.bx hb, own_below h.mm hb, own_below h.oo hb, own_below h.aa hb, h.md, h.ii, h.below.trans (hb.mono h.below.size)⟩
theorem Rn.bmLt (h : Rn k w vo s) : k.wp.heap.size ≤ k.bm ∧ k.bm < w.heap.size := own_lt h.mm rfl
theorem Rn.ne (h : Rn k w vo s) : k.br ≠ k.bm := fun e => by
 rcases rows_neR h.bx h.mm (by decide) with h | h
 ·cases h
 ·exact h (congrArg some e)
theorem Rn.c (h : Rn k w vo s) (j : Nat) (hj : j < 14) : w.cell? ⟨k.br, j, none⟩ = (s.cells k vo)[j]? := h.bx.cellAt j (by omega)
end
end Go.Proofs.Ytobfpfjdkpaeiaa

set_option linter.all false
namespace Go.Proofs.Ytobfpfjdkpaeiaa
open Go.ChangeShapes Go.WideShapes Go.ChangeAt Go.RowKit
set_option maxHeartbeats 2000000
set_option linter.unusedVariables false
set_option maxRecDepth 20000

section
variable {k : RK} {w : World} {vo : Value} {s : RS}
/-- where so many bytes lie: a place that may be -/
def placeF (a size : Int) : Bool := decide (0 ≤ a - 268435456) && (decide (a - 268435456 ≤ 65536 - size) && decide ((a - 268435456) % size = 0))
/-- bytes, the least one first -/
def loadP (mem : List Int) (n : Nat) : Nat → Int
 | 0 => 0
 | i + 1 => loadP mem n i + mem.getD (n + i) 0 * 256 ^ i
def MemOk (mem : List Int) : Prop := ∀ j, 0 ≤ mem.getD j 0 ∧ mem.getD j 0 < 256
theorem loadP_bd (mem : List Int) (h : MemOk mem) (n : Nat) : ∀ i, 0 ≤ loadP mem n i ∧ loadP mem n i < 256 ^ i
 | 0 => by simp [loadP]
 | i + 1 => by
  have ih := loadP_bd mem h n i
  have hb := h (n + i)
  have hp : (0 : Int) < 256 ^ i := Int.pow_pos (by decide)
  unfold loadP
  generalize mem.getD (n + i) 0 = b at *
  generalize loadP mem n i = l at *
  rw [Int.pow_succ]
  generalize (256 : Int) ^ i = q at *
  refine ⟨Int.add_nonneg ih.1 (Int.mul_nonneg hb.1 (by omega)), ?_⟩
  have : b * q ≤ 255 * q := Int.mul_le_mul_of_nonneg_right (by omega) (by omega)
  omega
/-- bytes put, the least one first -/
def storeP (mem : List Int) (n : Nat) (v : Int) : Nat → List Int
 | 0 => mem
 | i + 1 => (storeP mem n v i).set (n + i) (v / 256 ^ i % 256)
end
end Go.Proofs.Ytobfpfjdkpaeiaa

set_option linter.all false
namespace Go.Proofs.Ytobfpfjdkpaeiaa
open Go.ChangeShapes Go.WideShapes Go.ChangeAt Go.RowKit
set_option maxHeartbeats 2000000
set_option linter.unusedVariables false
set_option maxRecDepth 20000

section
variable {k : RK} {w : World} {vo : Value} {s : RS}
end
end Go.Proofs.Ytobfpfjdkpaeiaa

set_option linter.all false
namespace Go.Proofs.Ytobfpfjdkpaeiaa
open Go.ChangeShapes Go.WideShapes Go.ChangeAt Go.RowKit
set_option maxHeartbeats 2000000
set_option maxRecDepth 20000

/-- a module and a procedure by value, as a procedure is looked at -/
def LkV (w : World) (v : Value) (m : Md) (p : Pr) : Prop :=
 ∃ vg vd vp nm vo vb, v = .agg #[vg, vd, vp, .int .i64 m.main, .string nm, .bool p.void, .int .i64 p.params, .int .i64 p.regs, vo, vb] ∧ RdSls w vg m.globs ∧ RdYs w vd m.data ∧ RdPrs w vp m.procs ∧ RdSls w vo p.objs ∧ RdBks w vb p.blks
theorem LkV.ext {w w' : World} {v : Value} {m : Md} {p : Pr} (h : LkV w v m p) (he : Ext w w') : LkV w' v m p := by
 obtain ⟨vg, vd, vp, nm, vo, vb, e, h1, h2, h3, h4, h5⟩ := h
 exact ⟨vg, vd, vp, nm, vo, vb, e, h1.ext he, h2.ext he, h3.ext he, h4.ext he, h5.ext he⟩
theorem RdSls.at {w : World} {a : Option Addr} {n c : Nat} {l : List Sl} (h : RdSls w (.slice a n c) l) : n = l.length ∧ ∀ k, k < l.length → ∃ b o nm, a = some ⟨b, o, none⟩ ∧ w.cell? ⟨b, o + k * 4, none⟩ = some (.string nm) ∧ w.cell? ⟨b, o + k * 4 + 1, none⟩ = some (.int .i64 (l.getD k default).size) ∧
  w.cell? ⟨b, o + k * 4 + 2, none⟩ = some (.int .i64 (l.getD k default).align) ∧ w.cell? ⟨b, o + k * 4 + 3, none⟩ = some (.int .i64 (l.getD k default).cell) := by
 obtain ⟨a', c', e, h1, h2, hc⟩ := h
 simp only [Value.slice.injEq] at e
 obtain ⟨rfl, rfl, rfl⟩ := e
 refine ⟨rfl, fun k hk => ?_⟩
 obtain ⟨b, o, rfl, ⟨nm, h0⟩, h1, h2, h3⟩ := hc k hk
 exact ⟨b, o, nm, rfl, by simpa using h0, h1, h2, h3⟩
theorem off_c (n : Int) (w : World) : Calls Try.prog 126 #[.int .i64 n] w fun e w' => e = .returned (.bool (offF n)) ∧ w = w' := by
 by_cases h1 : -32768 ≤ n
 ·have e1 : decide (-32768 ≤ n) = true := decide_eq_true h1
  have HF : Hid (offF n = decide (n ≤ 32768)) := by show _ = _; unfold offF; rw [e1]; rfl
  go_enter Try.func126, Try.ntmps126
  go_wp2
  go_ret
  exact ⟨ret_b HF.out.symm, rfl⟩
 ·have e1 : decide (-32768 ≤ n) = false := decide_eq_false h1
  have HF : Hid (offF n = false) := by show _ = _; unfold offF; rw [e1]; rfl
  go_enter Try.func126, Try.ntmps126
  go_wp2
  go_ret
  exact ⟨ret_b HF.out.symm, rfl⟩
theorem slots_c (l : List Sl) (v : Value) (w : World) (h : RdSls w v l) :
  Calls Try.prog 48 #[v] w fun e w' => e = .returned (.bool (l.all slotF)) ∧ Below w.heap.size w w' := by
 have h' := h
 obtain ⟨a, c, rfl, h1, h2, -⟩ := h'
 have HC := Lib.hid (RdSls.at h).2
 clear h
 unfold maxLen at h2
 go_enter Try.func48, Try.ntmps48
 go_wp2_with fail
 go_loopw [7] (fun i wr => ∃ k : Nat, k ≤ l.length ∧ i = .int .i64 (k : Int) ∧ Hid (Below w.heap.size w wr) ∧ Hid ((l.take k).all slotF = true)) (fun i _ => l.length - (intOf i).toNat)
 case atStart => exact ⟨0, Nat.zero_le _, rfl, Below.refl _ _, rfl⟩
 case round =>
  obtain ⟨k, hk, rfl, hB, HA⟩ := hrel
  by_cases hlt : k < l.length
  ·obtain ⟨b, o, nm, rfl, c0, c1, c2, c3⟩ := HC.out k hlt
   replace c0 := Ext.below hB.out _ _ c0
   replace c1 := Ext.below hB.out _ _ c1
   replace c2 := Ext.below hB.out _ _ c2
   replace c3 := Ext.below hB.out _ _ c3
   have hY := allG_take slotF l k hlt HA.out
   have hZ := allG_no slotF l k hlt
   generalize l.getD k default = s at *
   have hz := hB.out.size
   cases hs : slotF s
   ·have HF : Hid (l.all slotF = false) := hZ hs
    have hs' : ¬ (1 ≤ s.size ∧ s.size ≤ 32768 ∧ (s.align = 1 ∨ s.align = 4)) := by
     unfold slotF at hs
     intro h
     rw [decide_eq_true h.1, decide_eq_true h.2.1] at hs
     rcases h.2.2 with h | h <;> rw [h] at hs <;> simp at hs
    clear hY hZ hs
    have END : Hid (∀ o, (Ending.returned (.bool false) = .returned (.bool (l.all slotF))) ∧ Below w.heap.size w (wr.alloc o)) := fun o => ⟨ret_b HF.out.symm, hB.out.alloc hz o⟩
    by_cases h3 : 1 ≤ s.size
    ·have e1 : decide (s.size < 1) = false := decide_eq_false (by omega)
     by_cases h4 : s.size ≤ 32768
     ·have e2 : decide (32768 < s.size) = false := decide_eq_false (by omega)
      have e3 : (s.align != 1) = true := by rw [bne_iff_ne]; omega
      have e4 : (s.align != 4) = true := by rw [bne_iff_ne]; omega
      clear hs'
      go_wp2_with fail
      go_ret
      exact END.out _
     ·have e2 : decide (32768 < s.size) = true := decide_eq_true (by omega)
      clear hs'
      go_wp2_with fail
      go_ret
      exact END.out _
    ·have e1 : decide (s.size < 1) = true := decide_eq_true (by omega)
     clear hs'
     go_wp2_with fail
     go_ret
     exact END.out _
   ·have HA2 := Lib.hid (hY hs)
    have hs' : 1 ≤ s.size ∧ s.size ≤ 32768 ∧ (s.align = 1 ∨ s.align = 4) := by
     unfold slotF at hs
     simpa using hs
    clear hY hZ hs
    have e1 : decide (s.size < 1) = false := decide_eq_false (by omega)
    have e2 : decide (32768 < s.size) = false := decide_eq_false (by omega)
    obtain ⟨-, -, h5⟩ := hs'
    rcases h5 with h5 | h5
    ·have e3 : (s.align != 1) = false := by rw [h5]; rfl
     clear h5
     go_wp2_with fail
     go_roundw
     case rel => exact ⟨k + 1, by omega, by go_num, hB.out.alloc hz _, HA2⟩
     case measure => simp [intOf]; omega
    ·have e3 : (s.align != 1) = true := by rw [h5]; rfl
     have e4 : (s.align != 4) = false := by rw [h5]; rfl
     clear h5
     go_wp2_with fail
     go_roundw
     case rel => exact ⟨k + 1, by omega, by go_num, hB.out.alloc hz _, HA2⟩
     case measure => simp [intOf]; omega
  ·have HF : Hid (l.all slotF = true) := by have := HA.out; rwa [List.take_of_length_le (by omega)] at this
   go_wp2_with fail
   go_ret
   exact ⟨ret_b HF.out.symm, hB.out⟩
theorem reg_c (m : Md) (p : Pr) (v : Value) (r : Int) (should : Bool) (w : World) (h : LkV w v m p) :
  Calls Try.prog 125 #[v, .int .i64 r, .bool should] w fun e w' => e = .returned (.bool (regF p r should)) ∧ Below w.heap.size w w' := by
 obtain ⟨vg, vd, vp, nm, vo, vb, rfl, ⟨ag, cg, rfl, -⟩, ⟨ad, cd, rfl, -⟩, ⟨ap, cp, rfl, -⟩, ⟨ao, co, rfl, -⟩, ⟨ab, cb, rfl, -⟩⟩ := h
 have HF : Hid (regF p r should = if should = true then decide (0 ≤ r) && decide (r < p.regs) else r == -1) := rfl
 cases should
 ·have HF2 : Hid (regF p r false = (r == -1)) := HF.out
  go_enter Try.func125, Try.ntmps125
  go_wp2
  go_ret
  exact ⟨ret_b HF2.out.symm, below_alloc _ _⟩
 ·by_cases h0 : 0 ≤ r
  ·have e0 : decide (0 ≤ r) = true := decide_eq_true h0
   have HF2 : Hid (regF p r true = decide (r < p.regs)) := by show _ = _; rw [HF.out, if_pos rfl, e0]; rfl
   go_enter Try.func125, Try.ntmps125
   go_wp2
   go_ret
   exact ⟨ret_b HF2.out.symm, below_alloc _ _⟩
  ·have e0 : decide (0 ≤ r) = false := decide_eq_false h0
   have HF2 : Hid (regF p r true = false) := by show _ = _; rw [HF.out, if_pos rfl, e0]; rfl
   go_enter Try.func125, Try.ntmps125
   go_wp2
   go_ret
   exact ⟨ret_b HF2.out.symm, below_alloc _ _⟩
theorem block_c (m : Md) (p : Pr) (v : Value) (n : Int) (w : World) (h : LkV w v m p) :
  Calls Try.prog 127 #[v, .int .i64 n] w fun e w' => e = .returned (.bool (blockF p n)) ∧ Below w.heap.size w w' := by
 obtain ⟨vg, vd, vp, nm, vo, vb, rfl, ⟨ag, cg, rfl, -⟩, ⟨ad, cd, rfl, -⟩, ⟨ap, cp, rfl, -⟩, ⟨ao, co, rfl, -⟩, ⟨ab, cb, rfl, -⟩⟩ := h
 by_cases h0 : 0 ≤ n
 ·have e0 : decide (0 ≤ n) = true := decide_eq_true h0
  have HF2 : Hid (blockF p n = decide (n < p.blks.length)) := by show _ = _; unfold blockF; rw [e0]; rfl
  go_enter Try.func127, Try.ntmps127
  go_wp2
  go_ret
  exact ⟨ret_b HF2.out.symm, below_alloc _ _⟩
 ·have e0 : decide (0 ≤ n) = false := decide_eq_false h0
  have HF2 : Hid (blockF p n = false) := by show _ = _; unfold blockF; rw [e0]; rfl
  go_enter Try.func127, Try.ntmps127
  go_wp2
  go_ret
  exact ⟨ret_b HF2.out.symm, below_alloc _ _⟩
end Go.Proofs.Ytobfpfjdkpaeiaa
