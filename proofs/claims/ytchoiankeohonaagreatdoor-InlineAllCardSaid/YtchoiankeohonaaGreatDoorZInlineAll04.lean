/-
 Contracts of the functions of word and of its reference: each returns the number that the plain arithmetic of W1 says, and leaves the world as it is. Conditions: each word lies between 0 and 2^32 - 1.; Rows of instructions, one by one.; The cells of an own row of numbers.; Contract of the statements' ins: are an instruction's numbers such as statements go through?; Contracts of the statements' Few and few: is a module, a procedure, not more than statements go through?
-/
import Derived.Test.YtchoiankeohonaaGreatDoorRows
import Derived.WalkKit
import Derived.ProofKit
import Derived.OpenShut
import Derived.Outline
import Derived.Lib.Hide
import Derived.Deep.QuietTactic
import Derived.BigQuiet
import Derived.Test.YtchoiankeohonaaGreatDoorZInlineAll03
import Derived.Test.YtchoiankeohonaaGreatDoorZInlineAll02
import Derived.Laws.OwnMore
import Derived.Test.YtchoiankeohonaaGreatDoorZInlineAll01

set_option linter.all false
namespace Go.Proofs.YtchoiankeohonaaGreatDoor
open Go.ChangeShapes Go.WideShapes Go.ChangeAt Go.RowKit
set_option maxHeartbeats 400000
set_option linter.unusedVariables false

theorem ret_int {k : IntKind} {a b : Int} (h : a = b) : Ending.returned (.int k a) = .returned (.int k b) := by rw [h]
theorem wraps_u32 (n : Int) (h₀ : 0 ≤ n) (h₁ : n < 2 ^ 32) : IntKind.u32.wrap n = n := by rw [IntKind.wrap_u32]; omega
theorem u32_and31 (x : Int) (h₀ : 0 ≤ x) (h₁ : x < 4294967296) : bits .and .u32 x 31 = x % 32 := bits_mask .u32 32 (by decide) wraps_u32 5 (by decide) x h₀ h₁
attribute [local go_sem] u32_and31

theorem add_c (a b : Int) (w : World)  :
  Calls Tryz.prog 79 #[.int .u32 a, .int .u32 b] w fun e w' => e = .returned (.int .u32 ((a + b) % 4294967296)) ∧ w = w' := by
 go_enter Tryz.func79, Tryz.ntmps79
 go_wp2
 go_ret
 exact ⟨rfl, rfl⟩

theorem sub_c (a b : Int) (w : World)  :
  Calls Tryz.prog 80 #[.int .u32 a, .int .u32 b] w fun e w' => e = .returned (.int .u32 ((a - b) % 4294967296)) ∧ w = w' := by
 go_enter Tryz.func80, Tryz.ntmps80
 go_wp2
 go_ret
 exact ⟨rfl, rfl⟩

theorem mul_c (a b : Int) (w : World)  :
  Calls Tryz.prog 81 #[.int .u32 a, .int .u32 b] w fun e w' => e = .returned (.int .u32 ((a * b) % 4294967296)) ∧ w = w' := by
 go_enter Tryz.func81, Tryz.ntmps81
 go_wp2
 go_ret
 exact ⟨rfl, rfl⟩

theorem div_c (a b : Int) (w : World) (h : 0 ≤ a) (h' : a < 4294967296) (h1 : 0 ≤ b) (h1' : b < 4294967296) :
  Calls Tryz.prog 82 #[.int .u32 a, .int .u32 b] w fun e w' => e = .returned (.int .u32 (divS a b)) ∧ w = w' := by
 by_cases hb : b = 0
 ·go_enter Tryz.func82, Tryz.ntmps82
  go_wp2
  go_ret
  exact ⟨ret_int (by unfold divS; rw [if_pos hb]), rfl⟩
 ·have hz := sg_zero b h1 h1'
  have hs : ¬ wrap64 (wrap32 b) = 0 := by
   have hb' := sg_bd b h1 h1'
   rw [wrap32_sg b h1 h1', wrap64_in _ (by omega) (by omega)]; omega
  clear hz
  go_enter Tryz.func82, Tryz.ntmps82
  go_wp2
  go_ret
  exact ⟨ret_int (div_eq a b h h' h1 h1' hb), rfl⟩

theorem rem_c (a b : Int) (w : World) (h : 0 ≤ a) (h' : a < 4294967296) (h1 : 0 ≤ b) (h1' : b < 4294967296) :
  Calls Tryz.prog 83 #[.int .u32 a, .int .u32 b] w fun e w' => e = .returned (.int .u32 (remS a b)) ∧ w = w' := by
 by_cases hb : b = 0
 ·go_enter Tryz.func83, Tryz.ntmps83
  go_wp2
  go_ret
  exact ⟨ret_int (by unfold remS; rw [if_pos hb]), rfl⟩
 ·have hz := sg_zero b h1 h1'
  have hs : ¬ wrap64 (wrap32 b) = 0 := by
   have hb' := sg_bd b h1 h1'
   rw [wrap32_sg b h1 h1', wrap64_in _ (by omega) (by omega)]; omega
  clear hz
  go_enter Tryz.func83, Tryz.ntmps83
  go_wp2
  go_ret
  exact ⟨ret_int (rem_eq a b h h' h1 h1' hb), rfl⟩

theorem left_c (a b : Int) (w : World) (h : 0 ≤ a) (h' : a < 4294967296) (h1 : 0 ≤ b) (h1' : b < 4294967296) :
  Calls Tryz.prog 84 #[.int .u32 a, .int .u32 b] w fun e w' => e = .returned (.int .u32 (shl32 a b)) ∧ w = w' := by
 go_enter Tryz.func84, Tryz.ntmps84
 go_wp2
 go_ret
 exact ⟨rfl, rfl⟩

theorem rights_c (a b : Int) (w : World) (h : 0 ≤ a) (h' : a < 4294967296) (h1 : 0 ≤ b) (h1' : b < 4294967296) :
  Calls Tryz.prog 85 #[.int .u32 a, .int .u32 b] w fun e w' => e = .returned (.int .u32 (sar32 a b)) ∧ w = w' := by
 go_enter Tryz.func85, Tryz.ntmps85
 go_wp2
 go_ret
 exact ⟨ret_int (by unfold sar32; rw [← wrap32_sg a h h']), rfl⟩

theorem less_c (a b : Int) (w : World) (h : 0 ≤ a) (h' : a < 4294967296) (h1 : 0 ≤ b) (h1' : b < 4294967296) :
  Calls Tryz.prog 87 #[.int .u32 a, .int .u32 b] w fun e w' => e = .returned (.int .u32 (lessS a b)) ∧ w = w' := by
 have ea := wrap32_sg a h h'
 have eb := wrap32_sg b h1 h1'
 by_cases hl : wrap32 a < wrap32 b
 all_goals
  have H := Lib.hid ea; clear ea
  have H' := Lib.hid eb; clear eb
  go_enter Tryz.func87, Tryz.ntmps87
  go_wp2
  go_ret
  refine ⟨ret_int ?_, rfl⟩
  unfold lessS
  rw [← H.out, ← H'.out]
  simp [hl]

end Go.Proofs.YtchoiankeohonaaGreatDoor

set_option linter.all false
namespace Go.Proofs.YtchoiankeohonaaGreatDoor
open Go Go.RowKit

theorem RdIns.at {w : World} {a : Option Addr} {n c : Nat} {l : List In} (h : RdIns w (.slice a n c) l) : n = l.length ∧ ∀ k, k < l.length → ∃ b o va, a = some ⟨b, o, none⟩ ∧ b < w.heap.size ∧ RdI w va (l.getD k default).args ∧
  (w.cell? ⟨b, o + k * 11, none⟩ = some (.int .i64 (l.getD k default).op) ∧ w.cell? ⟨b, o + k * 11 + 1, none⟩ = some (.int .i64 (l.getD k default).d) ∧ w.cell? ⟨b, o + k * 11 + 2, none⟩ = some (.int .i64 (l.getD k default).a) ∧
  w.cell? ⟨b, o + k * 11 + 3, none⟩ = some (.int .i64 (l.getD k default).b) ∧ w.cell? ⟨b, o + k * 11 + 4, none⟩ = some (.int .i64 (l.getD k default).fn) ∧ w.cell? ⟨b, o + k * 11 + 5, none⟩ = some (.int .i64 (l.getD k default).obj) ∧
  w.cell? ⟨b, o + k * 11 + 6, none⟩ = some (.int .i64 (l.getD k default).off) ∧ w.cell? ⟨b, o + k * 11 + 7, none⟩ = some (.int .i64 (l.getD k default).size) ∧ w.cell? ⟨b, o + k * 11 + 8, none⟩ = some (.int .u32 (l.getD k default).num) ∧
  w.cell? ⟨b, o + k * 11 + 9, none⟩ = some va ∧ w.cell? ⟨b, o + k * 11 + 10, none⟩ = some (.bool (l.getD k default).log)) := by
 obtain ⟨a', c', e, h1, h2, hc⟩ := h
 simp only [Value.slice.injEq] at e
 obtain ⟨rfl, rfl, rfl⟩ := e
 refine ⟨rfl, fun k hk => ?_⟩
 obtain ⟨b, o, rfl, h0, h1, h2, h3, h4, h5, h6, h7, h8, ⟨va, h9, hv⟩, h10⟩ := hc k hk
 exact ⟨b, o, va, rfl, World.block_lt_of_cell? w _ h0, hv, h0, h1, h2, h3, h4, h5, h6, h7, h8, h9, h10⟩
end Go.Proofs.YtchoiankeohonaaGreatDoor

set_option linter.all false
namespace Go.Proofs.YtchoiankeohonaaGreatDoor
open Go.ChangeShapes Go.WideShapes Go.ChangeAt Go.RowKit

theorem OwnI.cellAt {w : World} {B g n c : Nat} {l : List Int} (h : OwnI w B (.slice (some ⟨g, 0, none⟩) n c) l) : n = l.length ∧ n ≤ c ∧ c ≤ maxLen ∧ B ≤ g ∧ (∀ i, i < n → w.cell? ⟨g, i, none⟩ = some (.int .i64 (l.getD i 0))) ∧ ∀ i, w.frozen? ⟨g, i, none⟩ = false := by
 obtain ⟨ad, cp, h1, h2, h3, h4⟩ := h.rd
 simp only [Value.slice.injEq] at h1
 obtain ⟨rfl, rfl, rfl⟩ := h1
 have hf := World.ownsRow.frozenAt h
 obtain ⟨_, ⟨h5, _⟩ | ⟨g', cap, cur, h5, hb, _⟩⟩ := h
 ·simp at h5
 ·simp only [Value.slice.injEq, Option.some.injEq, Addr.mk.injEq] at h5
  refine ⟨rfl, h2, h3, by omega, fun i hi => ?_, hf⟩
  obtain ⟨b, o, e, hc⟩ := h4 i hi
  simp only [Option.some.injEq, Addr.mk.injEq] at e
  obtain ⟨rfl, rfl, _⟩ := e
  simpa using hc
end Go.Proofs.YtchoiankeohonaaGreatDoor

set_option linter.all false
namespace Go.Proofs.YtchoiankeohonaaGreatDoor
open Go.ChangeShapes Go.WideShapes Go.ChangeAt Go.RowKit
set_option maxHeartbeats 2000000
set_option maxRecDepth 20000

def okN (x : Int) : Bool := !(decide (1099511627776 < x) || decide (x < -1099511627776))
def numsI (i : In) : List Int := [i.op, i.d, i.a, i.b, i.fn, i.obj, i.off, i.size]
def insF (i : In) : Bool := (numsI i).all okN && (i.args.all okN && decide (i.args.length ≤ 12))
theorem all_take (l : List Int) (k : Nat) (h : k < l.length) (h1 : (l.take k).all okN = true) (h2 : okN (l.getD k 0) = true) : (l.take (k + 1)).all okN = true := by
 rw [take_snoc l k h, List.all_append, h1]; simp at h2 ⊢; exact h2
theorem all_no (l : List Int) (k : Nat) (h : k < l.length) (h2 : okN (l.getD k 0) = false) : l.all okN = false := by
 rw [List.all_eq_false]
 exact ⟨l.getD k 0, by simp [List.getD, h], by rw [h2]; decide⟩
theorem okN_no {x : Int} (h : okN x = false) : 1099511627776 < x ∨ (¬ 1099511627776 < x ∧ x < -1099511627776) := by
 unfold okN at h; simp at h; omega
theorem okN_yes {x : Int} (h : okN x = true) : ¬ 1099511627776 < x ∧ ¬ x < -1099511627776 := by
 unfold okN at h; simp at h; omega
theorem ins_c (i : In) (v : Value) (w : World) (hv : InV w v i) (hn : i.args.length ≤ 9223372036854775807) :
  Calls Tryz.prog 30 #[v] w fun e w' => e = .returned (.bool (insF i)) ∧ Below w.heap.size w w' := by
 obtain ⟨va, rfl, a, c, rfl, hc1, hc2, hcell⟩ := hv
 have HC := Lib.hid hcell
 clear hcell
 have HI : Hid (insF i = ((numsI i).all okN && (i.args.all okN && decide (i.args.length ≤ 12)))) := rfl
 have hnl : (numsI i).length = 8 := rfl
 have HN : Hid (∀ (w1 : World), OwnI (w1.alloc (.cells #[.int .i64 i.op, .int .i64 i.d, .int .i64 i.a, .int .i64 i.b, .int .i64 i.fn, .int .i64 i.obj, .int .i64 i.off, .int .i64 i.size] 3)) 0 (.slice (some ⟨w1.heap.size, 0, none⟩) 8 8) (numsI i)) := fun w1 => OwnI.mk w1 0 (numsI i) (Nat.zero_le _) (by rw [hnl]; simp [maxLen])
 have hB : Hid (∀ o o', Below w.heap.size w ((w.alloc o).alloc o')) := fun o o' => (below_alloc w o).trans ((below_alloc _ o').mono (by simp))
 go_enter Tryz.func30, Tryz.ntmps30
 go_wp2_with fail
 go_loopw [4] (fun k wr => ∃ n : Nat, n ≤ 8 ∧ k = .int .i64 (n : Int) ∧ wr = ((w.alloc (.cells #[.int .i64 i.op, .int .i64 i.d, .int .i64 i.a, .int .i64 i.b, .int .i64 i.fn, .int .i64 i.obj, .int .i64 i.off, .int .i64 i.size, .int .u32 i.num, .slice a i.args.length c, .bool i.log] 48)).alloc (.cells #[.int .i64 i.op, .int .i64 i.d, .int .i64 i.a, .int .i64 i.b, .int .i64 i.fn, .int .i64 i.obj, .int .i64 i.off, .int .i64 i.size] 3)) ∧ Hid (((numsI i).take n).all okN = true)) (fun k _ => 8 - (intOf k).toNat)
 case atStart => exact ⟨0, Nat.zero_le _, rfl, rfl, rfl⟩
 case round =>
  obtain ⟨n, hn8, rfl, hwr, HA⟩ := hrel
  have hBr : Hid (Below w.heap.size w wr) := by rw [hwr]; exact hB.out _ _
  have HNr : OwnI wr 0 (.slice (some ⟨w.heap.size + 1, 0, none⟩) 8 8) (numsI i) := by
   rw [hwr]
   have := HN.out (w.alloc (.cells #[.int .i64 i.op, .int .i64 i.d, .int .i64 i.a, .int .i64 i.b, .int .i64 i.fn, .int .i64 i.obj, .int .i64 i.off, .int .i64 i.size, .int .u32 i.num, .slice a i.args.length c, .bool i.log] 48))
   simpa using this
  have q9 : wr.cell? ⟨w.heap.size, 9, none⟩ = some (.slice a i.args.length c) := by rw [hwr]; simp
  by_cases hlt : n < 8
  ·have hcn := HNr.cellAt.2.2.2.2.1 n hlt
   have hY := all_take (numsI i) n (by rw [hnl]; exact hlt) HA.out
   have hZ := all_no (numsI i) n (by rw [hnl]; exact hlt)
   generalize (numsI i).getD n 0 = x at *
   cases hx : okN x
   ·have HF : Hid (insF i = false) := by show _ = _; rw [HI.out, hZ hx]; rfl
    have hx' := okN_no hx
    clear hY hZ hx HNr hwr
    rcases hx' with hx' | ⟨hx', hx2⟩
    ·have e1 : decide (1099511627776 < x) = true := decide_eq_true hx'
     go_wp2_with fail
     go_ret
     exact ⟨ret_b HF.out.symm, hBr.out⟩
    ·have e1 : decide (1099511627776 < x) = false := decide_eq_false hx'
     have e2 : decide (x < -1099511627776) = true := decide_eq_true hx2
     go_wp2_with fail
     go_ret
     exact ⟨ret_b HF.out.symm, hBr.out⟩
   ·have HA2 := Lib.hid (hY hx)
    obtain ⟨hx1, hx2⟩ := okN_yes hx
    have e1 : decide (1099511627776 < x) = false := decide_eq_false hx1
    have e2 : decide (x < -1099511627776) = false := decide_eq_false hx2
    clear hY hZ hx HNr
    have hwr2 := Lib.hid hwr
    clear hwr
    go_wp2_with fail
    go_roundw
    case rel => exact ⟨n + 1, by omega, by go_num, hwr2.out, HA2⟩
    case measure => simp [intOf]; omega
  ·have HA3 : Hid ((numsI i).all okN = true) := by have := HA.out; rwa [List.take_of_length_le (by rw [hnl]; omega)] at this
   clear HNr hwr HA
   go_wp2_with fail
   go_loopw [5] (fun k wr => ∃ n : Nat, n ≤ i.args.length ∧ k = .int .i64 (n : Int) ∧ Hid (Below w.heap.size w wr) ∧ wr.cell? ⟨w.heap.size, 9, none⟩ = some (.slice a i.args.length c) ∧ Hid ((i.args.take n).all okN = true)) (fun k _ => i.args.length - (intOf k).toNat)
   case atStart => exact ⟨0, Nat.zero_le _, rfl, hBr, q9, rfl⟩
   case round =>
    clear q9
    obtain ⟨n, hnn, rfl, hBr, q9, HA⟩ := hrel
    by_cases hlt : n < i.args.length
    ·obtain ⟨b, o, rfl, hc⟩ := HC.out n hlt
     simp only [Nat.mul_one, Nat.add_zero] at hc
     replace hc := Ext.below hBr.out _ _ hc
     have hY := all_take i.args n hlt HA.out
     have hZ := all_no i.args n hlt
     generalize i.args.getD n 0 = x at *
     cases hx : okN x
     ·have HF : Hid (insF i = false) := by show _ = _; rw [HI.out, HA3.out, hZ hx]; rfl
      have hx' := okN_no hx
      clear hY hZ hx
      rcases hx' with hx' | ⟨hx', hx2⟩
      ·have e1 : decide (1099511627776 < x) = true := decide_eq_true hx'
       go_wp2_with fail
       go_ret
       exact ⟨ret_b HF.out.symm, hBr.out⟩
      ·have e1 : decide (1099511627776 < x) = false := decide_eq_false hx'
       have e2 : decide (x < -1099511627776) = true := decide_eq_true hx2
       go_wp2_with fail
       go_ret
       exact ⟨ret_b HF.out.symm, hBr.out⟩
     ·have HA2 := Lib.hid (hY hx)
      obtain ⟨hx1, hx2⟩ := okN_yes hx
      have e1 : decide (1099511627776 < x) = false := decide_eq_false hx1
      have e2 : decide (x < -1099511627776) = false := decide_eq_false hx2
      clear hY hZ hx
      go_wp2_with fail
      go_roundw
      case rel => exact ⟨n + 1, by omega, by go_num, hBr, q9, HA2⟩
      case measure => simp [intOf]; omega
    ·have HA4 : Hid (i.args.all okN = true) := by have := HA.out; rwa [List.take_of_length_le (by omega)] at this
     have HF : Hid (insF i = decide ((i.args.length : Int) ≤ 12)) := by show _ = _; rw [HI.out, HA3.out, HA4.out]; simp; omega
     go_wp2_with fail
     go_ret
     exact ⟨ret_b HF.out.symm, hBr.out⟩
end Go.Proofs.YtchoiankeohonaaGreatDoor

set_option linter.all false
namespace Go.Proofs.YtchoiankeohonaaGreatDoor
open Go.ChangeShapes Go.WideShapes Go.ChangeAt Go.RowKit
set_option maxHeartbeats 2000000
set_option maxRecDepth 20000

def blkF (b : Bk) : Bool := decide (b.ins.length ≤ 60) && b.ins.all insF
def prF (p : Pr) : Bool := decide (p.blks.length ≤ 40) && (decide (p.objs.length ≤ 20) && p.blks.all blkF)
def fewM (m : Md) : Bool := decide (m.procs.length ≤ 6) && (decide (m.globs.length ≤ 20) && (decide (m.data.length ≤ 20) && m.procs.all prF))
theorem allG_take {α : Type} [Inhabited α] (f : α → Bool) (l : List α) (k : Nat) (h : k < l.length) (h1 : (l.take k).all f = true) (h2 : f (l.getD k default) = true) : (l.take (k + 1)).all f = true := by
 rw [List.take_succ_eq_append_getElem h, List.all_append, h1]
 have : f l[k] = true := by simpa [List.getD, h] using h2
 simp [this]
theorem allG_no {α : Type} [Inhabited α] (f : α → Bool) (l : List α) (k : Nat) (h : k < l.length) (h2 : f (l.getD k default) = false) : l.all f = false := by
 rw [List.all_eq_false]
 exact ⟨l.getD k default, by simp [List.getD, h], by rw [h2]; decide⟩
theorem RdPrs.at {w : World} {a : Option Addr} {n c : Nat} {l : List Pr} (h : RdPrs w (.slice a n c) l) : n = l.length ∧ ∀ k, k < l.length → ∃ b o vo vb, a = some ⟨b, o, none⟩ ∧ RdSls w vo (l.getD k default).objs ∧ RdBks w vb (l.getD k default).blks ∧
  w.cell? ⟨b, o + k * 6 + 4, none⟩ = some vo ∧ w.cell? ⟨b, o + k * 6 + 5, none⟩ = some vb := by
 obtain ⟨a', c', e, h1, h2, hc⟩ := h
 simp only [Value.slice.injEq] at e
 obtain ⟨rfl, rfl, rfl⟩ := e
 refine ⟨rfl, fun k hk => ?_⟩
 obtain ⟨b, o, rfl, h0, h1, h2, h3, ⟨vo, h4, ho⟩, ⟨vb, h5, hb⟩⟩ := hc k hk
 exact ⟨b, o, vo, vb, rfl, ho, hb, h4, h5⟩
theorem RdBks.at {w : World} {a : Option Addr} {n c : Nat} {l : List Bk} (h : RdBks w (.slice a n c) l) : n = l.length ∧ ∀ k, k < l.length → ∃ b o vi, a = some ⟨b, o, none⟩ ∧ RdIns w vi (l.getD k default).ins ∧ w.cell? ⟨b, o + k * 5, none⟩ = some vi ∧
  w.cell? ⟨b, o + k * 5 + 1, none⟩ = some (.int .i64 (l.getD k default).fin) ∧ w.cell? ⟨b, o + k * 5 + 2, none⟩ = some (.int .i64 (l.getD k default).a) ∧ w.cell? ⟨b, o + k * 5 + 3, none⟩ = some (.int .i64 (l.getD k default).to) ∧ w.cell? ⟨b, o + k * 5 + 4, none⟩ = some (.int .i64 (l.getD k default).els) := by
 obtain ⟨a', c', e, h1, h2, hc⟩ := h
 simp only [Value.slice.injEq] at e
 obtain ⟨rfl, rfl, rfl⟩ := e
 refine ⟨rfl, fun k hk => ?_⟩
 obtain ⟨b, o, rfl, ⟨vi, h0, hi⟩, h1, h2, h3, h4⟩ := hc k hk
 exact ⟨b, o, vi, rfl, hi, by simpa using h0, h1, h2, h3, h4⟩
theorem few_no (m : Md) (v : Value) (w : World) (hv : MdV w v m) (h : ¬ (m.procs.length ≤ 6 ∧ m.globs.length ≤ 20 ∧ m.data.length ≤ 20)) :
  Calls Tryz.prog 13 #[v] w fun e w' => e = .returned (.bool (fewM m)) ∧ Below w.heap.size w w' := by
 obtain ⟨vg, vd, vp, rfl, ⟨ag, cg, rfl, hg1, hg2, -⟩, ⟨ad, cd, rfl, hd1, hd2, -⟩, ⟨ap, cp, rfl, hp1, hp2, -⟩⟩ := hv
 unfold maxLen at hg2 hd2 hp2
 have HF : Hid (fewM m = false) := by
  show _ = _
  unfold fewM
  by_cases h1 : m.procs.length ≤ 6
  ·by_cases h2 : m.globs.length ≤ 20
   ·rw [decide_eq_false (fun h3 => h ⟨h1, h2, h3⟩)]; simp
   ·rw [decide_eq_false h2]; simp
  ·rw [decide_eq_false h1]; rfl
 by_cases h1 : m.procs.length ≤ 6
 ·have e1 : decide ((6 : Int) < (m.procs.length : Int)) = false := decide_eq_false (by omega)
  by_cases h2 : m.globs.length ≤ 20
  ·have e2 : decide ((20 : Int) < (m.globs.length : Int)) = false := decide_eq_false (by omega)
   have h3 : ¬ m.data.length ≤ 20 := fun h3 => h ⟨h1, h2, h3⟩
   have e3 : decide ((20 : Int) < (m.data.length : Int)) = true := decide_eq_true (by omega)
   clear h
   go_enter Tryz.func13, Tryz.ntmps13
   go_wp2_with fail
   go_ret
   exact ⟨ret_b HF.out.symm, below_alloc _ _⟩
  ·have e2 : decide ((20 : Int) < (m.globs.length : Int)) = true := decide_eq_true (by omega)
   clear h
   go_enter Tryz.func13, Tryz.ntmps13
   go_wp2_with fail
   go_ret
   exact ⟨ret_b HF.out.symm, below_alloc _ _⟩
 ·have e1 : decide ((6 : Int) < (m.procs.length : Int)) = true := decide_eq_true (by omega)
  clear h
  go_enter Tryz.func13, Tryz.ntmps13
  go_wp2_with fail
  go_ret
  exact ⟨ret_b HF.out.symm, below_alloc _ _⟩
theorem few_yes (m : Md) (v : Value) (w : World) (hv : MdV w v m) (h1 : m.procs.length ≤ 6) (h2 : m.globs.length ≤ 20) (h3 : m.data.length ≤ 20) :
  Calls Tryz.prog 13 #[v] w fun e w' => e = .returned (.bool (fewM m)) ∧ Below w.heap.size w w' := by
 obtain ⟨vg, vd, vp, rfl, ⟨ag, cg, rfl, hg1, hg2, -⟩, ⟨ad, cd, rfl, hd1, hd2, -⟩, hp⟩ := hv
 have hp' := hp
 obtain ⟨ap, cp, rfl, hp1, hp2, -⟩ := hp'
 have HP := Lib.hid (RdPrs.at hp).2
 clear hp
 unfold maxLen at hg2 hd2 hp2
 have HF : Hid (fewM m = m.procs.all prF) := by
  show _ = _
  unfold fewM; rw [decide_eq_true h1, decide_eq_true h2, decide_eq_true h3]; rfl
 have e1 : decide ((6 : Int) < (m.procs.length : Int)) = false := decide_eq_false (by omega)
 have e2 : decide ((20 : Int) < (m.globs.length : Int)) = false := decide_eq_false (by omega)
 have e3 : decide ((20 : Int) < (m.data.length : Int)) = false := decide_eq_false (by omega)
 go_enter Tryz.func13, Tryz.ntmps13
 go_wp2_with fail
 clear e1 e2 e3 h2 h3
 obtain ⟨W0, hW0⟩ : ∃ W0, W0 = (w.alloc (.cells #[.slice ag m.globs.length cg, .slice ad m.data.length cd, .slice ap m.procs.length cp, .int .i64 m.main] 26)) := ⟨_, rfl⟩
 have hz0 : W0.heap.size = w.heap.size + 1 := by rw [hW0]; simp
 have HBW : Hid (Below w.heap.size w W0) := by rw [hW0]; exact below_alloc w _
 have HX : Hid (∀ w', Below (w.heap.size + 1) W0 w' → w'.cell? ⟨w.heap.size, 2, none⟩ = some (.slice ap m.procs.length cp)) := fun w' hb => (hb.cell (p := ⟨w.heap.size, 2, none⟩) (Nat.lt_succ_self _)).trans (by rw [hW0, cell_of_heap (heap_alloc_new w _)]; rfl)
 have HE : Hid (∀ w', Below (w.heap.size + 1) W0 w' → Ext w w') := fun w' hb => (show Ext w W0 by rw [hW0]; exact Ext.alloc w _).trans (Ext.below (hb.mono (by omega)))
 have HR : Hid (∀ w', Below (w.heap.size + 1) W0 w' → Below w.heap.size w w') := fun w' hb => HBW.out.trans (hb.mono (by omega))
 have hB0 : Hid (Below (w.heap.size + 1) W0 W0) := Below.refl _ _
 rw [← hW0]
 clear hW0 HBW
 go_loopw [3] (fun i wr => ∃ k : Nat, k ≤ m.procs.length ∧ i = .int .i64 (k : Int) ∧ Hid (Below (w.heap.size + 1) W0 wr) ∧ Hid ((m.procs.take k).all prF = true)) (fun i _ => m.procs.length - (intOf i).toNat)
 case atStart => exact ⟨0, Nat.zero_le _, rfl, hB0, rfl⟩
 case round =>
  clear hB0
  obtain ⟨k, hk, rfl, hB, HA⟩ := hrel
  have q2 := HX.out wr hB.out
  by_cases hlt : k < m.procs.length
  ·obtain ⟨bp, op, vo, vb, rfl, hvo, hvb, d4, d5⟩ := HP.out k hlt
   have e5b := d5
   replace d4 := HE.out wr hB.out _ _ d4
   replace d5 := HE.out wr hB.out _ _ d5
   have hY := allG_take prF m.procs k hlt HA.out
   have hZ := allG_no prF m.procs k hlt
   generalize m.procs.getD k default = P at *
   obtain ⟨ao, co, rfl, ho1, ho2, -⟩ := hvo
   have hvb' := hvb
   obtain ⟨ab, cb, rfl, hb1, hb2, -⟩ := hvb'
   have HBk := Lib.hid (RdBks.at hvb).2
   clear hvb
   unfold maxLen at ho2 hb2
   by_cases h4 : P.blks.length ≤ 40
   ·have e4 : decide ((40 : Int) < (P.blks.length : Int)) = false := decide_eq_false (by omega)
    by_cases h5 : P.objs.length ≤ 20
    ·have e5 : decide ((20 : Int) < (P.objs.length : Int)) = false := decide_eq_false (by omega)
     have HPF : Hid (prF P = P.blks.all blkF) := by
      show _ = _
      unfold prF; rw [decide_eq_true h4, decide_eq_true h5]; rfl
     have hY := Lib.hid hY
     have hZ := Lib.hid hZ
     have D5 := Lib.hid e5b
     go_wp2_with fail
     clear e4 e5 h5 q2 d4 d5
     go_loopw [4] (fun i wr => ∃ j : Nat, j ≤ P.blks.length ∧ i = .int .i64 (j : Int) ∧ Hid (Below (w.heap.size + 1) W0 wr) ∧ Hid ((P.blks.take j).all blkF = true)) (fun i _ => P.blks.length - (intOf i).toNat)
     case atStart => exact ⟨0, Nat.zero_le _, rfl, hB, rfl⟩
     case round =>
      clear hB
      obtain ⟨j, hj, rfl, hB, HA2⟩ := hrel
      have q2 := HX.out wr hB.out
      have d5 := HE.out wr hB.out _ _ D5.out
      by_cases hlj : j < P.blks.length
      ·obtain ⟨b2, o2, vi, rfl, hvi, c0, -⟩ := HBk.out j hlj
       have C0 := Lib.hid c0
       replace c0 := HE.out wr hB.out _ _ c0
       have hY2 := Lib.hid (allG_take blkF P.blks j hlj HA2.out)
       have hZ2 := Lib.hid (allG_no blkF P.blks j hlj)
       generalize P.blks.getD j default = K at *
       have hvi' := hvi
       obtain ⟨ai, ci, rfl, hi1, hi2, -⟩ := hvi'
       have HIn := Lib.hid (RdIns.at hvi).2
       clear hvi
       unfold maxLen at hi2
       by_cases h6 : K.ins.length ≤ 60
       ·have e6 : decide ((60 : Int) < (K.ins.length : Int)) = false := decide_eq_false (by omega)
        have HKF : Hid (blkF K = K.ins.all insF) := by
         show _ = _
         unfold blkF; rw [decide_eq_true h6]; rfl
        go_wp2_with fail
        clear e6 q2 d5 c0
        go_loopw [5] (fun i wr => ∃ n : Nat, n ≤ K.ins.length ∧ i = .int .i64 (n : Int) ∧ Hid (Below (w.heap.size + 1) W0 wr) ∧ Hid ((K.ins.take n).all insF = true)) (fun i _ => K.ins.length - (intOf i).toNat)
        case atStart => exact ⟨0, Nat.zero_le _, rfl, hB, rfl⟩
        case round =>
         clear hB
         obtain ⟨n, hn, rfl, hB, HA3⟩ := hrel
         have q2 := HX.out wr hB.out
         have d5 := HE.out wr hB.out _ _ D5.out
         have c0 := HE.out wr hB.out _ _ C0.out
         by_cases hln : n < K.ins.length
         ·obtain ⟨b3, o3, va, rfl, -, hva, x0, x1, x2, x3, x4, x5, x6, x7, x8, x9, x10⟩ := HIn.out n hln
          replace x0 := HE.out wr hB.out _ _ x0
          replace x1 := HE.out wr hB.out _ _ x1
          replace x2 := HE.out wr hB.out _ _ x2
          replace x3 := HE.out wr hB.out _ _ x3
          replace x4 := HE.out wr hB.out _ _ x4
          replace x5 := HE.out wr hB.out _ _ x5
          replace x6 := HE.out wr hB.out _ _ x6
          replace x7 := HE.out wr hB.out _ _ x7
          replace x8 := HE.out wr hB.out _ _ x8
          replace x9 := HE.out wr hB.out _ _ x9
          replace x10 := HE.out wr hB.out _ _ x10
          have hY3 := allG_take insF K.ins n hln HA3.out
          have hZ3 := allG_no insF K.ins n hln
          generalize K.ins.getD n default = I at *
          have hva' := hva
          obtain ⟨aa, ca, rfl, ha1, ha2, -⟩ := hva'
          unfold maxLen at ha2
          have EI : Hid (Calls Tryz.prog 30 #[.agg #[.int .i64 I.op, .int .i64 I.d, .int .i64 I.a, .int .i64 I.b, .int .i64 I.fn, .int .i64 I.obj, .int .i64 I.off, .int .i64 I.size, .int .u32 I.num, .slice aa I.args.length ca, .bool I.log]] wr fun e w' => e = .returned (.bool (insF I)) ∧ Below wr.heap.size wr w') := ins_c I _ wr ⟨_, rfl, hva.ext (HE.out wr hB.out)⟩ (by omega)
          clear hva
          have hBs : w.heap.size + 1 ≤ wr.heap.size := by have := hB.out.size; omega
          cases hx : insF I
          ·rw [hx] at EI
           have HFf : Hid (fewM m = false) := by
            show _ = _
            rw [HF.out, hZ.out (by rw [HPF.out, hZ2.out (by rw [HKF.out, hZ3 hx])])]
           clear hY3 hZ3 hx
           go_wp2_with (go_at_call 30; refine EI.out.mono ?_; rintro e w1 ⟨rfl, hb1⟩; have hb1 := Lib.hid hb1)
           go_ret
           exact ⟨ret_b HFf.out.symm, HR.out _ (hB.out.trans (hb1.out.mono hBs))⟩
          ·rw [hx] at EI
           have HA4 := Lib.hid (hY3 hx)
           clear hY3 hZ3 hx
           go_wp2_with (go_at_call 30; refine EI.out.mono ?_; rintro e w1 ⟨rfl, hb1⟩; have hb1 := Lib.hid hb1)
           go_roundw
           case rel => exact ⟨n + 1, by omega, by go_num, hB.out.trans (hb1.out.mono hBs), HA4⟩
           case measure => simp [intOf]; omega
         ·have HK1 : Hid ((P.blks.take (j + 1)).all blkF = true) := hY2.out (by rw [HKF.out]; have := HA3.out; rwa [List.take_of_length_le (by omega)] at this)
          go_wp2_with fail
          go_roundw
          case rel => exact ⟨j + 1, by omega, by go_num, hB, HK1⟩
          case measure => simp [intOf]; omega
       ·have e6 : decide ((60 : Int) < (K.ins.length : Int)) = true := decide_eq_true (by omega)
        have HFf : Hid (fewM m = false) := by
         show _ = _
         rw [HF.out, hZ.out (by rw [HPF.out, hZ2.out (by unfold blkF; rw [decide_eq_false h6]; rfl)])]
        go_wp2_with fail
        go_ret
        exact ⟨ret_b HFf.out.symm, HR.out _ hB.out⟩
      ·have HP1 : Hid ((m.procs.take (k + 1)).all prF = true) := hY.out (by rw [HPF.out]; have := HA2.out; rwa [List.take_of_length_le (by omega)] at this)
       go_wp2_with fail
       go_roundw
       case rel => exact ⟨k + 1, by omega, by go_num, hB, HP1⟩
       case measure => simp [intOf]; omega
    ·have e5 : decide ((20 : Int) < (P.objs.length : Int)) = true := decide_eq_true (by omega)
     have HFf : Hid (fewM m = false) := by
      show _ = _
      rw [HF.out, hZ (by unfold prF; rw [decide_eq_true h4, decide_eq_false h5]; rfl)]
     clear hY hZ
     go_wp2_with fail
     go_ret
     exact ⟨ret_b HFf.out.symm, HR.out _ hB.out⟩
   ·have e4 : decide ((40 : Int) < (P.blks.length : Int)) = true := decide_eq_true (by omega)
    have HFf : Hid (fewM m = false) := by
     show _ = _
     rw [HF.out, hZ (by unfold prF; rw [decide_eq_false h4]; rfl)]
    clear hY hZ
    go_wp2_with fail
    go_ret
    exact ⟨ret_b HFf.out.symm, HR.out _ hB.out⟩
  ·have HFt : Hid (fewM m = true) := by
    show _ = _
    rw [HF.out]; have := HA.out; rwa [List.take_of_length_le (by omega)] at this
   go_wp2_with fail
   go_ret
   exact ⟨ret_b HFt.out.symm, HR.out _ hB.out⟩
theorem few_c (m : Md) (v : Value) (w : World) (hv : MdV w v m) :
  Calls Tryz.prog 13 #[v] w fun e w' => e = .returned (.bool (fewM m)) ∧ Below w.heap.size w w' := by
 by_cases h : m.procs.length ≤ 6 ∧ m.globs.length ≤ 20 ∧ m.data.length ≤ 20
 ·exact few_yes m v w hv h.1 h.2.1 h.2.2
 ·exact few_no m v w hv h
end Go.Proofs.YtchoiankeohonaaGreatDoor
