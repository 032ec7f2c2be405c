/-
 Contracts of the functions of word and of its reference: each returns the number that the plain arithmetic of W1 says, and leaves the world as it is. Conditions: each word lies between 0 and 2^32 - 1.; Rows of instructions, one by one.; The cells of an own row of numbers.; Contract of the statements' ins: are an instruction's numbers such as statements go through?
-/
import Derived.Test.YtobfpfjdkpaeiaaRows
import Derived.WalkKit
import Derived.ProofKit
import Derived.OpenShut
import Derived.Outline
import Derived.Lib.Hide
import Derived.Deep.QuietTactic
import Derived.BigQuiet
import Derived.Test.YtobfpfjdkpaeiaaZInlineDoes03
import Derived.Test.YtobfpfjdkpaeiaaZInlineDoes02
import Derived.Laws.OwnMore
import Derived.Test.YtobfpfjdkpaeiaaZInlineDoes01

set_option linter.all false
namespace Go.Proofs.Ytobfpfjdkpaeiaa
open Go.ChangeShapes Go.WideShapes Go.ChangeAt Go.RowKit
set_option maxHeartbeats 400000
set_option linter.unusedVariables false

theorem ret_int {k : IntKind} {a b : Int} (h : a = b) : Ending.returned (.int k a) = .returned (.int k b) := by rw [h]
theorem wraps_u32 (n : Int) (h₀ : 0 ≤ n) (h₁ : n < 2 ^ 32) : IntKind.u32.wrap n = n := by rw [IntKind.wrap_u32]; omega
theorem u32_and31 (x : Int) (h₀ : 0 ≤ x) (h₁ : x < 4294967296) : bits .and .u32 x 31 = x % 32 := bits_mask .u32 32 (by decide) wraps_u32 5 (by decide) x h₀ h₁
attribute [local go_sem] u32_and31

theorem add_c (a b : Int) (w : World)  :
  Calls Try.prog 128 #[.int .u32 a, .int .u32 b] w fun e w' => e = .returned (.int .u32 ((a + b) % 4294967296)) ∧ w = w' := by
 go_enter Try.func128, Try.ntmps128
 go_wp2
 go_ret
 exact ⟨rfl, rfl⟩

theorem sub_c (a b : Int) (w : World)  :
  Calls Try.prog 129 #[.int .u32 a, .int .u32 b] w fun e w' => e = .returned (.int .u32 ((a - b) % 4294967296)) ∧ w = w' := by
 go_enter Try.func129, Try.ntmps129
 go_wp2
 go_ret
 exact ⟨rfl, rfl⟩

theorem mul_c (a b : Int) (w : World)  :
  Calls Try.prog 130 #[.int .u32 a, .int .u32 b] w fun e w' => e = .returned (.int .u32 ((a * b) % 4294967296)) ∧ w = w' := by
 go_enter Try.func130, Try.ntmps130
 go_wp2
 go_ret
 exact ⟨rfl, rfl⟩

theorem div_c (a b : Int) (w : World) (h : 0 ≤ a) (h' : a < 4294967296) (h1 : 0 ≤ b) (h1' : b < 4294967296) :
  Calls Try.prog 131 #[.int .u32 a, .int .u32 b] w fun e w' => e = .returned (.int .u32 (divS a b)) ∧ w = w' := by
 by_cases hb : b = 0
 ·go_enter Try.func131, Try.ntmps131
  go_wp2
  go_ret
  exact ⟨ret_int (by unfold divS; rw [if_pos hb]), rfl⟩
 ·have hz := sg_zero b h1 h1'
  have hs : ¬ wrap64 (wrap32 b) = 0 := by
   have hb' := sg_bd b h1 h1'
   rw [wrap32_sg b h1 h1', wrap64_in _ (by omega) (by omega)]; omega
  clear hz
  go_enter Try.func131, Try.ntmps131
  go_wp2
  go_ret
  exact ⟨ret_int (div_eq a b h h' h1 h1' hb), rfl⟩

theorem rem_c (a b : Int) (w : World) (h : 0 ≤ a) (h' : a < 4294967296) (h1 : 0 ≤ b) (h1' : b < 4294967296) :
  Calls Try.prog 132 #[.int .u32 a, .int .u32 b] w fun e w' => e = .returned (.int .u32 (remS a b)) ∧ w = w' := by
 by_cases hb : b = 0
 ·go_enter Try.func132, Try.ntmps132
  go_wp2
  go_ret
  exact ⟨ret_int (by unfold remS; rw [if_pos hb]), rfl⟩
 ·have hz := sg_zero b h1 h1'
  have hs : ¬ wrap64 (wrap32 b) = 0 := by
   have hb' := sg_bd b h1 h1'
   rw [wrap32_sg b h1 h1', wrap64_in _ (by omega) (by omega)]; omega
  clear hz
  go_enter Try.func132, Try.ntmps132
  go_wp2
  go_ret
  exact ⟨ret_int (rem_eq a b h h' h1 h1' hb), rfl⟩

theorem left_c (a b : Int) (w : World) (h : 0 ≤ a) (h' : a < 4294967296) (h1 : 0 ≤ b) (h1' : b < 4294967296) :
  Calls Try.prog 133 #[.int .u32 a, .int .u32 b] w fun e w' => e = .returned (.int .u32 (shl32 a b)) ∧ w = w' := by
 go_enter Try.func133, Try.ntmps133
 go_wp2
 go_ret
 exact ⟨rfl, rfl⟩

theorem rights_c (a b : Int) (w : World) (h : 0 ≤ a) (h' : a < 4294967296) (h1 : 0 ≤ b) (h1' : b < 4294967296) :
  Calls Try.prog 134 #[.int .u32 a, .int .u32 b] w fun e w' => e = .returned (.int .u32 (sar32 a b)) ∧ w = w' := by
 go_enter Try.func134, Try.ntmps134
 go_wp2
 go_ret
 exact ⟨ret_int (by unfold sar32; rw [← wrap32_sg a h h']), rfl⟩

theorem less_c (a b : Int) (w : World) (h : 0 ≤ a) (h' : a < 4294967296) (h1 : 0 ≤ b) (h1' : b < 4294967296) :
  Calls Try.prog 136 #[.int .u32 a, .int .u32 b] w fun e w' => e = .returned (.int .u32 (lessS a b)) ∧ w = w' := by
 have ea := wrap32_sg a h h'
 have eb := wrap32_sg b h1 h1'
 by_cases hl : wrap32 a < wrap32 b
 all_goals
  have H := Lib.hid ea; clear ea
  have H' := Lib.hid eb; clear eb
  go_enter Try.func136, Try.ntmps136
  go_wp2
  go_ret
  refine ⟨ret_int ?_, rfl⟩
  unfold lessS
  rw [← H.out, ← H'.out]
  simp [hl]

end Go.Proofs.Ytobfpfjdkpaeiaa

set_option linter.all false
namespace Go.Proofs.Ytobfpfjdkpaeiaa
open Go Go.RowKit

theorem RdIns.at {w : World} {a : Option Addr} {n c : Nat} {l : List In} (h : RdIns w (.slice a n c) l) : n = l.length ∧ ∀ k, k < l.length → ∃ b o va, a = some ⟨b, o, none⟩ ∧ b < w.heap.size ∧ RdI w va (l.getD k default).args ∧
  (w.cell? ⟨b, o + k * 11, none⟩ = some (.int .i64 (l.getD k default).op) ∧ w.cell? ⟨b, o + k * 11 + 1, none⟩ = some (.int .i64 (l.getD k default).d) ∧ w.cell? ⟨b, o + k * 11 + 2, none⟩ = some (.int .i64 (l.getD k default).a) ∧
  w.cell? ⟨b, o + k * 11 + 3, none⟩ = some (.int .i64 (l.getD k default).b) ∧ w.cell? ⟨b, o + k * 11 + 4, none⟩ = some (.int .i64 (l.getD k default).fn) ∧ w.cell? ⟨b, o + k * 11 + 5, none⟩ = some (.int .i64 (l.getD k default).obj) ∧
  w.cell? ⟨b, o + k * 11 + 6, none⟩ = some (.int .i64 (l.getD k default).off) ∧ w.cell? ⟨b, o + k * 11 + 7, none⟩ = some (.int .i64 (l.getD k default).size) ∧ w.cell? ⟨b, o + k * 11 + 8, none⟩ = some (.int .u32 (l.getD k default).num) ∧
  w.cell? ⟨b, o + k * 11 + 9, none⟩ = some va ∧ w.cell? ⟨b, o + k * 11 + 10, none⟩ = some (.bool (l.getD k default).log)) := by
 obtain ⟨a', c', e, h1, h2, hc⟩ := h
 simp only [Value.slice.injEq] at e
 obtain ⟨rfl, rfl, rfl⟩ := e
 refine ⟨rfl, fun k hk => ?_⟩
 obtain ⟨b, o, rfl, h0, h1, h2, h3, h4, h5, h6, h7, h8, ⟨va, h9, hv⟩, h10⟩ := hc k hk
 exact ⟨b, o, va, rfl, World.block_lt_of_cell? w _ h0, hv, h0, h1, h2, h3, h4, h5, h6, h7, h8, h9, h10⟩
end Go.Proofs.Ytobfpfjdkpaeiaa

set_option linter.all false
namespace Go.Proofs.Ytobfpfjdkpaeiaa
open Go.ChangeShapes Go.WideShapes Go.ChangeAt Go.RowKit

theorem OwnI.cellAt {w : World} {B g n c : Nat} {l : List Int} (h : OwnI w B (.slice (some ⟨g, 0, none⟩) n c) l) : n = l.length ∧ n ≤ c ∧ c ≤ maxLen ∧ B ≤ g ∧ (∀ i, i < n → w.cell? ⟨g, i, none⟩ = some (.int .i64 (l.getD i 0))) ∧ ∀ i, w.frozen? ⟨g, i, none⟩ = false := by
 obtain ⟨ad, cp, h1, h2, h3, h4⟩ := h.rd
 simp only [Value.slice.injEq] at h1
 obtain ⟨rfl, rfl, rfl⟩ := h1
 have hf := World.ownsRow.frozenAt h
 obtain ⟨_, ⟨h5, _⟩ | ⟨g', cap, cur, h5, hb, _⟩⟩ := h
 ·simp at h5
 ·simp only [Value.slice.injEq, Option.some.injEq, Addr.mk.injEq] at h5
  refine ⟨rfl, h2, h3, by omega, fun i hi => ?_, hf⟩
  obtain ⟨b, o, e, hc⟩ := h4 i hi
  simp only [Option.some.injEq, Addr.mk.injEq] at e
  obtain ⟨rfl, rfl, _⟩ := e
  simpa using hc
end Go.Proofs.Ytobfpfjdkpaeiaa

set_option linter.all false
namespace Go.Proofs.Ytobfpfjdkpaeiaa
open Go.ChangeShapes Go.WideShapes Go.ChangeAt Go.RowKit
set_option maxHeartbeats 2000000
set_option maxRecDepth 20000

def okN (x : Int) : Bool := !(decide (1099511627776 < x) || decide (x < -1099511627776))
def numsI (i : In) : List Int := [i.op, i.d, i.a, i.b, i.fn, i.obj, i.off, i.size]
def insF (i : In) : Bool := (numsI i).all okN && (i.args.all okN && decide (i.args.length ≤ 12))
theorem all_take (l : List Int) (k : Nat) (h : k < l.length) (h1 : (l.take k).all okN = true) (h2 : okN (l.getD k 0) = true) : (l.take (k + 1)).all okN = true := by
 rw [take_snoc l k h, List.all_append, h1]; simp at h2 ⊢; exact h2
theorem all_no (l : List Int) (k : Nat) (h : k < l.length) (h2 : okN (l.getD k 0) = false) : l.all okN = false := by
 rw [List.all_eq_false]
 exact ⟨l.getD k 0, by simp [List.getD, h], by rw [h2]; decide⟩
theorem okN_no {x : Int} (h : okN x = false) : 1099511627776 < x ∨ (¬ 1099511627776 < x ∧ x < -1099511627776) := by
 unfold okN at h; simp at h; omega
theorem okN_yes {x : Int} (h : okN x = true) : ¬ 1099511627776 < x ∧ ¬ x < -1099511627776 := by
 unfold okN at h; simp at h; omega
theorem ins_c (i : In) (v : Value) (w : World) (hv : InV w v i) (hn : i.args.length ≤ 9223372036854775807) :
  Calls Try.prog 47 #[v] w fun e w' => e = .returned (.bool (insF i)) ∧ Below w.heap.size w w' := by
 obtain ⟨va, rfl, a, c, rfl, hc1, hc2, hcell⟩ := hv
 have HC := Lib.hid hcell
 clear hcell
 have HI : Hid (insF i = ((numsI i).all okN && (i.args.all okN && decide (i.args.length ≤ 12)))) := rfl
 have hnl : (numsI i).length = 8 := rfl
 have HN : Hid (∀ (w1 : World), OwnI (w1.alloc (.cells #[.int .i64 i.op, .int .i64 i.d, .int .i64 i.a, .int .i64 i.b, .int .i64 i.fn, .int .i64 i.obj, .int .i64 i.off, .int .i64 i.size] 3)) 0 (.slice (some ⟨w1.heap.size, 0, none⟩) 8 8) (numsI i)) := fun w1 => OwnI.mk w1 0 (numsI i) (Nat.zero_le _) (by rw [hnl]; simp [maxLen])
 have hB : Hid (∀ o o', Below w.heap.size w ((w.alloc o).alloc o')) := fun o o' => (below_alloc w o).trans ((below_alloc _ o').mono (by simp))
 go_enter Try.func47, Try.ntmps47
 go_wp2_with fail
 go_loopw [4] (fun k wr => ∃ n : Nat, n ≤ 8 ∧ k = .int .i64 (n : Int) ∧ wr = ((w.alloc (.cells #[.int .i64 i.op, .int .i64 i.d, .int .i64 i.a, .int .i64 i.b, .int .i64 i.fn, .int .i64 i.obj, .int .i64 i.off, .int .i64 i.size, .int .u32 i.num, .slice a i.args.length c, .bool i.log] 58)).alloc (.cells #[.int .i64 i.op, .int .i64 i.d, .int .i64 i.a, .int .i64 i.b, .int .i64 i.fn, .int .i64 i.obj, .int .i64 i.off, .int .i64 i.size] 3)) ∧ Hid (((numsI i).take n).all okN = true)) (fun k _ => 8 - (intOf k).toNat)
 case atStart => exact ⟨0, Nat.zero_le _, rfl, rfl, rfl⟩
 case round =>
  obtain ⟨n, hn8, rfl, hwr, HA⟩ := hrel
  have hBr : Hid (Below w.heap.size w wr) := by rw [hwr]; exact hB.out _ _
  have HNr : OwnI wr 0 (.slice (some ⟨w.heap.size + 1, 0, none⟩) 8 8) (numsI i) := by
   rw [hwr]
   have := HN.out (w.alloc (.cells #[.int .i64 i.op, .int .i64 i.d, .int .i64 i.a, .int .i64 i.b, .int .i64 i.fn, .int .i64 i.obj, .int .i64 i.off, .int .i64 i.size, .int .u32 i.num, .slice a i.args.length c, .bool i.log] 58))
   simpa using this
  have q9 : wr.cell? ⟨w.heap.size, 9, none⟩ = some (.slice a i.args.length c) := by rw [hwr]; simp
  by_cases hlt : n < 8
  ·have hcn := HNr.cellAt.2.2.2.2.1 n hlt
   have hY := all_take (numsI i) n (by rw [hnl]; exact hlt) HA.out
   have hZ := all_no (numsI i) n (by rw [hnl]; exact hlt)
   generalize (numsI i).getD n 0 = x at *
   cases hx : okN x
   ·have HF : Hid (insF i = false) := by show _ = _; rw [HI.out, hZ hx]; rfl
    have hx' := okN_no hx
    clear hY hZ hx HNr hwr
    rcases hx' with hx' | ⟨hx', hx2⟩
    ·have e1 : decide (1099511627776 < x) = true := decide_eq_true hx'
     go_wp2_with fail
     go_ret
     exact ⟨ret_b HF.out.symm, hBr.out⟩
    ·have e1 : decide (1099511627776 < x) = false := decide_eq_false hx'
     have e2 : decide (x < -1099511627776) = true := decide_eq_true hx2
     go_wp2_with fail
     go_ret
     exact ⟨ret_b HF.out.symm, hBr.out⟩
   ·have HA2 := Lib.hid (hY hx)
    obtain ⟨hx1, hx2⟩ := okN_yes hx
    have e1 : decide (1099511627776 < x) = false := decide_eq_false hx1
    have e2 : decide (x < -1099511627776) = false := decide_eq_false hx2
    clear hY hZ hx HNr
    have hwr2 := Lib.hid hwr
    clear hwr
    go_wp2_with fail
    go_roundw
    case rel => exact ⟨n + 1, by omega, by go_num, hwr2.out, HA2⟩
    case measure => simp [intOf]; omega
  ·have HA3 : Hid ((numsI i).all okN = true) := by have := HA.out; rwa [List.take_of_length_le (by rw [hnl]; omega)] at this
   clear HNr hwr HA
   go_wp2_with fail
   go_loopw [5] (fun k wr => ∃ n : Nat, n ≤ i.args.length ∧ k = .int .i64 (n : Int) ∧ Hid (Below w.heap.size w wr) ∧ wr.cell? ⟨w.heap.size, 9, none⟩ = some (.slice a i.args.length c) ∧ Hid ((i.args.take n).all okN = true)) (fun k _ => i.args.length - (intOf k).toNat)
   case atStart => exact ⟨0, Nat.zero_le _, rfl, hBr, q9, rfl⟩
   case round =>
    clear q9
    obtain ⟨n, hnn, rfl, hBr, q9, HA⟩ := hrel
    by_cases hlt : n < i.args.length
    ·obtain ⟨b, o, rfl, hc⟩ := HC.out n hlt
     simp only [Nat.mul_one, Nat.add_zero] at hc
     replace hc := Ext.below hBr.out _ _ hc
     have hY := all_take i.args n hlt HA.out
     have hZ := all_no i.args n hlt
     generalize i.args.getD n 0 = x at *
     cases hx : okN x
     ·have HF : Hid (insF i = false) := by show _ = _; rw [HI.out, HA3.out, hZ hx]; rfl
      have hx' := okN_no hx
      clear hY hZ hx
      rcases hx' with hx' | ⟨hx', hx2⟩
      ·have e1 : decide (1099511627776 < x) = true := decide_eq_true hx'
       go_wp2_with fail
       go_ret
       exact ⟨ret_b HF.out.symm, hBr.out⟩
      ·have e1 : decide (1099511627776 < x) = false := decide_eq_false hx'
       have e2 : decide (x < -1099511627776) = true := decide_eq_true hx2
       go_wp2_with fail
       go_ret
       exact ⟨ret_b HF.out.symm, hBr.out⟩
     ·have HA2 := Lib.hid (hY hx)
      obtain ⟨hx1, hx2⟩ := okN_yes hx
      have e1 : decide (1099511627776 < x) = false := decide_eq_false hx1
      have e2 : decide (x < -1099511627776) = false := decide_eq_false hx2
      clear hY hZ hx
      go_wp2_with fail
      go_roundw
      case rel => exact ⟨n + 1, by omega, by go_num, hBr, q9, HA2⟩
      case measure => simp [intOf]; omega
    ·have HA4 : Hid (i.args.all okN = true) := by have := HA.out; rwa [List.take_of_length_le (by omega)] at this
     have HF : Hid (insF i = decide ((i.args.length : Int) ≤ 12)) := by show _ = _; rw [HI.out, HA3.out, HA4.out]; simp; omega
     go_wp2_with fail
     go_ret
     exact ⟨ret_b HF.out.symm, hBr.out⟩
end Go.Proofs.Ytobfpfjdkpaeiaa
