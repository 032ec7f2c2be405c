/-
 Contracts of flow's Order, Back and Reach.; Whether a register is live at a place of a block, by going all ways on; how this search lies in memory.; Contract of the reference's Live.; Contract of the statements' same.; Plain arithmetic of 32-bit words: signed readings, products by halves, truncated and floored division.; Contracts of the functions of word and of its reference: each returns the number that the plain arithmetic of W1 says, and leaves the world as it is. Conditions: each word lies between 0 and 2^32 - 1.; The game of a drawn region, where lengths and greatest numbers may be taken first too.; Contract of the statements' ins: are an instruction's numbers such as statements go through?; Contract of flow's Reach.; Contract of flow's Reach.; How the reference's walk lies in memory, and what its stores and appends make of it.; The marking of live registers finds what going all ways on finds (plain lists, no program).
-/
import Derived.Test.YtkhfddodmjnecaaDoorZFoldTwice05
import Derived.RowKit
import Derived.Test.YtkhfddodmjnecaaDoorRows
import Derived.WalkKit
import Derived.ProofKit
import Derived.OpenShut
import Derived.Outline
import Derived.Lib.Hide
import Derived.Deep.QuietTactic
import Derived.BigQuiet
import Derived.Test.YtkhfddodmjnecaaDoorZFoldTwice02
import Derived.Test.YtkhfddodmjnecaaDoorZFoldTwice00
import Derived.Test.YtkhfddodmjnecaaDoorZFoldTwice01

set_option linter.all false
namespace Go.Proofs.YtkhfddodmjnecaaDoor
open Go.ChangeShapes Go.WideShapes Go.ChangeAt Go.RowKit
set_option maxHeartbeats 2000000
set_option maxRecDepth 20000

theorem ownsRow_base {w : World} {B B' n s : Nat} {e : TypeId} {v : Value} {xs : List Value} (h : w.ownsRow B e s v n xs) (hB : B' ≤ B) : w.ownsRow B' e s v n xs := by
 obtain ⟨h1, h2 | ⟨g, cap, cur, h3, hb, r⟩⟩ := h
 ·exact ⟨h1, .inl h2⟩
 ·exact ⟨h1, .inr ⟨g, cap, cur, h3, Nat.le_trans hB hb, r⟩⟩
theorem order_c (p : Pr) (V : Value) (w : World) (hP : PrV w V p) (hlen : p.blks.length ≤ 1000000) :
  Calls Tryd.prog 30 #[V] w (RetI w (wkD p).ord.reverse) := by
 have EW : Hid (∀ o, Calls Tryd.prog 42 #[V] (w.alloc o) (WkR (w.alloc o) p)) := fun o => walked_c p V _ (hP.ext (Ext.alloc w o)) hlen
 obtain ⟨nm, vo, vb, rfl, -, a, c, rfl, -, -, -⟩ := hP
 go_enter Tryd.func30, Tryd.ntmps30
 go_wp2_with (go_at_call 42; refine (EW.out _).mono ?_; rintro e w1 ⟨bw, bs, B, ov, bv, tv, hd, s, rfl, M, ho, hb, hr⟩; have M := Lib.hid M; have q7 : w1.cell? ⟨bw, 7, none⟩ = some ov := (M.out.wk.cellAt 7 (by decide)).trans (by rw [List.getElem?_append_right (by rw [M.out.hd6]; decide), M.out.hd6]; rfl))
 go_ret
 refine ⟨_, rfl, ?_, ?_⟩
 ·rw [← ho]
  exact ownsRow_base M.out.ord (Nat.le_trans (by simp) M.out.pB)
 ·exact (below_alloc w _).trans (M.out.below.mono (by simp))
end Go.Proofs.YtkhfddodmjnecaaDoor

set_option linter.all false
namespace Go.Proofs.YtkhfddodmjnecaaDoor
open Go.ChangeShapes Go.WideShapes Go.ChangeAt Go.RowKit
set_option maxHeartbeats 2000000
set_option maxRecDepth 20000

section
variable {p : Pr} {r : Int} {R : Bool} {f : Nat} {seen : List Bool} {todo : List Int} {k : Nat}
end

section
variable {W0 w : World} {gs B n : Nat} {seen : List Bool} {tv : Value} {todo : List Int}
end
end Go.Proofs.YtkhfddodmjnecaaDoor

set_option linter.all false
namespace Go.Proofs.YtkhfddodmjnecaaDoor
open Go.ChangeShapes Go.WideShapes Go.ChangeAt Go.RowKit
set_option maxHeartbeats 2000000
set_option maxRecDepth 20000

end Go.Proofs.YtkhfddodmjnecaaDoor

set_option linter.all false
namespace Go.Proofs.YtkhfddodmjnecaaDoor
open Go.ChangeShapes Go.WideShapes Go.ChangeAt Go.RowKit
set_option maxHeartbeats 2000000
set_option maxRecDepth 20000

end Go.Proofs.YtkhfddodmjnecaaDoor

set_option linter.all false
namespace Go.Proofs.YtkhfddodmjnecaaDoor
open Go.RowKit

/-- a word as a signed number -/
def sg (a : Int) : Int := if a < 2147483648 then a else a - 4294967296
/-- shifted to the left by so many -/
def shl32 (a b : Int) : Int := (a * 2 ^ (b % 32).toNat) % 4294967296
def sar32 (a b : Int) : Int := (sg a / 2 ^ (b % 32).toNat) % 4294967296
def divS (a b : Int) : Int := if b = 0 then 4294967295 else ((sg a).tdiv (sg b)) % 4294967296
def remS (a b : Int) : Int := if b = 0 then a else ((sg a).tmod (sg b)) % 4294967296
def lessS (a b : Int) : Int := if sg a < sg b then 1 else 0
theorem wrap32_sg (a : Int) (h : 0 ≤ a) (h' : a < 4294967296) : wrap32 a = sg a := by
 unfold sg wrap32; split <;> omega
theorem sg_bd (a : Int) (h : 0 ≤ a) (h' : a < 4294967296) : -2147483648 ≤ sg a ∧ sg a < 2147483648 := by
 unfold sg; split <;> omega
theorem wrap64_in (a : Int) (h : -9223372036854775808 ≤ a) (h' : a < 9223372036854775808) : wrap64 a = a := by
 unfold wrap64; omega

/-- a power of two -/
def pw (k : Nat) : Int := 2 ^ k
theorem sg_zero (b : Int) (h : 0 ≤ b) (h' : b < 4294967296) : sg b = 0 ↔ b = 0 := by unfold sg; split <;> omega
theorem tdiv_bd (x y : Int) (h : -2147483648 ≤ x) (h' : x < 2147483648) : -2147483648 ≤ x.tdiv y ∧ x.tdiv y ≤ 2147483648 := by
 have h1 : (x.tdiv y).natAbs ≤ x.natAbs := by rw [Int.natAbs_tdiv]; exact Nat.div_le_self _ _
 omega
theorem div_eq (a b : Int) (h : 0 ≤ a) (h' : a < 4294967296) (h1 : 0 ≤ b) (h1' : b < 4294967296) (hb : b ≠ 0) :
  wrap64 ((wrap64 (wrap32 a)).tdiv (wrap64 (wrap32 b))) % 4294967296 = divS a b := by
 have ha := sg_bd a h h'
 have hb' := sg_bd b h1 h1'
 rw [wrap32_sg a h h', wrap32_sg b h1 h1', wrap64_in (sg a) (by omega) (by omega), wrap64_in (sg b) (by omega) (by omega)]
 have := tdiv_bd (sg a) (sg b) (by omega) (by omega)
 rw [wrap64_in _ (by omega) (by omega)]
 unfold divS; rw [if_neg hb]
theorem rem_eq (a b : Int) (h : 0 ≤ a) (h' : a < 4294967296) (h1 : 0 ≤ b) (h1' : b < 4294967296) (hb : b ≠ 0) :
  (wrap64 (wrap32 a)).tmod (wrap64 (wrap32 b)) % 4294967296 = remS a b := by
 have ha := sg_bd a h h'
 have hb' := sg_bd b h1 h1'
 rw [wrap32_sg a h h', wrap32_sg b h1 h1', wrap64_in (sg a) (by omega) (by omega), wrap64_in (sg b) (by omega) (by omega)]
 unfold remS; rw [if_neg hb]
end Go.Proofs.YtkhfddodmjnecaaDoor

set_option linter.all false
namespace Go.Proofs.YtkhfddodmjnecaaDoor
open Go.ChangeShapes Go.WideShapes Go.ChangeAt Go.RowKit
set_option maxHeartbeats 400000
set_option linter.unusedVariables false

theorem ret_int {k : IntKind} {a b : Int} (h : a = b) : Ending.returned (.int k a) = .returned (.int k b) := by rw [h]
theorem wraps_u32 (n : Int) (h₀ : 0 ≤ n) (h₁ : n < 2 ^ 32) : IntKind.u32.wrap n = n := by rw [IntKind.wrap_u32]; omega
theorem u32_and31 (x : Int) (h₀ : 0 ≤ x) (h₁ : x < 4294967296) : bits .and .u32 x 31 = x % 32 := bits_mask .u32 32 (by decide) wraps_u32 5 (by decide) x h₀ h₁
attribute [local go_sem] u32_and31

theorem add_c (a b : Int) (w : World)  :
  Calls Tryd.prog 60 #[.int .u32 a, .int .u32 b] w fun e w' => e = .returned (.int .u32 ((a + b) % 4294967296)) ∧ w = w' := by
 go_enter Tryd.func60, Tryd.ntmps60
 go_wp2
 go_ret
 exact ⟨rfl, rfl⟩

theorem sub_c (a b : Int) (w : World)  :
  Calls Tryd.prog 61 #[.int .u32 a, .int .u32 b] w fun e w' => e = .returned (.int .u32 ((a - b) % 4294967296)) ∧ w = w' := by
 go_enter Tryd.func61, Tryd.ntmps61
 go_wp2
 go_ret
 exact ⟨rfl, rfl⟩

theorem mul_c (a b : Int) (w : World)  :
  Calls Tryd.prog 62 #[.int .u32 a, .int .u32 b] w fun e w' => e = .returned (.int .u32 ((a * b) % 4294967296)) ∧ w = w' := by
 go_enter Tryd.func62, Tryd.ntmps62
 go_wp2
 go_ret
 exact ⟨rfl, rfl⟩

theorem div_c (a b : Int) (w : World) (h : 0 ≤ a) (h' : a < 4294967296) (h1 : 0 ≤ b) (h1' : b < 4294967296) :
  Calls Tryd.prog 63 #[.int .u32 a, .int .u32 b] w fun e w' => e = .returned (.int .u32 (divS a b)) ∧ w = w' := by
 by_cases hb : b = 0
 ·go_enter Tryd.func63, Tryd.ntmps63
  go_wp2
  go_ret
  exact ⟨ret_int (by unfold divS; rw [if_pos hb]), rfl⟩
 ·have hz := sg_zero b h1 h1'
  have hs : ¬ wrap64 (wrap32 b) = 0 := by
   have hb' := sg_bd b h1 h1'
   rw [wrap32_sg b h1 h1', wrap64_in _ (by omega) (by omega)]; omega
  clear hz
  go_enter Tryd.func63, Tryd.ntmps63
  go_wp2
  go_ret
  exact ⟨ret_int (div_eq a b h h' h1 h1' hb), rfl⟩

theorem rem_c (a b : Int) (w : World) (h : 0 ≤ a) (h' : a < 4294967296) (h1 : 0 ≤ b) (h1' : b < 4294967296) :
  Calls Tryd.prog 64 #[.int .u32 a, .int .u32 b] w fun e w' => e = .returned (.int .u32 (remS a b)) ∧ w = w' := by
 by_cases hb : b = 0
 ·go_enter Tryd.func64, Tryd.ntmps64
  go_wp2
  go_ret
  exact ⟨ret_int (by unfold remS; rw [if_pos hb]), rfl⟩
 ·have hz := sg_zero b h1 h1'
  have hs : ¬ wrap64 (wrap32 b) = 0 := by
   have hb' := sg_bd b h1 h1'
   rw [wrap32_sg b h1 h1', wrap64_in _ (by omega) (by omega)]; omega
  clear hz
  go_enter Tryd.func64, Tryd.ntmps64
  go_wp2
  go_ret
  exact ⟨ret_int (rem_eq a b h h' h1 h1' hb), rfl⟩

theorem left_c (a b : Int) (w : World) (h : 0 ≤ a) (h' : a < 4294967296) (h1 : 0 ≤ b) (h1' : b < 4294967296) :
  Calls Tryd.prog 65 #[.int .u32 a, .int .u32 b] w fun e w' => e = .returned (.int .u32 (shl32 a b)) ∧ w = w' := by
 go_enter Tryd.func65, Tryd.ntmps65
 go_wp2
 go_ret
 exact ⟨rfl, rfl⟩

theorem rights_c (a b : Int) (w : World) (h : 0 ≤ a) (h' : a < 4294967296) (h1 : 0 ≤ b) (h1' : b < 4294967296) :
  Calls Tryd.prog 66 #[.int .u32 a, .int .u32 b] w fun e w' => e = .returned (.int .u32 (sar32 a b)) ∧ w = w' := by
 go_enter Tryd.func66, Tryd.ntmps66
 go_wp2
 go_ret
 exact ⟨ret_int (by unfold sar32; rw [← wrap32_sg a h h']), rfl⟩

theorem less_c (a b : Int) (w : World) (h : 0 ≤ a) (h' : a < 4294967296) (h1 : 0 ≤ b) (h1' : b < 4294967296) :
  Calls Tryd.prog 68 #[.int .u32 a, .int .u32 b] w fun e w' => e = .returned (.int .u32 (lessS a b)) ∧ w = w' := by
 have ea := wrap32_sg a h h'
 have eb := wrap32_sg b h1 h1'
 by_cases hl : wrap32 a < wrap32 b
 all_goals
  have H := Lib.hid ea; clear ea
  have H' := Lib.hid eb; clear eb
  go_enter Tryd.func68, Tryd.ntmps68
  go_wp2
  go_ret
  refine ⟨ret_int ?_, rfl⟩
  unfold lessS
  rw [← H.out, ← H'.out]
  simp [hl]

end Go.Proofs.YtkhfddodmjnecaaDoor

set_option linter.all false
namespace Go.Proofs.YtkhfddodmjnecaaDoor
open Go Go.RowKit

def lookB (o : Oper) : Bool :=
 match o.op with
 | .call c => (match c.callee with | .builtin .len | .builtin .max => true | _ => false)
 | _ => false
theorem lookB_spec {P : Program} {o : Oper} {ρ : Operand → Value} {w : World} {n : Next} {w' : World} (h : lookB o = true) (hr : (execOp ρ o).run P w = .ok n w') : ∃ v, n = .value v := by
 unfold lookB at h
 split at h
 ·rename_i c hc
  split at h
  ·rename_i hb
   simp only [execOp, hc, resolve, hb, Sem.run_bind, Sem.run_pure, Result.andThen_ok, invoke] at hr
   exact bind_value hr
  ·rename_i hb
   simp only [execOp, hc, resolve, hb, Sem.run_bind, Sem.run_pure, Result.andThen_ok, invoke] at hr
   exact bind_value hr
  ·cases h
 ·cases h
section
variable {P : Program} {ops : Array Oper} {Q : Act → World → Prop} {S : Nat → Prop}
theorem E_mob2 {f : Nat} {listed : Array Bool} {a : Act} {w : World} (i : Nat) (o : Oper) (hio : ops[i]? = some o)
  (hc : (closedB ops listed && (Region.noSelect ops && (Region.ready .any ops listed).contains i && Region.free .any ops listed i && (lookOp o || lookB o))) = true)
  (h : wpQuiet P ops (fun w' => ∃ x, w' = kp S w x) (fun a' => wpE S P ops Q f (listed.setIfInBounds i true) a' w) [o] a) : wpE S P ops Q (f + 1) listed a w := by
 simp only [Bool.and_eq_true] at hc
 obtain ⟨hcl, ⟨⟨hs, hr⟩, hf⟩, hk⟩ := hc
 simp only [wpQuiet] at h
 have hy : ∃ v, YieldsE S P ops w o v a ∧ wpE S P ops Q f (listed.setIfInBounds i true) (a.put o.dst v) w := by
  split at h
  ·rename_i hw
   obtain ⟨v, hv, hn⟩ := h
   refine ⟨v, .inl ⟨hw, fun w' hb => ?_⟩, hn⟩
   have h3 := hv w' (keep_kp hb)
   unfold Oper.quietAt at h3
   generalize hrr : (execOp a.eval o).run P w' = r at h3
   cases r with
   | ok n w1 =>
    have hu : ∃ v, n = .value v := by
     rw [Bool.or_eq_true] at hk
     rcases hk with hk | hk
     ·exact lookOp_spec hk hrr
     ·exact lookB_spec hk hrr
    obtain ⟨u, rfl⟩ := hu
    simp only [Oper.quietUpon] at h3
    obtain ⟨rfl, rfl⟩ := h3
    rfl
   | halt x w1 => simp only [Oper.quietUpon] at h3
  ·rename_i hw
   exact ⟨undef, .inr ⟨by simpa using hw, rfl⟩, h⟩
 obtain ⟨v, hy, hn⟩ := hy
 exact wpE_first hio (Region.noSelect_spec hs) f listed a w (Region.free_spec hio hf) (closed_of hcl) (by simpa using hr) hy hn
end
end Go.Proofs.YtkhfddodmjnecaaDoor

set_option linter.all false
namespace Go.Proofs.YtkhfddodmjnecaaDoor
open Go.ChangeShapes Go.WideShapes Go.ChangeAt Go.RowKit
set_option maxHeartbeats 2000000
set_option maxRecDepth 20000

def okN (x : Int) : Bool := !(decide (1099511627776 < x) || decide (x < -1099511627776))
def numsI (i : In) : List Int := [i.op, i.d, i.a, i.b, i.fn, i.obj, i.off, i.size]
def insF (i : In) : Bool := (numsI i).all okN && (i.args.all okN && decide (i.args.length ≤ 12))
theorem all_take (l : List Int) (k : Nat) (h : k < l.length) (h1 : (l.take k).all okN = true) (h2 : okN (l.getD k 0) = true) : (l.take (k + 1)).all okN = true := by
 rw [take_snoc l k h, List.all_append, h1]; simp at h2 ⊢; exact h2
theorem all_no (l : List Int) (k : Nat) (h : k < l.length) (h2 : okN (l.getD k 0) = false) : l.all okN = false := by
 rw [List.all_eq_false]
 exact ⟨l.getD k 0, by simp [List.getD, h], by rw [h2]; decide⟩
theorem okN_no {x : Int} (h : okN x = false) : 1099511627776 < x ∨ (¬ 1099511627776 < x ∧ x < -1099511627776) := by
 unfold okN at h; simp at h; omega
theorem okN_yes {x : Int} (h : okN x = true) : ¬ 1099511627776 < x ∧ ¬ x < -1099511627776 := by
 unfold okN at h; simp at h; omega
theorem ins_c (i : In) (v : Value) (w : World) (hv : InV w v i) (hn : i.args.length ≤ 9223372036854775807) :
  Calls Tryd.prog 24 #[v] w fun e w' => e = .returned (.bool (insF i)) ∧ Below w.heap.size w w' := by
 obtain ⟨va, rfl, a, c, rfl, hc1, hc2, hcell⟩ := hv
 have HC := Lib.hid hcell
 clear hcell
 have HI : Hid (insF i = ((numsI i).all okN && (i.args.all okN && decide (i.args.length ≤ 12)))) := rfl
 have hnl : (numsI i).length = 8 := rfl
 have HN : Hid (∀ (w1 : World), OwnI (w1.alloc (.cells #[.int .i64 i.op, .int .i64 i.d, .int .i64 i.a, .int .i64 i.b, .int .i64 i.fn, .int .i64 i.obj, .int .i64 i.off, .int .i64 i.size] 3)) 0 (.slice (some ⟨w1.heap.size, 0, none⟩) 8 8) (numsI i)) := fun w1 => OwnI.mk w1 0 (numsI i) (Nat.zero_le _) (by rw [hnl]; simp [maxLen])
 have hB : Hid (∀ o o', Below w.heap.size w ((w.alloc o).alloc o')) := fun o o' => (below_alloc w o).trans ((below_alloc _ o').mono (by simp))
 go_enter Tryd.func24, Tryd.ntmps24
 go_wp2_with fail
 go_loopw [4] (fun k wr => ∃ n : Nat, n ≤ 8 ∧ k = .int .i64 (n : Int) ∧ wr = ((w.alloc (.cells #[.int .i64 i.op, .int .i64 i.d, .int .i64 i.a, .int .i64 i.b, .int .i64 i.fn, .int .i64 i.obj, .int .i64 i.off, .int .i64 i.size, .int .u32 i.num, .slice a i.args.length c, .bool i.log] 40)).alloc (.cells #[.int .i64 i.op, .int .i64 i.d, .int .i64 i.a, .int .i64 i.b, .int .i64 i.fn, .int .i64 i.obj, .int .i64 i.off, .int .i64 i.size] 3)) ∧ Hid (((numsI i).take n).all okN = true)) (fun k _ => 8 - (intOf k).toNat)
 case atStart => exact ⟨0, Nat.zero_le _, rfl, rfl, rfl⟩
 case round =>
  obtain ⟨n, hn8, rfl, hwr, HA⟩ := hrel
  have hBr : Hid (Below w.heap.size w wr) := by rw [hwr]; exact hB.out _ _
  have HNr : OwnI wr 0 (.slice (some ⟨w.heap.size + 1, 0, none⟩) 8 8) (numsI i) := by
   rw [hwr]
   have := HN.out (w.alloc (.cells #[.int .i64 i.op, .int .i64 i.d, .int .i64 i.a, .int .i64 i.b, .int .i64 i.fn, .int .i64 i.obj, .int .i64 i.off, .int .i64 i.size, .int .u32 i.num, .slice a i.args.length c, .bool i.log] 40))
   simpa using this
  have q9 : wr.cell? ⟨w.heap.size, 9, none⟩ = some (.slice a i.args.length c) := by rw [hwr]; simp
  by_cases hlt : n < 8
  ·have hcn := HNr.cellAt.2.2.2.2.1 n hlt
   have hY := all_take (numsI i) n (by rw [hnl]; exact hlt) HA.out
   have hZ := all_no (numsI i) n (by rw [hnl]; exact hlt)
   generalize (numsI i).getD n 0 = x at *
   cases hx : okN x
   ·have HF : Hid (insF i = false) := by show _ = _; rw [HI.out, hZ hx]; rfl
    have hx' := okN_no hx
    clear hY hZ hx HNr hwr
    rcases hx' with hx' | ⟨hx', hx2⟩
    ·have e1 : decide (1099511627776 < x) = true := decide_eq_true hx'
     go_wp2_with fail
     go_ret
     exact ⟨ret_b HF.out.symm, hBr.out⟩
    ·have e1 : decide (1099511627776 < x) = false := decide_eq_false hx'
     have e2 : decide (x < -1099511627776) = true := decide_eq_true hx2
     go_wp2_with fail
     go_ret
     exact ⟨ret_b HF.out.symm, hBr.out⟩
   ·have HA2 := Lib.hid (hY hx)
    obtain ⟨hx1, hx2⟩ := okN_yes hx
    have e1 : decide (1099511627776 < x) = false := decide_eq_false hx1
    have e2 : decide (x < -1099511627776) = false := decide_eq_false hx2
    clear hY hZ hx HNr
    have hwr2 := Lib.hid hwr
    clear hwr
    go_wp2_with fail
    go_roundw
    case rel => exact ⟨n + 1, by omega, by go_num, hwr2.out, HA2⟩
    case measure => simp [intOf]; omega
  ·have HA3 : Hid ((numsI i).all okN = true) := by have := HA.out; rwa [List.take_of_length_le (by rw [hnl]; omega)] at this
   clear HNr hwr HA
   go_wp2_with fail
   go_loopw [5] (fun k wr => ∃ n : Nat, n ≤ i.args.length ∧ k = .int .i64 (n : Int) ∧ Hid (Below w.heap.size w wr) ∧ wr.cell? ⟨w.heap.size, 9, none⟩ = some (.slice a i.args.length c) ∧ Hid ((i.args.take n).all okN = true)) (fun k _ => i.args.length - (intOf k).toNat)
   case atStart => exact ⟨0, Nat.zero_le _, rfl, hBr, q9, rfl⟩
   case round =>
    clear q9
    obtain ⟨n, hnn, rfl, hBr, q9, HA⟩ := hrel
    by_cases hlt : n < i.args.length
    ·obtain ⟨b, o, rfl, hc⟩ := HC.out n hlt
     simp only [Nat.mul_one, Nat.add_zero] at hc
     replace hc := Ext.below hBr.out _ _ hc
     have hY := all_take i.args n hlt HA.out
     have hZ := all_no i.args n hlt
     generalize i.args.getD n 0 = x at *
     cases hx : okN x
     ·have HF : Hid (insF i = false) := by show _ = _; rw [HI.out, HA3.out, hZ hx]; rfl
      have hx' := okN_no hx
      clear hY hZ hx
      rcases hx' with hx' | ⟨hx', hx2⟩
      ·have e1 : decide (1099511627776 < x) = true := decide_eq_true hx'
       go_wp2_with fail
       go_ret
       exact ⟨ret_b HF.out.symm, hBr.out⟩
      ·have e1 : decide (1099511627776 < x) = false := decide_eq_false hx'
       have e2 : decide (x < -1099511627776) = true := decide_eq_true hx2
       go_wp2_with fail
       go_ret
       exact ⟨ret_b HF.out.symm, hBr.out⟩
     ·have HA2 := Lib.hid (hY hx)
      obtain ⟨hx1, hx2⟩ := okN_yes hx
      have e1 : decide (1099511627776 < x) = false := decide_eq_false hx1
      have e2 : decide (x < -1099511627776) = false := decide_eq_false hx2
      clear hY hZ hx
      go_wp2_with fail
      go_roundw
      case rel => exact ⟨n + 1, by omega, by go_num, hBr, q9, HA2⟩
      case measure => simp [intOf]; omega
    ·have HA4 : Hid (i.args.all okN = true) := by have := HA.out; rwa [List.take_of_length_le (by omega)] at this
     have HF : Hid (insF i = decide ((i.args.length : Int) ≤ 12)) := by show _ = _; rw [HI.out, HA3.out, HA4.out]; simp; omega
     go_wp2_with fail
     go_ret
     exact ⟨ret_b HF.out.symm, hBr.out⟩
end Go.Proofs.YtkhfddodmjnecaaDoor

set_option linter.all false
namespace Go.Proofs.YtkhfddodmjnecaaDoor
open Go.ChangeShapes Go.WideShapes Go.ChangeAt Go.RowKit
set_option maxHeartbeats 2000000
set_option maxRecDepth 20000

/-- numbers of blocks that there are -/
def Blks (p : Pr) (l : List Int) : Prop := ∀ t ∈ l, 0 ≤ t ∧ t < (p.blks.length : Int)
theorem foldl_ord (p : Pr) (f : Nat) (n : Int) (ih : ∀ t s, (0 ≤ t ∧ t < (p.blks.length : Int)) → Blks p s.ord → Blks p (rI p f t s).ord) : ∀ (l : List Int) (s : S3), Blks p l → Blks p s.ord → Blks p (l.foldl (hI p f n) s).ord
 | [], _, _, hs => hs
 | t :: l, s, hl, hs => by
  rw [List.foldl_cons]
  refine foldl_ord p f n ih l _ (fun x hx => hl x (List.mem_cons_of_mem _ hx)) ?_
  unfold hI
  split
  ·exact hs
  ·split
   ·exact ih t s (hl t List.mem_cons_self) hs
   ·exact hs
theorem rI_ord (p : Pr) : ∀ (f : Nat) (n : Int) (s : S3), (0 ≤ n ∧ n < (p.blks.length : Int)) → Blks p s.ord → Blks p (rI p f n s).ord
 | 0, _, _, _, hs => hs
 | f + 1, n, s, hn, hs => by
  rw [rI_succ]
  have := foldl_ord p f n (rI_ord p f) (outsP p n.toNat) (s.enter n) (fun t ht => outsP_mem ht) hs
  intro t ht
  rcases List.mem_append.1 ht with ht | ht
  ·exact this t ht
  ·rw [List.mem_singleton.1 ht]; exact hn
theorem wkD_ord (p : Pr) : Blks p (wkD p).ord := by
 rcases Nat.eq_zero_or_pos p.blks.length with h0 | h0
 ·unfold wkD
  rw [h0]
  intro t ht
  cases ht
 ·exact rI_ord p _ 0 _ (by omega) (fun t ht => by cases ht)
/-- which blocks are reached -/
def reachP (p : Pr) : List Bool := marksB (List.replicate p.blks.length false) (wkD p).ord.reverse
end Go.Proofs.YtkhfddodmjnecaaDoor

set_option linter.all false
namespace Go.Proofs.YtkhfddodmjnecaaDoor
open Go.ChangeShapes Go.WideShapes Go.ChangeAt Go.RowKit
set_option maxHeartbeats 2000000
set_option maxRecDepth 20000

end Go.Proofs.YtkhfddodmjnecaaDoor

set_option linter.all false
namespace Go.Proofs.YtkhfddodmjnecaaDoor
open Go.ChangeShapes Go.WideShapes Go.ChangeAt Go.RowKit
set_option maxHeartbeats 400000
set_option maxRecDepth 10000

section
variable {w : World} {bw bs B n : Nat} {s : S3} {ov bv : Value}
end
end Go.Proofs.YtkhfddodmjnecaaDoor

set_option linter.all false
namespace Go.Proofs.YtkhfddodmjnecaaDoor
open Go Go.RowKit
theorem setB_get (l : List Bool) (x : Int) (is : Bool) (r : Nat) (h : r < l.length) : (setB l x is).getD r false = if x = r then is else l.getD r false := by
 unfold setB
 split
 ·simp only [List.getD, List.getElem?_set]
  by_cases e : x.toNat = r
  ·rw [if_pos e, if_pos (by omega), if_pos (by omega)]; rfl
  ·rw [if_neg e, if_neg (by omega)]
 ·rw [if_neg (by omega)]
theorem marksB_get (l : List Bool) (rs : List Int) (r : Nat) (h : r < l.length) : (marksB l rs).getD r false = (l.getD r false || hasL rs r) := by
 unfold marksB
 induction rs generalizing l with
 | nil => simp [hasL]
 | cons x rs ih =>
  rw [List.foldl_cons, ih _ (by rw [setB_len]; exact h), setB_get _ _ _ _ h]
  unfold hasL
  rw [List.contains_cons]
  by_cases e : x = r
  ·subst e; simp
  ·rw [if_neg e, show ((r : Int) == x) = false from beq_eq_false_iff_ne.2 (Ne.symm e), Bool.false_or]
end Go.Proofs.YtkhfddodmjnecaaDoor
