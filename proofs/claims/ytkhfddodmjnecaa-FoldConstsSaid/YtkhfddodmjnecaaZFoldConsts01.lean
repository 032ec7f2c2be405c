/-
 Contracts of the reference's functions that tell of one instruction and one block.; Regions that draw their order, at the class of worlds that extend one world: whatever calls make new memory in between, each operation yields the same value.; Plain arithmetic of 32-bit words: signed readings, products by halves, truncated and floored division.
-/
import Derived.Test.YtkhfddodmjnecaaZFoldConsts00
import Derived.BigQuiet
import Derived.Below
import Derived.WalkKit
import Derived.RowKit

set_option linter.all false
namespace Go.Proofs.Ytkhfddodmjnecaa
open Go.ChangeShapes Go.WideShapes Go.ChangeAt Go.RowKit
set_option maxHeartbeats 1000000
set_option maxRecDepth 20000

theorem bcell' {B : Nat} {W w1 : World} (hb : Below B W w1) : (∀ b o, b < B → w1.cell? ⟨b, o, none⟩ = W.cell? ⟨b, o, none⟩) ∧ (∀ b o, b < B → w1.frozen? ⟨b, o, none⟩ = W.frozen? ⟨b, o, none⟩) :=
 ⟨fun b o h => hb.cell (p := ⟨b, o, none⟩) h, fun b o h => hb.frozen (p := ⟨b, o, none⟩) h⟩
theorem fld_facts (op : Int) (h1 : 1 ≤ op) (h2 : op ≤ 12) : fld op 0 = decide (op ≠ 6 ∧ op ≠ 10 ∧ op ≠ 12) ∧ fld op 1 = readsA op ∧ fld op 2 = readsB op ∧ fld op 3 = decide (op = 3 ∨ op = 4) ∧
  fld op 4 = decide (op = 7 ∨ op = 8 ∨ op = 9) ∧ fld op 5 = decide (5 ≤ op ∧ op ≤ 8) ∧ fld op 6 = decide (op = 5 ∨ op = 6) ∧ fld op 7 = decide (op = 1) ∧ fld op 8 = decide (op = 9) ∧ fld op 9 = decide (op ≠ 10 ∧ op ≠ 12) := by
 obtain ⟨k, rfl⟩ := Int.eq_ofNat_of_zero_le (show 0 ≤ op by omega)
 obtain ⟨a0, a1, a2, a3, a4, a5, a6, a7, a8, a9⟩ := fld_all ⟨k, by omega⟩
 simp only [] at a0 a1 a2 a3 a4 a5 a6 a7 a8 a9
 refine ⟨(a0 (by omega)).trans ?_, a1, a2, a3.trans ?_, a4.trans ?_, a5.trans ?_, a6.trans ?_, a7.trans ?_, a8.trans ?_, (a9 (by omega)).trans ?_⟩ <;> (congr 1; apply propext; omega)
theorem defI_0 (i : In) (h : i.op < 1 ∨ 12 < i.op) : defI i = -1 := by unfold defI; rw [if_neg (by omega)]
theorem defI_y (i : In) (h1 : 1 ≤ i.op) (h2 : i.op ≤ 12) (h : fld i.op 0 = true) : defI i = i.d := by
 rw [(fld_facts i.op h1 h2).1] at h; simp at h; unfold defI; rw [if_pos (by omega)]
theorem defI_n (i : In) (h1 : 1 ≤ i.op) (h2 : i.op ≤ 12) (h : fld i.op 0 = false) : defI i = -1 := by
 rw [(fld_facts i.op h1 h2).1] at h; simp at h; unfold defI; rw [if_neg (by omega)]
theorem rdef_c (i : In) (v : Value) (w : World) (hv : InV w v i) :
  Calls Try.prog 57 #[v] w fun e w' => e = .returned (.int .i64 (defI i)) ∧ Below w.heap.size w w' := by
 obtain ⟨va, rfl, hva⟩ := hv
 by_cases h : i.op < 1 ∨ 12 < i.op
 ·have H := Lib.hid (defI_0 i h)
  go_enter Try.func57, Try.ntmps57
  go_wp2_with (go_at_call 95; refine (fields_0 _ _ h).mono ?_; rintro e w1 ⟨rfl, hb⟩)
  go_ret
  exact ⟨ret_i H.out.symm, (below_alloc _ _).trans (hb.mono (by simp))⟩
 ·have h1 : 1 ≤ i.op := by omega
  have h2 : i.op ≤ 12 := by omega
  cases hd : fld i.op 0
  ·have H := Lib.hid (defI_n i h1 h2 hd)
   go_enter Try.func57, Try.ntmps57
   go_wp2_with (go_at_call 95; refine (fields_c _ _ h1 h2).mono ?_; rintro e w1 ⟨g, rfl, hg, ha, hb⟩; have c0 := ha.c0)
   go_ret
   exact ⟨ret_i H.out.symm, (below_alloc _ _).trans (hb.mono (by simp))⟩
  ·have H := Lib.hid (defI_y i h1 h2 hd)
   go_enter Try.func57, Try.ntmps57
   go_wp2_with (go_at_call 95; refine (fields_c _ _ h1 h2).mono ?_; rintro e w1 ⟨g, rfl, hg, ha, hb⟩; have c0 := ha.c0; obtain ⟨hc1, _⟩ := bcell' hb)
   go_ret
   exact ⟨ret_i H.out.symm, (below_alloc _ _).trans (hb.mono (by simp))⟩
theorem routs_c (b : Bk) (v : Value) (w : World) (hv : BkV w v b) :
  Calls Try.prog 142 #[v] w (RetI w (outsB b)) := by
 obtain ⟨ins, fin, a, to, els⟩ := b
 obtain ⟨vi, rfl, hvi⟩ := hv
 have O0 := Own.nil (w0 := w.alloc (.cells #[vi, .int .i64 fin, .int .i64 a, .int .i64 to, .int .i64 els] 35)) (B := w.heap.size + 1) (by simp)
 have E1 := outsB_1 ⟨ins, fin, a, to, els⟩
 have E2 := outsB_2 ⟨ins, fin, a, to, els⟩
 have E3 := outsB_3 ⟨ins, fin, a, to, els⟩
 by_cases h1 : fin = 1
 ·subst h1
  have E := Lib.hid (E1 (.inl rfl))
  clear E1 E2 E3
  go_enter Try.func142, Try.ntmps142
  go_wp2_with (first | (at_builtin; refine app1 O0 rfl rfl rfl rfl (by first | rfl | simp) (by simp) ?_; intro v1 w1 O1; have hc1 := O1.bcell; have hz1 := O1.below.size; simp at hz1))
  go_ret
  rw [E.out]
  exact O1.ret (below_alloc _ _) (by omega)
 by_cases h2 : fin = 2
 ·subst h2
  by_cases h3 : to = els
  ·subst h3
   have E := Lib.hid (E1 (.inr ⟨rfl, rfl⟩))
   clear E1 E2 E3 h1
   go_enter Try.func142, Try.ntmps142
   go_wp2_with (first | (at_builtin; refine app1 O0 rfl rfl rfl rfl (by first | rfl | simp) (by simp) ?_; intro v1 w1 O1; have hc1 := O1.bcell; have hz1 := O1.below.size; simp at hz1))
   go_ret
   rw [E.out]
   exact O1.ret (below_alloc _ _) (by omega)
  ·have E := Lib.hid (E2 (by simp [h3]) rfl)
   have h3' : (els != to) = true := bne_iff_ne.2 (Ne.symm h3)
   clear E1 E2 E3 h1
   go_enter Try.func142, Try.ntmps142
   go_wp2_with (first | (at_builtin; refine app1 O1 rfl rfl rfl rfl (by first | rfl | simp) (by simp) ?_; intro v2 w2 O2) | (at_builtin; refine app1 O0 rfl rfl rfl rfl (by first | rfl | simp) (by simp) ?_; intro v1 w1 O1; have hc1 := O1.bcell; have hz1 := O1.below.size; simp at hz1))
   go_ret
   rw [E.out]
   exact O2.ret (below_alloc _ _) (by omega)
 ·have E := Lib.hid (E3 h1 h2)
  have h1' : (fin == 1) = false := by simpa using h1
  have h2' : (fin == 2) = false := by simpa using h2
  clear E1 E2 E3 h1 h2
  go_enter Try.func142, Try.ntmps142
  go_wp2
  go_ret
  rw [E.out]
  exact O0.ret (below_alloc _ _) (by omega)
end Go.Proofs.Ytkhfddodmjnecaa

set_option linter.all false
namespace Go.Proofs.Ytkhfddodmjnecaa
open Go Go.RowKit

/-- a world and new blocks behind its own -/
def plus (W x : World) : World := { W with heap := W.heap ++ x.heap, drawn := x.drawn }
/-- what lies behind -/
def plusRest (W x : World) (a : Addr) : Option Value := if a.block < W.heap.size then none else (plus W x).cell? a

theorem plus_below (W x : World) : Below W.heap.size W (plus W x) := by
 refine ⟨rfl, rfl, rfl, ?_, fun k hk => ?_⟩
 ·show W.heap.size ≤ (W.heap ++ x.heap).size
  simp
 ·show (W.heap ++ x.heap)[k]? = W.heap[k]?
  rw [Array.getElem?_append, if_pos hk]
theorem cell?_plus (W x : World) (a : Addr) : (plus W x).cell? a = (W.cell? a).or (plusRest W x a) := by
 unfold plusRest
 by_cases h : a.block < W.heap.size
 ·rw [if_pos h, (plus_below W x).cell h]; simp
 ·rw [if_neg h]
  have : W.cell? a = none := by
   unfold World.cell?
   rw [Array.getElem?_eq_none (by omega)]
  rw [this]; simp
attribute [go_sem] cell?_plus
end Go.Proofs.Ytkhfddodmjnecaa

set_option linter.all false
namespace Go.Proofs.Ytkhfddodmjnecaa
open Go.RowKit

/-- a word as a signed number -/
def sg (a : Int) : Int := if a < 2147483648 then a else a - 4294967296
/-- shifted to the left by so many -/
def shl32 (a b : Int) : Int := (a * 2 ^ (b % 32).toNat) % 4294967296
def sar32 (a b : Int) : Int := (sg a / 2 ^ (b % 32).toNat) % 4294967296
def divS (a b : Int) : Int := if b = 0 then 4294967295 else ((sg a).tdiv (sg b)) % 4294967296
def remS (a b : Int) : Int := if b = 0 then a else ((sg a).tmod (sg b)) % 4294967296
def lessS (a b : Int) : Int := if sg a < sg b then 1 else 0
def highU (a b : Int) : Int := a * b / 4294967296
theorem wrap32_sg (a : Int) (h : 0 ≤ a) (h' : a < 4294967296) : wrap32 a = sg a := by
 unfold sg wrap32; split <;> omega
theorem sg_bd (a : Int) (h : 0 ≤ a) (h' : a < 4294967296) : -2147483648 ≤ sg a ∧ sg a < 2147483648 := by
 unfold sg; split <;> omega
theorem wrap64_in (a : Int) (h : -9223372036854775808 ≤ a) (h' : a < 9223372036854775808) : wrap64 a = a := by
 unfold wrap64; omega

theorem mul_bd (a b A B : Int) (ha : -A ≤ a) (ha' : a ≤ A) (hb : -B ≤ b) (hb' : b ≤ B) : -(A * B) ≤ a * b ∧ a * b ≤ A * B := by
 have h1 : a.natAbs * b.natAbs ≤ A.natAbs * B.natAbs := Nat.mul_le_mul (by omega) (by omega)
 have h2 : (a * b).natAbs = a.natAbs * b.natAbs := Int.natAbs_mul a b
 have h3 : (A * B).natAbs = A.natAbs * B.natAbs := Int.natAbs_mul A B
 have hA : 0 ≤ A := by omega
 have hB : 0 ≤ B := by omega
 have h4 : 0 ≤ A * B := Int.mul_nonneg hA hB
 omega
theorem mul_nn (a b A B : Int) (ha : 0 ≤ a) (ha' : a ≤ A) (hb : 0 ≤ b) (hb' : b ≤ B) : 0 ≤ a * b ∧ a * b ≤ A * B :=
 ⟨Int.mul_nonneg ha hb, (mul_bd a b A B (by omega) ha' (by omega) hb').2⟩

/-- a number of 64 bits cut to a word: by a truncated remainder -/
theorem cut_neg (n : Int) (h : n < 0) : n.tmod 4294967296 = n % 4294967296 - (if n % 4294967296 = 0 then 0 else 4294967296) := by
 rw [Int.tmod_eq_emod]; split <;> split <;> omega

/-- the halves of a product -/
theorem half_eq (a b : Int) (h : 0 ≤ a) (h' : a < 4294967296) (h1 : 0 ≤ b) (h1' : b < 4294967296) :
  ∃ ll hl lh hh : Int, (a % 65536) * (b % 65536) = ll ∧ (a / 65536) * (b % 65536) = hl ∧ (a % 65536) * (b / 65536) = lh ∧ (a / 65536) * (b / 65536) = hh ∧
   0 ≤ ll ∧ ll ≤ 4294836225 ∧ 0 ≤ hl ∧ hl ≤ 4294836225 ∧ 0 ≤ lh ∧ lh ≤ 4294836225 ∧ 0 ≤ hh ∧ hh ≤ 4294836225 ∧ a * b = hh * 4294967296 + (hl + lh) * 65536 + ll := by
 refine ⟨_, _, _, _, rfl, rfl, rfl, rfl, ?_⟩
 have e1 := mul_nn (a % 65536) (b % 65536) 65535 65535 (by omega) (by omega) (by omega) (by omega)
 have e2 := mul_nn (a / 65536) (b % 65536) 65535 65535 (by omega) (by omega) (by omega) (by omega)
 have e3 := mul_nn (a % 65536) (b / 65536) 65535 65535 (by omega) (by omega) (by omega) (by omega)
 have e4 := mul_nn (a / 65536) (b / 65536) 65535 65535 (by omega) (by omega) (by omega) (by omega)
 refine ⟨e1.1, by omega, e2.1, by omega, e3.1, by omega, e4.1, by omega, ?_⟩
 have ha : a = 65536 * (a / 65536) + a % 65536 := by omega
 have hb : b = 65536 * (b / 65536) + b % 65536 := by omega
 generalize a / 65536 = x at *
 generalize a % 65536 = y at *
 generalize b / 65536 = u at *
 generalize b % 65536 = v at *
 subst ha hb
 simp only [Int.add_mul, Int.mul_add]
 have t1 : 65536 * x * (65536 * u) = 4294967296 * (x * u) := by
  rw [Int.mul_assoc, ← Int.mul_assoc x, Int.mul_comm x 65536, Int.mul_assoc 65536 x u, ← Int.mul_assoc]; rfl
 have t2 : 65536 * x * v = 65536 * (x * v) := Int.mul_assoc _ _ _
 have t3 : y * (65536 * u) = 65536 * (y * u) := by rw [← Int.mul_assoc, Int.mul_comm y 65536, Int.mul_assoc]
 rw [t1, t2, t3]
 omega

theorem pow_split (n : Nat) (h : n ≤ 32) : ∃ p q : Int, (2 : Int) ^ n = p ∧ (4294967296 : Int) / p = q ∧ p * q = 4294967296 ∧ 1 ≤ p ∧ 1 ≤ q ∧ p ≤ 4294967296 ∧ q ≤ 4294967296 := by
 refine ⟨_, _, rfl, rfl, ?_⟩
 have : n = 0 ∨ n = 1 ∨ n = 2 ∨ n = 3 ∨ n = 4 ∨ n = 5 ∨ n = 6 ∨ n = 7 ∨ n = 8 ∨ n = 9 ∨ n = 10 ∨ n = 11 ∨ n = 12 ∨ n = 13 ∨ n = 14 ∨ n = 15 ∨ n = 16 ∨ n = 17 ∨ n = 18 ∨ n = 19 ∨ n = 20 ∨ n = 21 ∨ n = 22 ∨ n = 23 ∨ n = 24 ∨ n = 25 ∨ n = 26 ∨ n = 27 ∨ n = 28 ∨ n = 29 ∨ n = 30 ∨ n = 31 ∨ n = 32 := by omega
 rcases this with h | h | h | h | h | h | h | h | h | h | h | h | h | h | h | h | h | h | h | h | h | h | h | h | h | h | h | h | h | h | h | h | h <;> subst h <;> decide
/-- shifted to the left: what is lost is lost first -/
theorem shl_eq (a b : Int) (h : 0 ≤ b) : ((a % (4294967296 / 2 ^ (b % 32).toNat)) * 2 ^ (b % 32).toNat) % 4294967296 = shl32 a b ∧ (0 ≤ (a % (4294967296 / 2 ^ (b % 32).toNat)) * 2 ^ (b % 32).toNat ∧ (a % (4294967296 / 2 ^ (b % 32).toNat)) * 2 ^ (b % 32).toNat < 4294967296) := by
 obtain ⟨p, q, h1, h2, h3, h4, h5, h6, h7⟩ := pow_split (b % 32).toNat (by omega)
 unfold shl32
 rw [h1, h2]
 have e1 := Int.emod_nonneg a (show q ≠ 0 by omega)
 have e2 := Int.emod_lt_of_pos a (show 0 < q by omega)
 have e3 : (a % q) * p = (a * p) % 4294967296 := by
  rw [← h3, Int.mul_comm a p, Int.mul_emod_mul_of_pos _ _ (by omega), Int.mul_comm]
 rw [e3]
 omega

/-- a power of two -/
def pw (k : Nat) : Int := 2 ^ k
theorem pw_succ (k : Nat) : pw (k + 1) = 2 * pw k := by unfold pw; rw [Int.pow_succ]; omega
theorem pw_pos (k : Nat) : 1 ≤ pw k := by
 unfold pw
 have h3 : 0 < (2 : Nat) ^ k := Nat.pow_pos (by omega)
 have h4 : (2 : Int) ^ k = ((2 ^ k : Nat) : Int) := by simp
 rw [h4]; omega
theorem pw_le (k m : Nat) (h : k ≤ m) : pw k ≤ pw m := by
 unfold pw
 have h2 : (2 : Nat) ^ k ≤ 2 ^ m := Nat.pow_le_pow_right (by omega) h
 have h4 : (2 : Int) ^ k = ((2 ^ k : Nat) : Int) := by simp
 have h5 : (2 : Int) ^ m = ((2 ^ m : Nat) : Int) := by simp
 rw [h4, h5]; omega
theorem pw_31 (k : Nat) (h : k ≤ 31) : pw k ≤ 2147483648 := pw_le k 31 h

theorem sg_zero (b : Int) (h : 0 ≤ b) (h' : b < 4294967296) : sg b = 0 ↔ b = 0 := by unfold sg; split <;> omega
theorem sg_inj (a b : Int) (h : 0 ≤ a) (h' : a < 4294967296) (h1 : 0 ≤ b) (h1' : b < 4294967296) : sg a = sg b ↔ a = b := by
 unfold sg; split <;> split <;> omega

theorem tdiv_bd (x y : Int) (h : -2147483648 ≤ x) (h' : x < 2147483648) : -2147483648 ≤ x.tdiv y ∧ x.tdiv y ≤ 2147483648 := by
 have h1 : (x.tdiv y).natAbs ≤ x.natAbs := by rw [Int.natAbs_tdiv]; exact Nat.div_le_self _ _
 omega
theorem div_eq (a b : Int) (h : 0 ≤ a) (h' : a < 4294967296) (h1 : 0 ≤ b) (h1' : b < 4294967296) (hb : b ≠ 0) :
  wrap64 ((wrap64 (wrap32 a)).tdiv (wrap64 (wrap32 b))) % 4294967296 = divS a b := by
 have ha := sg_bd a h h'
 have hb' := sg_bd b h1 h1'
 rw [wrap32_sg a h h', wrap32_sg b h1 h1', wrap64_in (sg a) (by omega) (by omega), wrap64_in (sg b) (by omega) (by omega)]
 have := tdiv_bd (sg a) (sg b) (by omega) (by omega)
 rw [wrap64_in _ (by omega) (by omega)]
 unfold divS; rw [if_neg hb]
theorem rem_eq (a b : Int) (h : 0 ≤ a) (h' : a < 4294967296) (h1 : 0 ≤ b) (h1' : b < 4294967296) (hb : b ≠ 0) :
  (wrap64 (wrap32 a)).tmod (wrap64 (wrap32 b)) % 4294967296 = remS a b := by
 have ha := sg_bd a h h'
 have hb' := sg_bd b h1 h1'
 rw [wrap32_sg a h h', wrap32_sg b h1 h1', wrap64_in (sg a) (by omega) (by omega), wrap64_in (sg b) (by omega) (by omega)]
 unfold remS; rw [if_neg hb]
/-- a quotient by amounts, with its sign -/
theorem div_abs (x y : Int) (hy : y ≠ 0) : x.tdiv y = (if (x < 0 ∧ 0 < y) ∨ (0 < x ∧ y < 0) then -(((x.natAbs / y.natAbs : Nat) : Int)) else ((x.natAbs / y.natAbs : Nat) : Int)) := by
 have h1 : (x.tdiv y).natAbs = x.natAbs / y.natAbs := Int.natAbs_tdiv x y
 have h2 : 0 ≤ x → 0 ≤ y → 0 ≤ x.tdiv y := fun a b => Int.tdiv_nonneg a b
 have h3 : x ≤ 0 → y ≤ 0 → 0 ≤ x.tdiv y := fun a b => by rw [← Int.neg_tdiv_neg]; exact Int.tdiv_nonneg (by omega) (by omega)
 have h4 : x ≤ 0 → 0 ≤ y → x.tdiv y ≤ 0 := fun a b => by have := Int.tdiv_nonneg (a := -x) (b := y) (by omega) b; rw [Int.neg_tdiv] at this; omega
 have h5 : 0 ≤ x → y ≤ 0 → x.tdiv y ≤ 0 := fun a b => by have := Int.tdiv_nonneg (a := x) (b := -y) a (by omega); rw [Int.tdiv_neg] at this; omega
 split <;> omega
theorem rem_abs (x y : Int) : x.tmod y = (if x < 0 then -(((x.natAbs % y.natAbs : Nat) : Int)) else ((x.natAbs % y.natAbs : Nat) : Int)) := by
 have h1 : (x.tmod y).natAbs = x.natAbs % y.natAbs := Int.natAbs_tmod x y
 have h2 : 0 ≤ x → 0 ≤ x.tmod y := fun a => Int.tmod_nonneg y a
 have h4 : x ≤ 0 → x.tmod y ≤ 0 := fun a => by have := Int.tmod_nonneg (a := -x) y (by omega); rw [Int.neg_tmod] at this; omega
 split <;> omega
end Go.Proofs.Ytkhfddodmjnecaa
