/-
 Contracts of the reference's functions that tell of one instruction and one block.; Regions that draw their order, at the class of worlds that extend one world: whatever calls make new memory in between, each operation yields the same value.; Plain arithmetic of 32-bit words: signed readings, products by halves, truncated and floored division.; Contracts of the functions of word and of its reference: each returns the number that the plain arithmetic of W1 says, and leaves the world as it is. Conditions: each word lies between 0 and 2^32 - 1.
-/
import Derived.Test.YtnnhobbabcfogaaZDeadDoes01
import Derived.BigQuiet
import Derived.Below
import Derived.WalkKit
import Derived.RowKit
import Derived.Test.YtnnhobbabcfogaaRows
import Derived.ProofKit
import Derived.OpenShut
import Derived.Outline
import Derived.Lib.Hide
import Derived.Deep.QuietTactic

set_option linter.all false
namespace Go.Proofs.Ytnnhobbabcfogaa
open Go.ChangeShapes Go.WideShapes Go.ChangeAt Go.RowKit
set_option maxHeartbeats 1000000
set_option maxRecDepth 20000

theorem bcell' {B : Nat} {W w1 : World} (hb : Below B W w1) : (∀ b o, b < B → w1.cell? ⟨b, o, none⟩ = W.cell? ⟨b, o, none⟩) ∧ (∀ b o, b < B → w1.frozen? ⟨b, o, none⟩ = W.frozen? ⟨b, o, none⟩) :=
 ⟨fun b o h => hb.cell (p := ⟨b, o, none⟩) h, fun b o h => hb.frozen (p := ⟨b, o, none⟩) h⟩
theorem fld_facts (op : Int) (h1 : 1 ≤ op) (h2 : op ≤ 12) : fld op 0 = decide (op ≠ 6 ∧ op ≠ 10 ∧ op ≠ 12) ∧ fld op 1 = readsA op ∧ fld op 2 = readsB op ∧ fld op 3 = decide (op = 3 ∨ op = 4) ∧
  fld op 4 = decide (op = 7 ∨ op = 8 ∨ op = 9) ∧ fld op 5 = decide (5 ≤ op ∧ op ≤ 8) ∧ fld op 6 = decide (op = 5 ∨ op = 6) ∧ fld op 7 = decide (op = 1) ∧ fld op 8 = decide (op = 9) ∧ fld op 9 = decide (op ≠ 10 ∧ op ≠ 12) := by
 obtain ⟨k, rfl⟩ := Int.eq_ofNat_of_zero_le (show 0 ≤ op by omega)
 obtain ⟨a0, a1, a2, a3, a4, a5, a6, a7, a8, a9⟩ := fld_all ⟨k, by omega⟩
 simp only [] at a0 a1 a2 a3 a4 a5 a6 a7 a8 a9
 refine ⟨(a0 (by omega)).trans ?_, a1, a2, a3.trans ?_, a4.trans ?_, a5.trans ?_, a6.trans ?_, a7.trans ?_, a8.trans ?_, (a9 (by omega)).trans ?_⟩ <;> (congr 1; apply propext; omega)
theorem defI_0 (i : In) (h : i.op < 1 ∨ 12 < i.op) : defI i = -1 := by unfold defI; rw [if_neg (by omega)]
theorem defI_y (i : In) (h1 : 1 ≤ i.op) (h2 : i.op ≤ 12) (h : fld i.op 0 = true) : defI i = i.d := by
 rw [(fld_facts i.op h1 h2).1] at h; simp at h; unfold defI; rw [if_pos (by omega)]
theorem defI_n (i : In) (h1 : 1 ≤ i.op) (h2 : i.op ≤ 12) (h : fld i.op 0 = false) : defI i = -1 := by
 rw [(fld_facts i.op h1 h2).1] at h; simp at h; unfold defI; rw [if_neg (by omega)]
theorem rdef_c (i : In) (v : Value) (w : World) (hv : InV w v i) :
  Calls Try.prog 62 #[v] w fun e w' => e = .returned (.int .i64 (defI i)) ∧ Below w.heap.size w w' := by
 obtain ⟨va, rfl, hva⟩ := hv
 by_cases h : i.op < 1 ∨ 12 < i.op
 ·have H := Lib.hid (defI_0 i h)
  go_enter Try.func62, Try.ntmps62
  go_wp2_with (go_at_call 109; refine (fields_0 _ _ h).mono ?_; rintro e w1 ⟨rfl, hb⟩)
  go_ret
  exact ⟨ret_i H.out.symm, (below_alloc _ _).trans (hb.mono (by simp))⟩
 ·have h1 : 1 ≤ i.op := by omega
  have h2 : i.op ≤ 12 := by omega
  cases hd : fld i.op 0
  ·have H := Lib.hid (defI_n i h1 h2 hd)
   go_enter Try.func62, Try.ntmps62
   go_wp2_with (go_at_call 109; refine (fields_c _ _ h1 h2).mono ?_; rintro e w1 ⟨g, rfl, hg, ha, hb⟩; have c0 := ha.c0)
   go_ret
   exact ⟨ret_i H.out.symm, (below_alloc _ _).trans (hb.mono (by simp))⟩
  ·have H := Lib.hid (defI_y i h1 h2 hd)
   go_enter Try.func62, Try.ntmps62
   go_wp2_with (go_at_call 109; refine (fields_c _ _ h1 h2).mono ?_; rintro e w1 ⟨g, rfl, hg, ha, hb⟩; have c0 := ha.c0; obtain ⟨hc1, _⟩ := bcell' hb)
   go_ret
   exact ⟨ret_i H.out.symm, (below_alloc _ _).trans (hb.mono (by simp))⟩
theorem routs_c (b : Bk) (v : Value) (w : World) (hv : BkV w v b) :
  Calls Try.prog 128 #[v] w (RetI w (outsB b)) := by
 obtain ⟨ins, fin, a, to, els⟩ := b
 obtain ⟨vi, rfl, hvi⟩ := hv
 have O0 := Own.nil (w0 := w.alloc (.cells #[vi, .int .i64 fin, .int .i64 a, .int .i64 to, .int .i64 els] 48)) (B := w.heap.size + 1) (by simp)
 have E1 := outsB_1 ⟨ins, fin, a, to, els⟩
 have E2 := outsB_2 ⟨ins, fin, a, to, els⟩
 have E3 := outsB_3 ⟨ins, fin, a, to, els⟩
 by_cases h1 : fin = 1
 ·subst h1
  have E := Lib.hid (E1 (.inl rfl))
  clear E1 E2 E3
  go_enter Try.func128, Try.ntmps128
  go_wp2_with (first | (at_builtin; refine app1 O0 rfl rfl rfl rfl (by first | rfl | simp) (by simp) ?_; intro v1 w1 O1; have hc1 := O1.bcell; have hz1 := O1.below.size; simp at hz1))
  go_ret
  rw [E.out]
  exact O1.ret (below_alloc _ _) (by omega)
 by_cases h2 : fin = 2
 ·subst h2
  by_cases h3 : to = els
  ·subst h3
   have E := Lib.hid (E1 (.inr ⟨rfl, rfl⟩))
   clear E1 E2 E3 h1
   go_enter Try.func128, Try.ntmps128
   go_wp2_with (first | (at_builtin; refine app1 O0 rfl rfl rfl rfl (by first | rfl | simp) (by simp) ?_; intro v1 w1 O1; have hc1 := O1.bcell; have hz1 := O1.below.size; simp at hz1))
   go_ret
   rw [E.out]
   exact O1.ret (below_alloc _ _) (by omega)
  ·have E := Lib.hid (E2 (by simp [h3]) rfl)
   have h3' : (els != to) = true := bne_iff_ne.2 (Ne.symm h3)
   clear E1 E2 E3 h1
   go_enter Try.func128, Try.ntmps128
   go_wp2_with (first | (at_builtin; refine app1 O1 rfl rfl rfl rfl (by first | rfl | simp) (by simp) ?_; intro v2 w2 O2) | (at_builtin; refine app1 O0 rfl rfl rfl rfl (by first | rfl | simp) (by simp) ?_; intro v1 w1 O1; have hc1 := O1.bcell; have hz1 := O1.below.size; simp at hz1))
   go_ret
   rw [E.out]
   exact O2.ret (below_alloc _ _) (by omega)
 ·have E := Lib.hid (E3 h1 h2)
  have h1' : (fin == 1) = false := by simpa using h1
  have h2' : (fin == 2) = false := by simpa using h2
  clear E1 E2 E3 h1 h2
  go_enter Try.func128, Try.ntmps128
  go_wp2
  go_ret
  rw [E.out]
  exact O0.ret (below_alloc _ _) (by omega)
/-- past an append of one, for a list of arguments -/
theorem ruses_0 (i : In) (v : Value) (w : World) (hv : InV w v i) (h : i.op < 1 ∨ 12 < i.op) :
  Calls Try.prog 127 #[v] w (RetI w (usesI i)) := by
 have H : Hid (usesI i = []) := by
  show _ = _
  unfold usesI readsA readsB
  have e : ∀ k : Int, 1 ≤ k → k ≤ 12 → (i.op == k) = false := fun k _ _ => by simp; omega
  simp [e, show i.op ≠ 9 by omega]
 obtain ⟨va, rfl, hva⟩ := hv
 have O0 := Own.nil (w0 := w.alloc (.cells #[.int .i64 i.op, .int .i64 i.d, .int .i64 i.a, .int .i64 i.b, .int .i64 i.fn, .int .i64 i.obj, .int .i64 i.off, .int .i64 i.size, .int .u32 i.num, va, .bool i.log] 56)) (B := w.heap.size + 1) (by simp)
 go_enter Try.func127, Try.ntmps127
 go_wp2_with (go_at_call 109; refine (fields_0 _ _ h).mono ?_; rintro e w1 ⟨rfl, hb⟩)
 go_loopw [3, 5] (fun v k wr => v = .slice none 0 0 ∧ k = .int .i64 0 ∧ wr = w1) (fun _ _ _ => 0)
 case atStart => exact ⟨rfl, rfl, rfl⟩
 case round =>
  obtain ⟨rfl, rfl, rfl⟩ := hrel
  go_wp2
  go_ret
  rw [H.out]
  exact ⟨_, rfl, OwnI.nil _ _, (below_alloc _ _).trans (hb.mono (by simp))⟩
theorem usesI_in (i : In) (h1 : 1 ≤ i.op) (h2 : i.op ≤ 12) : usesI i = (if fld i.op 1 && i.a != -1 then [i.a] else []) ++ (if fld i.op 2 && i.b != -1 then [i.b] else []) ++ (if fld i.op 8 then i.args.filter (· != -1) else []) := by
 obtain ⟨_, a1, a2, _, _, _, _, _, a8, _⟩ := fld_facts i.op h1 h2
 unfold usesI
 rw [a1, a2, a8]
 simp
theorem ruses_n (i : In) (v : Value) (w : World) (hv : InV w v i) (h1 : 1 ≤ i.op) (h2 : i.op ≤ 12) (h9 : fld i.op 8 = false) :
  Calls Try.prog 127 #[v] w (RetI w (usesI i)) := by
 have H := usesI_in i h1 h2
 rw [h9] at H
 obtain ⟨va, rfl, hva⟩ := hv
 cases e1 : fld i.op 1 <;> cases e2 : fld i.op 2
 all_goals
  rw [e1, e2] at H
  by_cases ha : (i.a != -1) = true <;> by_cases hb : (i.b != -1) = true
 all_goals
  obtain ⟨L, hL⟩ : ∃ L, usesI i = L := ⟨_, rfl⟩
  rw [hL] at H ⊢
  first | (have ha := eq_false_of_ne_true ha) | skip
  first | (have hb := eq_false_of_ne_true hb) | skip
  simp only [ha, hb, Bool.and_true, Bool.and_false, Bool.false_and, Bool.true_and, if_true, if_false, Bool.false_eq_true, List.nil_append, List.append_nil] at H
  have H := Lib.hid H
  clear hL
  go_enter Try.func127, Try.ntmps127
  go_wp2_with (first | (go_at_call 109; refine (fields_c _ _ h1 h2).mono ?_; rintro e w1 ⟨g, rfl, hg, hfl, hbl⟩; have c1 := hfl.c1; have c2 := hfl.c2; have c8 := hfl.c8; obtain ⟨hc, _⟩ := bcell' hbl; have hz := hbl.size; (simp at hz); have hz' : w.heap.size < w1.heap.size := (by omega); have hgl := hfl.lt; have O0 := Own.nil (w0 := w1) (B := w1.heap.size) (Nat.le_refl _)) | (at_builtin; refine app1 O1 rfl rfl rfl rfl (by first | rfl | simp) (by simp) ?_; intro v2 w3 O2; have hc2 := O2.bcell; have hz2 := O2.below.size) | (at_builtin; refine app1 O0 rfl rfl rfl rfl (by first | rfl | simp) (by simp) ?_; intro v1 w2 O1; have hc1 := O1.bcell; have hz1 := O1.below.size))

  go_loopw [3, 5] (fun v k wr => Own w1 w1.heap.size wr v L ∧ k = .int .i64 0) (fun _ _ _ => 0)
  case atStart => exact ⟨by rw [H.out]; assumption, rfl⟩
  case round =>
   obtain ⟨O, rfl⟩ := hrel
   have hcr := O.bcell
   go_wp2
   go_ret
   exact O.ret ((below_alloc _ _).trans (hbl.mono (by simp))) (by omega)
end Go.Proofs.Ytnnhobbabcfogaa

set_option linter.all false
namespace Go.Proofs.Ytnnhobbabcfogaa
open Go Go.RowKit

/-- a world and new blocks behind its own -/
def plus (W x : World) : World := { W with heap := W.heap ++ x.heap, drawn := x.drawn }
/-- what lies behind -/
def plusRest (W x : World) (a : Addr) : Option Value := if a.block < W.heap.size then none else (plus W x).cell? a

theorem plus_below (W x : World) : Below W.heap.size W (plus W x) := by
 refine ⟨rfl, rfl, rfl, ?_, fun k hk => ?_⟩
 ·show W.heap.size ≤ (W.heap ++ x.heap).size
  simp
 ·show (W.heap ++ x.heap)[k]? = W.heap[k]?
  rw [Array.getElem?_append, if_pos hk]
theorem below_plus {W w : World} (h : Below W.heap.size W w) : ∃ x, w = plus W x := by
 refine ⟨{ w with heap := w.heap.extract W.heap.size w.heap.size }, ?_⟩
 have e : w.heap = W.heap ++ w.heap.extract W.heap.size w.heap.size := by
  apply Array.ext_getElem?
  intro k
  rw [Array.getElem?_append]
  by_cases hk : k < W.heap.size
  ·rw [if_pos hk]; exact h.block k hk
  ·rw [if_neg hk, Array.getElem?_extract]
   have := h.size
   by_cases hw : k < w.heap.size
   ·rw [if_pos (by omega)]; congr 1; omega
   ·rw [if_neg (by omega), Array.getElem?_eq_none (by omega)]
 unfold plus
 rw [← e]
 obtain ⟨heap, tape, drawn, os, output⟩ := w
 obtain ⟨heap', tape', drawn', os', output'⟩ := W
 have h1 : os = os' := h.os
 have h2 : tape = tape' := h.tape
 have h3 : output = output' := h.output
 subst h1 h2 h3
 rfl
theorem cell?_plus (W x : World) (a : Addr) : (plus W x).cell? a = (W.cell? a).or (plusRest W x a) := by
 unfold plusRest
 by_cases h : a.block < W.heap.size
 ·rw [if_pos h, (plus_below W x).cell h]; simp
 ·rw [if_neg h]
  have : W.cell? a = none := by
   unfold World.cell?
   rw [Array.getElem?_eq_none (by omega)]
  rw [this]; simp
attribute [go_sem] cell?_plus
theorem size_plus (W x : World) : W.heap.size ≤ (plus W x).heap.size := (plus_below W x).size

/-- the region rule at that class -/
theorem wp_region_plus {P : Program} {ops : List Oper} {id : Nat} {Q : Exit → Act → World → Prop} {a : Act} {w : World} (hm : P.follows .mixedOrders = true) (hB : Region.lexB .any ops.toArray = true)
  (h : wpQuiet P ops.toArray (fun w' => ∃ x, w' = plus w x) (fun a' => ∀ w', (∃ x, w' = plus w x) → Q .normal a' w') ops a) : (Code.region id ops.toArray true).wp P Q a w :=
 wp_region_quiet (C := fun w' => ∃ x, w' = plus w x) hm hB (below_plus (Below.drew (Below.refl _ _))) (by simpa using h)

theorem plus_of {P : Program} {f : FuncId} {args : Array Value} {w x : World} {v : Value}
  (h : Calls P f args (plus w x) fun e w' => e = .returned v ∧ Below (plus w x).heap.size (plus w x) w') : Calls P f args (plus w x) fun e w'' => e = .returned v ∧ ∃ x, w'' = plus w x :=
 h.mono fun _ _ ⟨he, hb⟩ => ⟨he, below_plus ((plus_below w x).trans (hb.mono (size_plus w x)))⟩
theorem plus_of_same {P : Program} {f : FuncId} {args : Array Value} {w x : World} {v : Value}
  (h : Calls P f args (plus w x) fun e w' => e = .returned v ∧ plus w x = w') : Calls P f args (plus w x) fun e w'' => e = .returned v ∧ ∃ x, w'' = plus w x :=
 h.mono fun _ _ ⟨he, hb⟩ => ⟨he, _, hb.symm⟩
theorem plus_of_drew {P : Program} {f : FuncId} {args : Array Value} {w x : World} {v : Value}
  (h : Calls P f args (plus w x) fun e w' => e = .returned v ∧ ∃ n, (plus w x).drewN n = w') : Calls P f args (plus w x) fun e w'' => e = .returned v ∧ ∃ x, w'' = plus w x :=
 h.mono fun _ _ ⟨he, n, hb⟩ => ⟨he, { x with drawn := (plus w x).drawn + n }, by rw [← hb]; rfl⟩
end Go.Proofs.Ytnnhobbabcfogaa

set_option linter.all false
namespace Go.Proofs.Ytnnhobbabcfogaa
open Go.RowKit

/-- a word as a signed number -/
def sg (a : Int) : Int := if a < 2147483648 then a else a - 4294967296
/-- shifted to the left by so many -/
def shl32 (a b : Int) : Int := (a * 2 ^ (b % 32).toNat) % 4294967296
def shr32 (a b : Int) : Int := a / 2 ^ (b % 32).toNat
def sar32 (a b : Int) : Int := (sg a / 2 ^ (b % 32).toNat) % 4294967296
def divS (a b : Int) : Int := if b = 0 then 4294967295 else ((sg a).tdiv (sg b)) % 4294967296
def remS (a b : Int) : Int := if b = 0 then a else ((sg a).tmod (sg b)) % 4294967296
def divU (a b : Int) : Int := if b = 0 then 4294967295 else a / b
def remU (a b : Int) : Int := if b = 0 then a else a % b
def lessS (a b : Int) : Int := if sg a < sg b then 1 else 0
def lessU (a b : Int) : Int := if a < b then 1 else 0
def signX (a n : Int) : Int := if n < 1 ∨ 31 < n then a else (if a % 2 ^ n.toNat < 2 ^ (n.toNat - 1) then a % 2 ^ n.toNat else a % 2 ^ n.toNat - 2 ^ n.toNat) % 4294967296
def highS (a b : Int) : Int := sg a * sg b / 4294967296 % 4294967296
def highU (a b : Int) : Int := a * b / 4294967296
def highSU (a b : Int) : Int := sg a * b / 4294967296 % 4294967296

theorem wrap32_sg (a : Int) (h : 0 ≤ a) (h' : a < 4294967296) : wrap32 a = sg a := by
 unfold sg wrap32; split <;> omega
theorem sg_bd (a : Int) (h : 0 ≤ a) (h' : a < 4294967296) : -2147483648 ≤ sg a ∧ sg a < 2147483648 := by
 unfold sg; split <;> omega
theorem sg_mod (a : Int) (h : 0 ≤ a) (h' : a < 4294967296) : sg a % 4294967296 = a := by
 unfold sg; split <;> omega
theorem wrap64_in (a : Int) (h : -9223372036854775808 ≤ a) (h' : a < 9223372036854775808) : wrap64 a = a := by
 unfold wrap64; omega

theorem mul_bd (a b A B : Int) (ha : -A ≤ a) (ha' : a ≤ A) (hb : -B ≤ b) (hb' : b ≤ B) : -(A * B) ≤ a * b ∧ a * b ≤ A * B := by
 have h1 : a.natAbs * b.natAbs ≤ A.natAbs * B.natAbs := Nat.mul_le_mul (by omega) (by omega)
 have h2 : (a * b).natAbs = a.natAbs * b.natAbs := Int.natAbs_mul a b
 have h3 : (A * B).natAbs = A.natAbs * B.natAbs := Int.natAbs_mul A B
 have hA : 0 ≤ A := by omega
 have hB : 0 ≤ B := by omega
 have h4 : 0 ≤ A * B := Int.mul_nonneg hA hB
 omega
theorem mul_nn (a b A B : Int) (ha : 0 ≤ a) (ha' : a ≤ A) (hb : 0 ≤ b) (hb' : b ≤ B) : 0 ≤ a * b ∧ a * b ≤ A * B :=
 ⟨Int.mul_nonneg ha hb, (mul_bd a b A B (by omega) ha' (by omega) hb').2⟩

theorem u64wrap (a : Int) : IntKind.u64.wrap a = a % 18446744073709551616 := by
 simp [IntKind.wrap, IntKind.bits, IntKind.signed]

theorem high_eq (a b : Int) (h : 0 ≤ a) (h' : a < 4294967296) (h1 : 0 ≤ b) (h1' : b < 4294967296) :
  IntKind.u64.wrap (wrap64 (wrap64 (wrap32 a) * wrap64 (wrap32 b))) / 4294967296 % 4294967296 = highS a b := by
 have ha := sg_bd a h h'
 have hb := sg_bd b h1 h1'
 rw [wrap32_sg a h h', wrap32_sg b h1 h1', wrap64_in (sg a) (by omega) (by omega), wrap64_in (sg b) (by omega) (by omega), u64wrap]
 have hm := mul_bd (sg a) (sg b) 2147483648 2147483648 (by omega) (by omega) (by omega) (by omega)
 unfold highS
 generalize sg a * sg b = p at *
 rw [wrap64_in p (by omega) (by omega)]
 omega
theorem highsu_eq (a b : Int) (h : 0 ≤ a) (h' : a < 4294967296) (h1 : 0 ≤ b) (h1' : b < 4294967296) :
  IntKind.u64.wrap (wrap64 (wrap64 (wrap32 a) * b)) / 4294967296 % 4294967296 = highSU a b := by
 have ha := sg_bd a h h'
 rw [wrap32_sg a h h', wrap64_in (sg a) (by omega) (by omega), u64wrap]
 have hm := mul_bd (sg a) b 2147483648 4294967295 (by omega) (by omega) (by omega) (by omega)
 unfold highSU
 generalize sg a * b = p at *
 rw [wrap64_in p (by omega) (by omega)]
 omega
theorem highu_eq (a b : Int) (h : 0 ≤ a) (h' : a < 4294967296) (h1 : 0 ≤ b) (h1' : b < 4294967296) :
  IntKind.u64.wrap (a * b) / 4294967296 % 4294967296 = highU a b := by
 rw [u64wrap]
 have hm := mul_nn a b 4294967295 4294967295 (by omega) (by omega) (by omega) (by omega)
 unfold highU
 generalize a * b = p at *
 omega

/-- a number of 64 bits cut to a word: by a truncated remainder -/
theorem cut_neg (n : Int) (h : n < 0) : n.tmod 4294967296 = n % 4294967296 - (if n % 4294967296 = 0 then 0 else 4294967296) := by
 rw [Int.tmod_eq_emod]; split <;> split <;> omega

/-- the halves of a product -/
theorem half_eq (a b : Int) (h : 0 ≤ a) (h' : a < 4294967296) (h1 : 0 ≤ b) (h1' : b < 4294967296) :
  ∃ ll hl lh hh : Int, (a % 65536) * (b % 65536) = ll ∧ (a / 65536) * (b % 65536) = hl ∧ (a % 65536) * (b / 65536) = lh ∧ (a / 65536) * (b / 65536) = hh ∧
   0 ≤ ll ∧ ll ≤ 4294836225 ∧ 0 ≤ hl ∧ hl ≤ 4294836225 ∧ 0 ≤ lh ∧ lh ≤ 4294836225 ∧ 0 ≤ hh ∧ hh ≤ 4294836225 ∧ a * b = hh * 4294967296 + (hl + lh) * 65536 + ll := by
 refine ⟨_, _, _, _, rfl, rfl, rfl, rfl, ?_⟩
 have e1 := mul_nn (a % 65536) (b % 65536) 65535 65535 (by omega) (by omega) (by omega) (by omega)
 have e2 := mul_nn (a / 65536) (b % 65536) 65535 65535 (by omega) (by omega) (by omega) (by omega)
 have e3 := mul_nn (a % 65536) (b / 65536) 65535 65535 (by omega) (by omega) (by omega) (by omega)
 have e4 := mul_nn (a / 65536) (b / 65536) 65535 65535 (by omega) (by omega) (by omega) (by omega)
 refine ⟨e1.1, by omega, e2.1, by omega, e3.1, by omega, e4.1, by omega, ?_⟩
 have ha : a = 65536 * (a / 65536) + a % 65536 := by omega
 have hb : b = 65536 * (b / 65536) + b % 65536 := by omega
 generalize a / 65536 = x at *
 generalize a % 65536 = y at *
 generalize b / 65536 = u at *
 generalize b % 65536 = v at *
 subst ha hb
 simp only [Int.add_mul, Int.mul_add]
 have t1 : 65536 * x * (65536 * u) = 4294967296 * (x * u) := by
  rw [Int.mul_assoc, ← Int.mul_assoc x, Int.mul_comm x 65536, Int.mul_assoc 65536 x u, ← Int.mul_assoc]; rfl
 have t2 : 65536 * x * v = 65536 * (x * v) := Int.mul_assoc _ _ _
 have t3 : y * (65536 * u) = 65536 * (y * u) := by rw [← Int.mul_assoc, Int.mul_comm y 65536, Int.mul_assoc]
 rw [t1, t2, t3]
 omega

/-- the upper half of a product of words as the document reckons it -/
theorem highsu_half (a b : Int) (h : 0 ≤ a) (h' : a < 4294967296) (h1 : 0 ≤ b) (h1' : b < 4294967296) :
  (if sg a < 0 then (highU a b - b) % 4294967296 else highU a b) = highSU a b := by
 unfold highU highSU sg
 have hm := mul_nn a b 4294967295 4294967295 (by omega) (by omega) (by omega) (by omega)
 split
 ·split
  ·omega
  ·omega
 ·split
  ·have : (a - 4294967296) * b = a * b - 4294967296 * b := by rw [Int.sub_mul]
   rw [this]; omega
  ·omega
theorem high_half (a b : Int) (h : 0 ≤ a) (h' : a < 4294967296) (h1 : 0 ≤ b) (h1' : b < 4294967296) :
  (if sg b < 0 then (highSU a b - a) % 4294967296 else highSU a b) = highS a b := by
 have hs := sg_bd a h h'
 have hsm := sg_mod a h h'
 unfold highS highSU
 by_cases hb : b < 2147483648
 ·have : sg b = b := by unfold sg; rw [if_pos hb]
  rw [this, if_neg (by omega)]
 ·have : sg b = b - 4294967296 := by unfold sg; rw [if_neg hb]
  rw [this, if_pos (by omega)]
  have : sg a * (b - 4294967296) = sg a * b - sg a * 4294967296 := by rw [Int.mul_sub]
  rw [this]; omega

theorem pow32 (b : Int) (h : 0 ≤ b) : (1 : Int) ≤ 2 ^ (b % 32).toNat ∧ (2 : Int) ^ (b % 32).toNat ≤ 2147483648 := by
 have h1 : (b % 32).toNat ≤ 31 := by omega
 generalize (b % 32).toNat = n at *
 have h2 : (2 : Nat) ^ n ≤ 2 ^ 31 := Nat.pow_le_pow_right (by omega) h1
 have h3 : 0 < (2 : Nat) ^ n := Nat.pow_pos (by omega)
 have h4 : (2 : Int) ^ n = ((2 ^ n : Nat) : Int) := by simp
 rw [h4]; omega
theorem pow_split (n : Nat) (h : n ≤ 32) : ∃ p q : Int, (2 : Int) ^ n = p ∧ (4294967296 : Int) / p = q ∧ p * q = 4294967296 ∧ 1 ≤ p ∧ 1 ≤ q ∧ p ≤ 4294967296 ∧ q ≤ 4294967296 := by
 refine ⟨_, _, rfl, rfl, ?_⟩
 have : n = 0 ∨ n = 1 ∨ n = 2 ∨ n = 3 ∨ n = 4 ∨ n = 5 ∨ n = 6 ∨ n = 7 ∨ n = 8 ∨ n = 9 ∨ n = 10 ∨ n = 11 ∨ n = 12 ∨ n = 13 ∨ n = 14 ∨ n = 15 ∨ n = 16 ∨ n = 17 ∨ n = 18 ∨ n = 19 ∨ n = 20 ∨ n = 21 ∨ n = 22 ∨ n = 23 ∨ n = 24 ∨ n = 25 ∨ n = 26 ∨ n = 27 ∨ n = 28 ∨ n = 29 ∨ n = 30 ∨ n = 31 ∨ n = 32 := by omega
 rcases this with h | h | h | h | h | h | h | h | h | h | h | h | h | h | h | h | h | h | h | h | h | h | h | h | h | h | h | h | h | h | h | h | h <;> subst h <;> decide
/-- shifted to the left: what is lost is lost first -/
theorem shl_eq (a b : Int) (h : 0 ≤ b) : ((a % (4294967296 / 2 ^ (b % 32).toNat)) * 2 ^ (b % 32).toNat) % 4294967296 = shl32 a b ∧ (0 ≤ (a % (4294967296 / 2 ^ (b % 32).toNat)) * 2 ^ (b % 32).toNat ∧ (a % (4294967296 / 2 ^ (b % 32).toNat)) * 2 ^ (b % 32).toNat < 4294967296) := by
 obtain ⟨p, q, h1, h2, h3, h4, h5, h6, h7⟩ := pow_split (b % 32).toNat (by omega)
 unfold shl32
 rw [h1, h2]
 have e1 := Int.emod_nonneg a (show q ≠ 0 by omega)
 have e2 := Int.emod_lt_of_pos a (show 0 < q by omega)
 have e3 : (a % q) * p = (a * p) % 4294967296 := by
  rw [← h3, Int.mul_comm a p, Int.mul_emod_mul_of_pos _ _ (by omega), Int.mul_comm]
 rw [e3]
 omega

/-- a power of two -/
def pw (k : Nat) : Int := 2 ^ k
theorem pw_succ (k : Nat) : pw (k + 1) = 2 * pw k := by unfold pw; rw [Int.pow_succ]; omega
theorem pw_pos (k : Nat) : 1 ≤ pw k := by
 unfold pw
 have h3 : 0 < (2 : Nat) ^ k := Nat.pow_pos (by omega)
 have h4 : (2 : Int) ^ k = ((2 ^ k : Nat) : Int) := by simp
 rw [h4]; omega
theorem pw_le (k m : Nat) (h : k ≤ m) : pw k ≤ pw m := by
 unfold pw
 have h2 : (2 : Nat) ^ k ≤ 2 ^ m := Nat.pow_le_pow_right (by omega) h
 have h4 : (2 : Int) ^ k = ((2 ^ k : Nat) : Int) := by simp
 have h5 : (2 : Int) ^ m = ((2 ^ m : Nat) : Int) := by simp
 rw [h4, h5]; omega
theorem pw_31 (k : Nat) (h : k ≤ 31) : pw k ≤ 2147483648 := pw_le k 31 h

theorem emod_pw (a : Int) (k : Nat) : 0 ≤ a % pw k ∧ a % pw k < pw k :=
 ⟨Int.emod_nonneg _ (by have := pw_pos k; omega), Int.emod_lt_of_pos _ (by have := pw_pos k; omega)⟩
theorem pw_mul (i j : Nat) : pw (i + j) = pw i * pw j := by unfold pw; rw [Int.pow_add]

/-- so many low bits as a signed number: by two shifts -/
theorem sign_eq (a n : Int) (h : 1 ≤ n) (h' : n ≤ 31) :
  sg (a * 2 ^ (32 - n).toNat % 4294967296) / 2 ^ (32 - n).toNat % 4294967296 = signX a n := by
 obtain ⟨k, rfl⟩ : ∃ k : Nat, n = (k + 1 : Nat) := ⟨n.toNat - 1, by omega⟩
 have e1 : pw (k + 1) * pw (31 - k) = 4294967296 := by rw [← pw_mul, show k + 1 + (31 - k) = 32 by omega]; rfl
 have e2 : (32 - ((k + 1 : Nat) : Int)).toNat = 31 - k := by omega
 unfold signX
 rw [e2, if_neg (by omega), show ((k + 1 : Nat) : Int).toNat = k + 1 by omega, show k + 1 - 1 = k by omega]
 show sg (a * pw (31 - k) % 4294967296) / pw (31 - k) % 4294967296 = (if a % pw (k + 1) < pw k then a % pw (k + 1) else a % pw (k + 1) - pw (k + 1)) % 4294967296
 have b1 := pw_pos (31 - k)
 have b2 := pw_pos k
 have e3 : a * pw (31 - k) % 4294967296 = (a % pw (k + 1)) * pw (31 - k) := by
  rw [← e1, Int.mul_comm a, Int.mul_comm (pw (k + 1)), Int.mul_emod_mul_of_pos _ _ (by omega), Int.mul_comm]
 have b3 := emod_pw a (k + 1)
 rw [e3]
 generalize a % pw (k + 1) = r at *
 rw [pw_succ] at *
 generalize pw (31 - k) = q at *
 generalize pw k = p at *
 have e4 : p * q = 2147483648 := by rw [Int.mul_assoc] at e1; omega
 unfold sg
 by_cases hr : r < p
 ·rw [if_pos hr, if_pos, Int.mul_ediv_cancel _ (by omega)]
  have : (r + 1) * q ≤ p * q := Int.mul_le_mul_of_nonneg_right (by omega) (by omega)
  rw [Int.add_mul] at this; omega
 ·rw [if_neg hr, if_neg]
  ·have : r * q - 4294967296 = (r - 2 * p) * q := by rw [Int.sub_mul, Int.mul_assoc]; omega
   rw [this, Int.mul_ediv_cancel _ (by omega)]
  ·have : p * q ≤ r * q := Int.mul_le_mul_of_nonneg_right (by omega) (by omega)
   omega
theorem sign_bd (a n : Int) (h : 0 ≤ a) (h' : a < 4294967296) : 0 ≤ signX a n ∧ signX a n < 4294967296 := by
 unfold signX; split <;> omega

theorem sg_zero (b : Int) (h : 0 ≤ b) (h' : b < 4294967296) : sg b = 0 ↔ b = 0 := by unfold sg; split <;> omega
theorem sg_inj (a b : Int) (h : 0 ≤ a) (h' : a < 4294967296) (h1 : 0 ≤ b) (h1' : b < 4294967296) : sg a = sg b ↔ a = b := by
 unfold sg; split <;> split <;> omega

theorem tdiv_bd (x y : Int) (h : -2147483648 ≤ x) (h' : x < 2147483648) : -2147483648 ≤ x.tdiv y ∧ x.tdiv y ≤ 2147483648 := by
 have h1 : (x.tdiv y).natAbs ≤ x.natAbs := by rw [Int.natAbs_tdiv]; exact Nat.div_le_self _ _
 omega
theorem tmod_bd (x y : Int) (h : -2147483648 ≤ x) (h' : x < 2147483648) : -2147483648 ≤ x.tmod y ∧ x.tmod y ≤ 2147483648 := by
 have h1 : (x.tmod y).natAbs ≤ x.natAbs := by rw [Int.natAbs_tmod]; exact Nat.mod_le _ _
 omega
theorem div_eq (a b : Int) (h : 0 ≤ a) (h' : a < 4294967296) (h1 : 0 ≤ b) (h1' : b < 4294967296) (hb : b ≠ 0) :
  wrap64 ((wrap64 (wrap32 a)).tdiv (wrap64 (wrap32 b))) % 4294967296 = divS a b := by
 have ha := sg_bd a h h'
 have hb' := sg_bd b h1 h1'
 rw [wrap32_sg a h h', wrap32_sg b h1 h1', wrap64_in (sg a) (by omega) (by omega), wrap64_in (sg b) (by omega) (by omega)]
 have := tdiv_bd (sg a) (sg b) (by omega) (by omega)
 rw [wrap64_in _ (by omega) (by omega)]
 unfold divS; rw [if_neg hb]
theorem rem_eq (a b : Int) (h : 0 ≤ a) (h' : a < 4294967296) (h1 : 0 ≤ b) (h1' : b < 4294967296) (hb : b ≠ 0) :
  (wrap64 (wrap32 a)).tmod (wrap64 (wrap32 b)) % 4294967296 = remS a b := by
 have ha := sg_bd a h h'
 have hb' := sg_bd b h1 h1'
 rw [wrap32_sg a h h', wrap32_sg b h1 h1', wrap64_in (sg a) (by omega) (by omega), wrap64_in (sg b) (by omega) (by omega)]
 unfold remS; rw [if_neg hb]
/-- a quotient by amounts, with its sign -/
theorem div_abs (x y : Int) (hy : y ≠ 0) : x.tdiv y = (if (x < 0 ∧ 0 < y) ∨ (0 < x ∧ y < 0) then -(((x.natAbs / y.natAbs : Nat) : Int)) else ((x.natAbs / y.natAbs : Nat) : Int)) := by
 have h1 : (x.tdiv y).natAbs = x.natAbs / y.natAbs := Int.natAbs_tdiv x y
 have h2 : 0 ≤ x → 0 ≤ y → 0 ≤ x.tdiv y := fun a b => Int.tdiv_nonneg a b
 have h3 : x ≤ 0 → y ≤ 0 → 0 ≤ x.tdiv y := fun a b => by rw [← Int.neg_tdiv_neg]; exact Int.tdiv_nonneg (by omega) (by omega)
 have h4 : x ≤ 0 → 0 ≤ y → x.tdiv y ≤ 0 := fun a b => by have := Int.tdiv_nonneg (a := -x) (b := y) (by omega) b; rw [Int.neg_tdiv] at this; omega
 have h5 : 0 ≤ x → y ≤ 0 → x.tdiv y ≤ 0 := fun a b => by have := Int.tdiv_nonneg (a := x) (b := -y) a (by omega); rw [Int.tdiv_neg] at this; omega
 split <;> omega
theorem rem_abs (x y : Int) : x.tmod y = (if x < 0 then -(((x.natAbs % y.natAbs : Nat) : Int)) else ((x.natAbs % y.natAbs : Nat) : Int)) := by
 have h1 : (x.tmod y).natAbs = x.natAbs % y.natAbs := Int.natAbs_tmod x y
 have h2 : 0 ≤ x → 0 ≤ x.tmod y := fun a => Int.tmod_nonneg y a
 have h4 : x ≤ 0 → x.tmod y ≤ 0 := fun a => by have := Int.tmod_nonneg (a := -x) y (by omega); rw [Int.neg_tmod] at this; omega
 split <;> omega
end Go.Proofs.Ytnnhobbabcfogaa

set_option linter.all false
namespace Go.Proofs.Ytnnhobbabcfogaa
open Go.ChangeShapes Go.WideShapes Go.ChangeAt Go.RowKit
set_option maxHeartbeats 400000
set_option linter.unusedVariables false

theorem ret_int {k : IntKind} {a b : Int} (h : a = b) : Ending.returned (.int k a) = .returned (.int k b) := by rw [h]
theorem ret_bool {a b : Bool} (h : a = b) : Ending.returned (.bool a) = .returned (.bool b) := by rw [h]
theorem ret_int2 {k k' : IntKind} {a b c d : Int} (h : a = b) (h' : c = d) : Ending.returned (.tuple #[.int k a, .int k' c]) = .returned (.tuple #[.int k b, .int k' d]) := by rw [h, h']
theorem wraps_u32 (n : Int) (h₀ : 0 ≤ n) (h₁ : n < 2 ^ 32) : IntKind.u32.wrap n = n := by rw [IntKind.wrap_u32]; omega
theorem u32_and31 (x : Int) (h₀ : 0 ≤ x) (h₁ : x < 4294967296) : bits .and .u32 x 31 = x % 32 := bits_mask .u32 32 (by decide) wraps_u32 5 (by decide) x h₀ h₁
attribute [local go_sem] u32_and31

theorem add_c (a b : Int) (w : World)  :
  Calls Try.prog 146 #[.int .u32 a, .int .u32 b] w fun e w' => e = .returned (.int .u32 ((a + b) % 4294967296)) ∧ w = w' := by
 go_enter Try.func146, Try.ntmps146
 go_wp2
 go_ret
 exact ⟨rfl, rfl⟩

theorem sub_c (a b : Int) (w : World)  :
  Calls Try.prog 147 #[.int .u32 a, .int .u32 b] w fun e w' => e = .returned (.int .u32 ((a - b) % 4294967296)) ∧ w = w' := by
 go_enter Try.func147, Try.ntmps147
 go_wp2
 go_ret
 exact ⟨rfl, rfl⟩

theorem mul_c (a b : Int) (w : World)  :
  Calls Try.prog 148 #[.int .u32 a, .int .u32 b] w fun e w' => e = .returned (.int .u32 ((a * b) % 4294967296)) ∧ w = w' := by
 go_enter Try.func148, Try.ntmps148
 go_wp2
 go_ret
 exact ⟨rfl, rfl⟩

theorem div_c (a b : Int) (w : World) (h : 0 ≤ a) (h' : a < 4294967296) (h1 : 0 ≤ b) (h1' : b < 4294967296) :
  Calls Try.prog 149 #[.int .u32 a, .int .u32 b] w fun e w' => e = .returned (.int .u32 (divS a b)) ∧ w = w' := by
 by_cases hb : b = 0
 ·go_enter Try.func149, Try.ntmps149
  go_wp2
  go_ret
  exact ⟨ret_int (by unfold divS; rw [if_pos hb]), rfl⟩
 ·have hz := sg_zero b h1 h1'
  have hs : ¬ wrap64 (wrap32 b) = 0 := by
   have hb' := sg_bd b h1 h1'
   rw [wrap32_sg b h1 h1', wrap64_in _ (by omega) (by omega)]; omega
  clear hz
  go_enter Try.func149, Try.ntmps149
  go_wp2
  go_ret
  exact ⟨ret_int (div_eq a b h h' h1 h1' hb), rfl⟩

theorem rem_c (a b : Int) (w : World) (h : 0 ≤ a) (h' : a < 4294967296) (h1 : 0 ≤ b) (h1' : b < 4294967296) :
  Calls Try.prog 150 #[.int .u32 a, .int .u32 b] w fun e w' => e = .returned (.int .u32 (remS a b)) ∧ w = w' := by
 by_cases hb : b = 0
 ·go_enter Try.func150, Try.ntmps150
  go_wp2
  go_ret
  exact ⟨ret_int (by unfold remS; rw [if_pos hb]), rfl⟩
 ·have hz := sg_zero b h1 h1'
  have hs : ¬ wrap64 (wrap32 b) = 0 := by
   have hb' := sg_bd b h1 h1'
   rw [wrap32_sg b h1 h1', wrap64_in _ (by omega) (by omega)]; omega
  clear hz
  go_enter Try.func150, Try.ntmps150
  go_wp2
  go_ret
  exact ⟨ret_int (rem_eq a b h h' h1 h1' hb), rfl⟩

theorem left_c (a b : Int) (w : World) (h : 0 ≤ a) (h' : a < 4294967296) (h1 : 0 ≤ b) (h1' : b < 4294967296) :
  Calls Try.prog 151 #[.int .u32 a, .int .u32 b] w fun e w' => e = .returned (.int .u32 (shl32 a b)) ∧ w = w' := by
 go_enter Try.func151, Try.ntmps151
 go_wp2
 go_ret
 exact ⟨rfl, rfl⟩

theorem rights_c (a b : Int) (w : World) (h : 0 ≤ a) (h' : a < 4294967296) (h1 : 0 ≤ b) (h1' : b < 4294967296) :
  Calls Try.prog 152 #[.int .u32 a, .int .u32 b] w fun e w' => e = .returned (.int .u32 (sar32 a b)) ∧ w = w' := by
 go_enter Try.func152, Try.ntmps152
 go_wp2
 go_ret
 exact ⟨ret_int (by unfold sar32; rw [← wrap32_sg a h h']), rfl⟩

theorem less_c (a b : Int) (w : World) (h : 0 ≤ a) (h' : a < 4294967296) (h1 : 0 ≤ b) (h1' : b < 4294967296) :
  Calls Try.prog 154 #[.int .u32 a, .int .u32 b] w fun e w' => e = .returned (.int .u32 (lessS a b)) ∧ w = w' := by
 have ea := wrap32_sg a h h'
 have eb := wrap32_sg b h1 h1'
 by_cases hl : wrap32 a < wrap32 b
 all_goals
  have H := Lib.hid ea; clear ea
  have H' := Lib.hid eb; clear eb
  go_enter Try.func154, Try.ntmps154
  go_wp2
  go_ret
  refine ⟨ret_int ?_, rfl⟩
  unfold lessS
  rw [← H.out, ← H'.out]
  simp [hl]

theorem highu_bd (a b : Int) (h : 0 ≤ a) (h' : a < 4294967296) (h1 : 0 ≤ b) (h1' : b < 4294967296) : 0 ≤ highU a b ∧ highU a b < 4294967296 := by
 unfold highU
 have hm := mul_nn a b 4294967295 4294967295 (by omega) (by omega) (by omega) (by omega)
 omega
theorem highsu_bd (a b : Int) : 0 ≤ highSU a b ∧ highSU a b < 4294967296 := by unfold highSU; omega
theorem highs_bd (a b : Int) : 0 ≤ highS a b ∧ highS a b < 4294967296 := by unfold highS; omega

theorem pw_5 (b : Int) (h : 0 ≤ b) : 1 ≤ pw (b % 32).toNat ∧ pw (b % 32).toNat ≤ 2147483648 := ⟨pw_pos _, pw_31 _ (by omega)⟩
theorem pw_quo (k : Nat) (h : k ≤ 32) : 1 ≤ 4294967296 / pw k ∧ 4294967296 / pw k ≤ 4294967296 := by
 obtain ⟨p, q, h1, h2, h3, h4, h5, h6, h7⟩ := pow_split k h
 unfold pw; rw [h1, h2]; omega

theorem rights_eq (x p : Int) (hp : 1 ≤ p) : (if x < 0 ∧ x.tdiv p * p ≠ x then x.tdiv p - 1 else x.tdiv p) = x / p := by
 have h1 := Int.emod_nonneg x (show p ≠ 0 by omega)
 have h2 := Int.emod_lt_of_pos x (show 0 < p by omega)
 have h3 := Int.mul_ediv_add_emod x p
 have h4 := Int.tdiv_eq_ediv (a := x) (b := p)
 by_cases hx : 0 ≤ x
 ·rw [if_neg (by omega), Int.tdiv_eq_ediv_of_nonneg hx]
 ·by_cases hd : x % p = 0
  ·have : p ∣ x := Int.dvd_of_emod_eq_zero hd
   rw [if_pos (Or.inr this), Int.add_zero] at h4
   rw [h4, if_neg]
   rintro ⟨_, h⟩
   apply h
   have := Int.mul_comm (x / p) p
   omega
  ·have hn : ¬ p ∣ x := fun h => hd (Int.emod_eq_zero_of_dvd h)
   have hs : p.sign = 1 := Int.sign_eq_one_of_pos (by omega)
   rw [if_neg (by intro h; rcases h with h | h; exact hx h; exact hn h), hs] at h4
   rw [h4, if_pos]
   ·omega
   ·refine ⟨by omega, ?_⟩
    have := Int.mul_comm (x / p) p
    rw [Int.add_mul]; omega
theorem half_pw (k : Nat) : pw (k + 1) / 2 = pw k := by rw [pw_succ]; omega
end Go.Proofs.Ytnnhobbabcfogaa
