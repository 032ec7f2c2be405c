/-
 alias: rows of one word.; Which registers are exact places, in the program's words and in the document's; which two accesses may meet.; What is live behind each instruction: the marking carried back from the block's end is the search.; Which instructions and stores nobody asks for, as plain data; places of which something holds, rising.
-/
import Derived.Test.YtkhfddodmjnecaaZAliasMeets09
import Derived.Test.YtkhfddodmjnecaaZAliasMeets12
import Derived.Laws.Bits64b
import Derived.Test.YtkhfddodmjnecaaZAliasMeets07

set_option linter.all false
namespace Go.Proofs.Ytkhfddodmjnecaa
open Go.ChangeShapes Go.WideShapes Go.ChangeAt Go.RowKit
set_option maxHeartbeats 4000000
set_option maxRecDepth 100000
set_option linter.unusedVariables false

/-- a row of one word -/
def RowW (w : World) (b : Nat) (x : Nat) : Prop := w.heap[b]? = some (.cells #[.int .u64 (x : Int)] 156)
def slW (b : Nat) : Value := .slice (some ⟨b, 0, none⟩) 1 1
theorem RowW.lt {w : World} {b x : Nat} (h : RowW w b x) : b < w.heap.size := (Array.getElem?_eq_some_iff.1 h).1
theorem RowW.set {w : World} {b x : Nat} (h : RowW w b x) (y : Nat) : RowW (w.setCell ⟨b, 0, none⟩ (.int .u64 (y : Int))) b y := heap_setCell_same w b 0 _ _ _ h
theorem or64 {x y : Nat} (hx : x < 2 ^ 64) (hy : y < 2 ^ 64) : bits .or .u64 (x : Int) (y : Int) = ((x ||| y : Nat) : Int) := bits_or_u64_nat x y (by simpa using hx) (by simpa using hy)
theorem and64 {x y : Nat} (hx : x < 2 ^ 64) (hy : y < 2 ^ 64) : bits .and .u64 (x : Int) (y : Int) = ((x &&& y : Nat) : Int) := bits_and_u64_nat x y (by simpa using hx) (by simpa using hy)
theorem has64 {x t : Nat} (hx : x < 2 ^ 64) (ht : t < 64) : (bits .and .u64 ((x : Int) / 2 ^ (t % 64)) 1 == 1) = x.testBit t := by
 have e : (x : Int) / 2 ^ (t % 64) = ((x / 2 ^ t : Nat) : Int) := by rw [Nat.mod_eq_of_lt ht]; simp
 have h2 := and64 (x := x / 2 ^ t) (y := 1) (Nat.lt_of_le_of_lt (Nat.div_le_self _ _) hx) (by decide)
 rw [e]
 rw [show ((1 : Nat) : Int) = 1 from rfl] at h2
 rw [h2, Nat.and_one_is_mod, Nat.testBit_eq_decide_div_mod_eq]
 rw [Bool.eq_iff_iff, beq_iff_eq, decide_eq_true_eq]
 omega
theorem shl64 {t : Nat} (ht : t < 64) : IntKind.u64.wrap (2 ^ (t % 64)) = ((1 <<< t : Nat) : Int) := by
 rw [Nat.mod_eq_of_lt ht, Nat.one_shiftLeft, IntKind.wrap_u64]
 have : (2 : Nat) ^ t < 2 ^ 64 := Nat.pow_lt_pow_right (by decide) ht
 have e : (2 : Int) ^ t = ((2 ^ t : Nat) : Int) := by simp
 rw [e]
 generalize 2 ^ t = z at *
 omega
theorem bit64 {t : Nat} (ht : t < 64) : 1 <<< t < 2 ^ 64 := by rw [Nat.one_shiftLeft]; exact Nat.pow_lt_pow_right (by decide) ht
theorem but_drewN (g : Nat) (w : World) (n : Nat) : But g w (w.drewN n) := ⟨rfl, rfl, rfl, Nat.le_refl _, fun _ _ _ => rfl⟩
theorem bneII (a b : Nat) : ((a : Int) != (b : Int)) = (a != b) := by
 rw [Bool.eq_iff_iff, bne_iff_ne, bne_iff_ne]; omega
theorem has_c (b x t : Nat) (w : World) (h : RowW w b x) (hx : x < 2 ^ 64) (ht : t < 64) :
  Calls Try.prog 94 #[slW b, .int .i64 (t : Int)] w fun e w' => e = .returned (.bool (x.testBit t)) ∧ w' = w := by
 have c0 : w.cell? ⟨b, t / 64, none⟩ = some (.int .u64 (x : Int)) := by rw [show t / 64 = 0 by omega]; exact cell_of_heap h 0
 unfold slW
 go_enter Try.func94, Try.ntmps94
 go_wp2_with fail
 go_ret
 exact ⟨ret_b (has64 hx ht), rfl⟩
theorem put_c (b x t : Nat) (w : World) (h : RowW w b x) (hx : x < 2 ^ 64) (ht : t < 64) :
  Calls Try.prog 45 #[slW b, .int .i64 (t : Int)] w fun e w' => e = .returned (.bool ((x ||| 1 <<< t) != x)) ∧ RowW w' b (x ||| 1 <<< t) ∧ But b w w' := by
 have c0 : w.cell? ⟨b, t / 64, none⟩ = some (.int .u64 (x : Int)) := by rw [show t / 64 = 0 by omega]; exact cell_of_heap h 0
 have f0 : w.frozen? ⟨b, t / 64, none⟩ = false := frozen_of_heap h _
 have H := Lib.hid h
 clear h
 unfold slW
 go_enter Try.func45, Try.ntmps45
 have HS := Lib.hid (shl64 ht)
 have HO := Lib.hid (or64 hx (bit64 ht))
 have HT := Lib.hid (show t / 64 = 0 by omega)
 clear hx
 go_upto_region 2 with (fail)
 go_region
 go_wp2_with fail
 rw [HS.out, HO.out, HT.out]
 go_ret
 refine ⟨ret_b (bneII _ _), (H.out.set _), ((But.setCell b 0 w _).trans (but_drewN _ _ 1))⟩
theorem jn_c (ba bb x y : Nat) (w : World) (ha : RowW w ba x) (hb : RowW w bb y) (hx : x < 2 ^ 64) (hy : y < 2 ^ 64) :
  Calls Try.prog 46 #[slW ba, slW bb] w fun e w' => e = .returned (.bool ((x ||| y) != x)) ∧ RowW w' ba (x ||| y) ∧ But ba w w' := by
 have c0 : w.cell? ⟨ba, 0, none⟩ = some (.int .u64 (x : Int)) := cell_of_heap ha 0
 have d0 : w.cell? ⟨bb, 0, none⟩ = some (.int .u64 (y : Int)) := cell_of_heap hb 0
 have f0 : w.frozen? ⟨ba, 0, none⟩ = false := frozen_of_heap ha _
 have HA := Lib.hid ha
 have HO := Lib.hid (or64 hx hy)
 clear ha hb hx hy
 unfold slW
 go_enter Try.func46, Try.ntmps46
 go_wp2_with fail
 go_loopw [5, 10] (fun g i wr => (g = .bool false ∧ i = .int .i64 0 ∧ wr = w) ∨ (g = .bool ((x ||| y) != x) ∧ i = .int .i64 1 ∧ Hid (RowW wr ba (x ||| y)) ∧ Hid (But ba w wr))) (fun _ i _ => 1 - (intOf i).toNat)
 case atStart => exact .inl ⟨rfl, rfl, rfl⟩
 case round =>
  rcases hrel with ⟨rfl, rfl, rfl⟩ | ⟨rfl, rfl, HR, HB⟩
  ·go_wp2_with fail
   go_quiet (fail)
   go_wp2_with fail
   go_roundw
   case rel =>
    refine .inr ⟨?_, rfl, ?_, ?_⟩
    ·rw [HO.out, bneII]
    ·rw [HO.out]; exact RowW.set (b := ba) (x := x) (by show _ = _; exact HA.out) _
    ·exact (but_drewN _ _ nq).trans (But.setCell _ _ _ _)
   case measure => simp [intOf]
  ·go_wp2_with fail
   go_ret
   exact ⟨rfl, HR.out, HB.out⟩
theorem meets_c (ba bb x y : Nat) (w : World) (ha : RowW w ba x) (hb : RowW w bb y) (hx : x < 2 ^ 64) (hy : y < 2 ^ 64) :
  Calls Try.prog 55 #[slW ba, slW bb] w fun e w' => e = .returned (.bool ((x &&& y) != 0)) ∧ w' = w := by
 have c0 : w.cell? ⟨ba, 0, none⟩ = some (.int .u64 (x : Int)) := cell_of_heap ha 0
 have d0 : w.cell? ⟨bb, 0, none⟩ = some (.int .u64 (y : Int)) := cell_of_heap hb 0
 have HO := Lib.hid (and64 hx hy)
 clear ha hb hx hy
 unfold slW
 go_enter Try.func55, Try.ntmps55
 go_wp2_with fail
 go_loopw [9] (fun i wr => wr = w ∧ (i = .int .i64 0 ∨ (i = .int .i64 1 ∧ Hid ((x &&& y) = 0)))) (fun i _ => 1 - (intOf i).toNat)
 case atStart => exact ⟨rfl, .inl rfl⟩
 case round =>
  obtain ⟨rfl, rfl | ⟨rfl, HZ⟩⟩ := hrel
  ·cases hz : ((x &&& y) != 0)
   ·have hz2 : (bits .and .u64 (x : Int) (y : Int) == 0) = true := by rw [HO.out]; simp at hz; rw [hz]; rfl
    have HZ : Hid ((x &&& y) = 0) := by show _ = _; simpa using hz
    clear hz
    go_wp2_with fail
    go_roundw
    case rel => exact ⟨trivial, .inr ⟨rfl, HZ⟩⟩
    case measure => simp [intOf]
   ·have hz2 : (bits .and .u64 (x : Int) (y : Int) == 0) = false := by rw [HO.out]; simp at hz; simpa using hz
    have HZ : Hid (((x &&& y) != 0) = true) := hz
    clear hz
    go_wp2_with fail
    go_ret
    exact ⟨ret_b HZ.out.symm, rfl⟩
  ·go_wp2_with fail
   go_ret
   exact ⟨by rw [HZ.out]; rfl, rfl⟩
end Go.Proofs.Ytkhfddodmjnecaa

set_option linter.all false
namespace Go.Proofs.Ytkhfddodmjnecaa

/-- a place as the program keeps it -/
structure Sp where
 thing : Int
 off : Int
 sets : Int
 is : Bool
/-- as an instruction that sets the register leaves it -/
def spI (o : Nat) (s : Sp) (i : In) : Sp :=
 if i.op = 7 then ⟨i.obj, i.off, s.sets + 1, true⟩ else if i.op = 8 then ⟨o + i.obj, i.off, s.sets + 1, true⟩ else ⟨s.thing, s.off, s.sets + 1, false⟩
def insP (p : Pr) : List In := p.blks.flatMap (·.ins)
/-- those that set it -/
def defsP (p : Pr) (r : Int) : List In := (insP p).filter fun i => defI i == r
def spP (p : Pr) (r : Nat) : Sp := (defsP p r).foldl (spI p.objs.length) ⟨0, 0, if (r : Int) < p.params then 1 else 0, false⟩
/-- an exact place, or none -/
structure Ex where
 thing : Int
 off : Int
 is : Bool
def exF (p : Pr) (r : Int) : Ex :=
 if 0 ≤ r ∧ r < p.regs then (if (spP p r.toNat).sets = 1 ∧ (spP p r.toNat).is = true then ⟨(spP p r.toNat).thing, (spP p r.toNat).off, true⟩ else ⟨0, 0, false⟩) else ⟨0, 0, false⟩
/-- the document's -/
def exI (o : Nat) (e : Ex) (i : In) : Ex := if i.op = 7 then ⟨i.obj, i.off, true⟩ else if i.op = 8 then ⟨o + i.obj, i.off, true⟩ else e
def exR (p : Pr) (r : Int) : Ex :=
 if r < p.params ∨ p.regs ≤ r then ⟨0, 0, false⟩ else if (defsP p r).length = 1 then (defsP p r).foldl (exI p.objs.length) ⟨0, 0, false⟩ else ⟨0, 0, false⟩
theorem spI_sets (o : Nat) (s : Sp) (i : In) : (spI o s i).sets = s.sets + 1 := by
 unfold spI
 by_cases h7 : i.op = 7
 ·rw [if_pos h7]
 ·rw [if_neg h7]
  by_cases h8 : i.op = 8
  ·rw [if_pos h8]
  ·rw [if_neg h8]
theorem sp_sets (o : Nat) (l : List In) (s : Sp) : (l.foldl (spI o) s).sets = s.sets + l.length := by
 induction l generalizing s with
 | nil => simp
 | cons i l ih => rw [List.foldl_cons, ih, spI_sets]; simp; omega
theorem ex_same (p : Pr) (r : Int) (h0 : 0 ≤ r) (hp : p.params ≤ p.regs) : exF p r = exR p r := by
 unfold exF exR
 by_cases h1 : r < p.regs
 ·rw [if_pos ⟨h0, h1⟩]
  have hr : ((r.toNat : Nat) : Int) = r := Int.toNat_of_nonneg h0
  unfold spP
  rw [hr]
  have hs := sp_sets p.objs.length (defsP p r) ⟨0, 0, if r < p.params then 1 else 0, false⟩
  by_cases h2 : r < p.params
  ·rw [if_pos (Or.inl h2 : r < p.params ∨ p.regs ≤ r)]
   rw [if_pos h2] at hs ⊢
   cases hl : defsP p r with
   | nil => simp
   | cons i l =>
    rw [hl] at hs
    rw [if_neg]
    rintro ⟨e, -⟩
    rw [e] at hs
    simp at hs
    omega
  ·rw [if_neg (show ¬ (r < p.params ∨ p.regs ≤ r) by omega)]
   rw [if_neg h2] at hs ⊢
   cases hl : defsP p r with
   | nil => simp
   | cons i l =>
    cases l with
    | nil =>
     simp only [List.foldl_cons, List.foldl_nil, List.length_cons, List.length_nil]
     unfold spI exI
     by_cases e7 : i.op = 7
     ·simp [e7]
     ·by_cases e8 : i.op = 8
      ·simp [e8]
      ·simp [e7, e8]
    | cons j l =>
     rw [hl] at hs
     rw [if_neg, if_neg (by simp)]
     rintro ⟨e, -⟩
     rw [e] at hs
     simp at hs
     omega
 ·rw [if_neg (by omega), if_pos (Or.inr (by omega) : r < p.params ∨ p.regs ≤ r)]

/-- bytes from x on, so many, and from y on: have they one together? -/
def lapF (x y sa sb : Int) : Bool := decide (x < y + sb) && decide (y < x + sa)
theorem lap_yes {x y sa sb i k : Int} (hi : 0 ≤ i ∧ i < sa) (hk : 0 ≤ k ∧ k < sb) (h : x + i = y + k) : lapF x y sa sb = true := by
 unfold lapF
 simp only [Bool.and_eq_true, decide_eq_true_eq]
 omega
theorem lap_no {x y sa sb : Int} (ha : 1 ≤ sa) (hb : 1 ≤ sb) (h : ∀ i k : Int, 0 ≤ i → i < sa → 0 ≤ k → k < sb → x + i ≠ y + k) : lapF x y sa sb = false := by
 unfold lapF
 rw [Bool.eq_false_iff]
 intro e
 simp only [Bool.and_eq_true, decide_eq_true_eq] at e
 by_cases hxy : x ≤ y
 ·exact h (y - x) 0 (by omega) (by omega) (by omega) (by omega) (by omega)
 ·exact h 0 (x - y) (by omega) (by omega) (by omega) (by omega) (by omega)
end Go.Proofs.Ytkhfddodmjnecaa

set_option linter.all false
namespace Go.Proofs.Ytkhfddodmjnecaa

end Go.Proofs.Ytkhfddodmjnecaa

set_option linter.all false
namespace Go.Proofs.Ytkhfddodmjnecaa

/-- the places below k of which h holds, rising -/
def posU (h : Nat → Bool) (k : Nat) : List Int := ((List.range k).filter h).map fun i : Nat => (i : Int)
theorem posU_succ (h : Nat → Bool) (k : Nat) : posU h (k + 1) = posU h k ++ (if h k = true then [(k : Int)] else []) := by
 unfold posU
 rw [List.range_succ, List.filter_append, List.map_append]
 congr 1
 cases e : h k <;> simp [e]
theorem posU_no {h : Nat → Bool} {k : Nat} (e : h k = false) : posU h (k + 1) = posU h k := by rw [posU_succ, e]; simp
theorem posU_yes {h : Nat → Bool} {k : Nat} (e : h k = true) : posU h (k + 1) = posU h k ++ [(k : Int)] := by rw [posU_succ, e]; simp
theorem posU_le (h : Nat → Bool) (k : Nat) : (posU h k).length ≤ k := by
 unfold posU
 rw [List.length_map]
 have := List.length_filter_le h (List.range k)
 rwa [List.length_range] at this
theorem posU_pre (h : Nat → Bool) {j k : Nat} (hjk : j ≤ k) : posU h j <+: posU h k := by
 obtain ⟨d, rfl⟩ := Nat.le.dest hjk
 clear hjk
 induction d with
 | zero => exact List.prefix_refl _
 | succ d ih =>
  refine ih.trans ?_
  rw [← Nat.add_assoc, posU_succ]
  exact List.prefix_append _ _
theorem posU_at (h : Nat → Bool) {i k : Nat} (hi : i < k) (e : h i = true) : (posU h i).length < (posU h k).length ∧ (posU h k).getD (posU h i).length 0 = (i : Int) := by
 obtain ⟨r, hr⟩ := posU_pre h (show i + 1 ≤ k from hi)
 rw [posU_yes e] at hr
 rw [← hr]
 constructor
 ·simp
 ·simp [List.getD]
end Go.Proofs.Ytkhfddodmjnecaa
