/-
 alias: rows of one word.; Hazards as plain data: rows of readings as numbers, bit by bit; the pass through a block.; Which registers are exact places, in the program's words and in the document's; which two accesses may meet.; What is live behind each instruction: the marking carried back from the block's end is the search.; Which instructions and stores nobody asks for, as plain data; places of which something holds, rising.
-/
import Derived.Test.YtmcddolkpcgddaaZHazardMarks09
import Derived.Test.YtmcddolkpcgddaaZHazardMarks11
import Derived.Laws.Bits64b
import Derived.Test.YtmcddolkpcgddaaZHazardMarks00
import Derived.Test.YtmcddolkpcgddaaZHazardMarks08

set_option linter.all false
namespace Go.Proofs.Ytmcddolkpcgddaa
open Go.ChangeShapes Go.WideShapes Go.ChangeAt Go.RowKit
set_option maxHeartbeats 4000000
set_option maxRecDepth 100000
set_option linter.unusedVariables false

/-- a row of one word -/
def RowW (w : World) (b : Nat) (x : Nat) : Prop := w.heap[b]? = some (.cells #[.int .u64 (x : Int)] 134)
def slW (b : Nat) : Value := .slice (some ⟨b, 0, none⟩) 1 1
theorem RowW.lt {w : World} {b x : Nat} (h : RowW w b x) : b < w.heap.size := (Array.getElem?_eq_some_iff.1 h).1
theorem RowW.set {w : World} {b x : Nat} (h : RowW w b x) (y : Nat) : RowW (w.setCell ⟨b, 0, none⟩ (.int .u64 (y : Int))) b y := heap_setCell_same w b 0 _ _ _ h
theorem or64 {x y : Nat} (hx : x < 2 ^ 64) (hy : y < 2 ^ 64) : bits .or .u64 (x : Int) (y : Int) = ((x ||| y : Nat) : Int) := bits_or_u64_nat x y (by simpa using hx) (by simpa using hy)
theorem and64 {x y : Nat} (hx : x < 2 ^ 64) (hy : y < 2 ^ 64) : bits .and .u64 (x : Int) (y : Int) = ((x &&& y : Nat) : Int) := bits_and_u64_nat x y (by simpa using hx) (by simpa using hy)
theorem has64 {x t : Nat} (hx : x < 2 ^ 64) (ht : t < 64) : (bits .and .u64 ((x : Int) / 2 ^ (t % 64)) 1 == 1) = x.testBit t := by
 have e : (x : Int) / 2 ^ (t % 64) = ((x / 2 ^ t : Nat) : Int) := by rw [Nat.mod_eq_of_lt ht]; simp
 have h2 := and64 (x := x / 2 ^ t) (y := 1) (Nat.lt_of_le_of_lt (Nat.div_le_self _ _) hx) (by decide)
 rw [e]
 rw [show ((1 : Nat) : Int) = 1 from rfl] at h2
 rw [h2, Nat.and_one_is_mod, Nat.testBit_eq_decide_div_mod_eq]
 rw [Bool.eq_iff_iff, beq_iff_eq, decide_eq_true_eq]
 omega
theorem shl64 {t : Nat} (ht : t < 64) : IntKind.u64.wrap (2 ^ (t % 64)) = ((1 <<< t : Nat) : Int) := by
 rw [Nat.mod_eq_of_lt ht, Nat.one_shiftLeft, IntKind.wrap_u64]
 have : (2 : Nat) ^ t < 2 ^ 64 := Nat.pow_lt_pow_right (by decide) ht
 have e : (2 : Int) ^ t = ((2 ^ t : Nat) : Int) := by simp
 rw [e]
 generalize 2 ^ t = z at *
 omega
theorem bit64 {t : Nat} (ht : t < 64) : 1 <<< t < 2 ^ 64 := by rw [Nat.one_shiftLeft]; exact Nat.pow_lt_pow_right (by decide) ht
theorem but_drewN (g : Nat) (w : World) (n : Nat) : But g w (w.drewN n) := ⟨rfl, rfl, rfl, Nat.le_refl _, fun _ _ _ => rfl⟩
theorem bneII (a b : Nat) : ((a : Int) != (b : Int)) = (a != b) := by
 rw [Bool.eq_iff_iff, bne_iff_ne, bne_iff_ne]; omega
theorem put_c (b x t : Nat) (w : World) (h : RowW w b x) (hx : x < 2 ^ 64) (ht : t < 64) :
  Calls Try.prog 62 #[slW b, .int .i64 (t : Int)] w fun e w' => e = .returned (.bool ((x ||| 1 <<< t) != x)) ∧ RowW w' b (x ||| 1 <<< t) ∧ But b w w' := by
 have c0 : w.cell? ⟨b, t / 64, none⟩ = some (.int .u64 (x : Int)) := by rw [show t / 64 = 0 by omega]; exact cell_of_heap h 0
 have f0 : w.frozen? ⟨b, t / 64, none⟩ = false := frozen_of_heap h _
 have H := Lib.hid h
 clear h
 unfold slW
 go_enter Try.func62, Try.ntmps62
 have HS := Lib.hid (shl64 ht)
 have HO := Lib.hid (or64 hx (bit64 ht))
 have HT := Lib.hid (show t / 64 = 0 by omega)
 clear hx
 go_upto_region 2 with (fail)
 go_region
 go_wp2_with fail
 rw [HS.out, HO.out, HT.out]
 go_ret
 refine ⟨ret_b (bneII _ _), (H.out.set _), ((But.setCell b 0 w _).trans (but_drewN _ _ 1))⟩
theorem jn_c (ba bb x y : Nat) (w : World) (ha : RowW w ba x) (hb : RowW w bb y) (hx : x < 2 ^ 64) (hy : y < 2 ^ 64) :
  Calls Try.prog 63 #[slW ba, slW bb] w fun e w' => e = .returned (.bool ((x ||| y) != x)) ∧ RowW w' ba (x ||| y) ∧ But ba w w' := by
 have c0 : w.cell? ⟨ba, 0, none⟩ = some (.int .u64 (x : Int)) := cell_of_heap ha 0
 have d0 : w.cell? ⟨bb, 0, none⟩ = some (.int .u64 (y : Int)) := cell_of_heap hb 0
 have f0 : w.frozen? ⟨ba, 0, none⟩ = false := frozen_of_heap ha _
 have HA := Lib.hid ha
 have HO := Lib.hid (or64 hx hy)
 clear ha hb hx hy
 unfold slW
 go_enter Try.func63, Try.ntmps63
 go_wp2_with fail
 go_loopw [5, 10] (fun g i wr => (g = .bool false ∧ i = .int .i64 0 ∧ wr = w) ∨ (g = .bool ((x ||| y) != x) ∧ i = .int .i64 1 ∧ Hid (RowW wr ba (x ||| y)) ∧ Hid (But ba w wr))) (fun _ i _ => 1 - (intOf i).toNat)
 case atStart => exact .inl ⟨rfl, rfl, rfl⟩
 case round =>
  rcases hrel with ⟨rfl, rfl, rfl⟩ | ⟨rfl, rfl, HR, HB⟩
  ·go_wp2_with fail
   go_quiet (fail)
   go_wp2_with fail
   go_roundw
   case rel =>
    refine .inr ⟨?_, rfl, ?_, ?_⟩
    ·rw [HO.out, bneII]
    ·rw [HO.out]; exact RowW.set (b := ba) (x := x) (by show _ = _; exact HA.out) _
    ·exact (but_drewN _ _ nq).trans (But.setCell _ _ _ _)
   case measure => simp [intOf]
  ·go_wp2_with fail
   go_ret
   exact ⟨rfl, HR.out, HB.out⟩
theorem meets_c (ba bb x y : Nat) (w : World) (ha : RowW w ba x) (hb : RowW w bb y) (hx : x < 2 ^ 64) (hy : y < 2 ^ 64) :
  Calls Try.prog 101 #[slW ba, slW bb] w fun e w' => e = .returned (.bool ((x &&& y) != 0)) ∧ w' = w := by
 have c0 : w.cell? ⟨ba, 0, none⟩ = some (.int .u64 (x : Int)) := cell_of_heap ha 0
 have d0 : w.cell? ⟨bb, 0, none⟩ = some (.int .u64 (y : Int)) := cell_of_heap hb 0
 have HO := Lib.hid (and64 hx hy)
 clear ha hb hx hy
 unfold slW
 go_enter Try.func101, Try.ntmps101
 go_wp2_with fail
 go_loopw [9] (fun i wr => wr = w ∧ (i = .int .i64 0 ∨ (i = .int .i64 1 ∧ Hid ((x &&& y) = 0)))) (fun i _ => 1 - (intOf i).toNat)
 case atStart => exact ⟨rfl, .inl rfl⟩
 case round =>
  obtain ⟨rfl, rfl | ⟨rfl, HZ⟩⟩ := hrel
  ·cases hz : ((x &&& y) != 0)
   ·have hz2 : (bits .and .u64 (x : Int) (y : Int) == 0) = true := by rw [HO.out]; simp at hz; rw [hz]; rfl
    have HZ : Hid ((x &&& y) = 0) := by show _ = _; simpa using hz
    clear hz
    go_wp2_with fail
    go_roundw
    case rel => exact ⟨trivial, .inr ⟨rfl, HZ⟩⟩
    case measure => simp [intOf]
   ·have hz2 : (bits .and .u64 (x : Int) (y : Int) == 0) = false := by rw [HO.out]; simp at hz; simpa using hz
    have HZ : Hid (((x &&& y) != 0) = true) := hz
    clear hz
    go_wp2_with fail
    go_ret
    exact ⟨ret_b HZ.out.symm, rfl⟩
  ·go_wp2_with fail
   go_ret
   exact ⟨by rw [HZ.out]; rfl, rfl⟩
end Go.Proofs.Ytmcddolkpcgddaa

set_option linter.all false
namespace Go.Proofs.Ytmcddolkpcgddaa
set_option linter.unusedVariables false

def spillB (s : List Bool) (r : Int) : Bool := decide (0 ≤ r) && (decide (r < (s.length : Int)) && s.getD r.toNat false)
/-- the loads, in order -/
def loadsL (l : List In) : List In := l.filter (·.op == 5)
def ldN (l : List In) : Nat := (loadsL l).length
def loadsP (p : Pr) : List In := p.blks.flatMap fun b => loadsL b.ins
/-- how many loads stand ahead of a block -/
def fromP (p : Pr) (n : Nat) : Nat := ((p.blks.take n).flatMap fun b => loadsL b.ins).length
def bit1 (R x : Nat) : Nat := R ||| 2 ^ x
/-- what an instruction reads of memory -/
def readsH (s : List Bool) (NL load : Nat) (i : In) : List Nat := (if i.op = 5 then [load] else []) ++ ((usesI i).filter (spillB s)).map fun r => NL + r.toNat
def bndI (i : In) : Bool := i.op == 12 || i.op == 9
def insH (s : List Bool) (NL : Nat) (st : Nat × Nat) (i : In) : Nat × Nat := (if bndI i = true then 0 else (readsH s NL st.2 i).foldl bit1 st.1, if i.op = 5 then st.2 + 1 else st.2)
def blkH (s : List Bool) (NL : Nat) (l : List In) (st : Nat × Nat) : Nat × Nat := l.foldl (insH s NL) st
def endS22 (s : List Bool) (b : Bk) : Bool := (b.fin == 2 || b.fin == 3) && spillB s b.a
def endH (s : List Bool) (NL : Nat) (b : Bk) (h : Nat) : Nat := if endS22 s b = true then bit1 h (NL + b.a.toNat) else h
def eachH (s : List Bool) (NL : Nat) (b : Bk) (load had : Nat) : Nat := endH s NL b (blkH s NL b.ins (had, load)).1
/-- no boundary stands in it -/
def freeL (l : List In) : Bool := l.all fun i => !bndI i

theorem bit1_test (R x y : Nat) : (bit1 R x).testBit y = (R.testBit y || decide (x = y)) := by
 unfold bit1; rw [Nat.testBit_or, Nat.testBit_two_pow]
theorem bits1_test (l : List Nat) (R y : Nat) : (l.foldl bit1 R).testBit y = (R.testBit y || decide (y ∈ l)) := by
 induction l generalizing R with
 | nil => simp
 | cons a l ih =>
  rw [List.foldl_cons, ih, bit1_test, Bool.or_assoc]
  congr 1
  rw [Bool.eq_iff_iff]
  simp only [Bool.or_eq_true, decide_eq_true_eq, List.mem_cons]
  constructor
  ·rintro (h | h)
   ·exact .inl h.symm
   ·exact .inr h
  ·rintro (h | h)
   ·exact .inl h.symm
   ·exact .inr h
theorem insH_test (s : List Bool) (NL : Nat) (st : Nat × Nat) (i : In) (y : Nat) : (insH s NL st i).1.testBit y = (!bndI i && (st.1.testBit y || decide (y ∈ readsH s NL st.2 i))) := by
 unfold insH
 dsimp only
 cases hb : bndI i
 ·rw [if_neg (by simp), bits1_test]; rfl
 ·rw [if_pos rfl]; simp
theorem insH_load (s : List Bool) (NL : Nat) (st : Nat × Nat) (i : In) : (insH s NL st i).2 = st.2 + ldN [i] := by
 unfold insH ldN loadsL
 by_cases h : i.op = 5
 ·simp [h]
 ·simp [h]
theorem ldN_cons (i : In) (l : List In) : ldN (i :: l) = ldN [i] + ldN l := by
 unfold ldN loadsL
 rw [show i :: l = [i] ++ l from rfl, List.filter_append, List.length_append]
theorem blkH_load (s : List Bool) (NL : Nat) (l : List In) : ∀ st : Nat × Nat, (blkH s NL l st).2 = st.2 + ldN l := by
 induction l with
 | nil => intro st; rfl
 | cons i l ih =>
  intro st
  show (blkH s NL l (insH s NL st i)).2 = _
  rw [ih, insH_load, ldN_cons i l]; omega
theorem blkH_snoc (s : List Bool) (NL : Nat) (l : List In) (i : In) (st : Nat × Nat) : blkH s NL (l ++ [i]) st = insH s NL (blkH s NL l st) i := by unfold blkH; rw [List.foldl_append]; rfl
/-- which readings lie behind instructions -/
theorem blkH_test (s : List Bool) (NL y : Nat) (l : List In) : ∀ h ld : Nat, (blkH s NL l (h, ld)).1.testBit y = true ↔ (h.testBit y = true ∧ freeL l = true) ∨ ∃ k, k < l.length ∧ y ∈ readsH s NL (ld + ldN (l.take k)) (l.getD k default) ∧ freeL (l.drop k) = true := by
 induction l with
 | nil => intro h ld; simp [blkH, freeL]
 | cons i l ih =>
  intro h ld
  have e : blkH s NL (i :: l) (h, ld) = blkH s NL l ((insH s NL (h, ld) i).1, (insH s NL (h, ld) i).2) := rfl
  rw [e, ih, insH_test, insH_load]
  dsimp only
  simp only [Bool.and_eq_true, Bool.or_eq_true, decide_eq_true_eq, Bool.not_eq_true']
  have hf : freeL (i :: l) = true ↔ bndI i = false ∧ freeL l = true := by unfold freeL; simp
  constructor
  ·rintro (⟨⟨hb, hh | hr⟩, hl⟩ | ⟨k, hk, hr, hd⟩)
   ·exact .inl ⟨hh, hf.2 ⟨hb, hl⟩⟩
   ·refine .inr ⟨0, by simp, ?_, ?_⟩
    ·simpa [ldN, loadsL, List.getD] using hr
    ·simpa using hf.2 ⟨hb, hl⟩
   ·refine .inr ⟨k + 1, by simpa using hk, ?_, by simpa using hd⟩
    rw [List.take_succ_cons, ldN_cons, ← Nat.add_assoc]
    simpa [List.getD] using hr
  ·rintro (⟨hh, hl⟩ | ⟨k, hk, hr, hd⟩)
   ·obtain ⟨hb, hl⟩ := hf.1 hl
    exact .inl ⟨⟨hb, .inl hh⟩, hl⟩
   ·cases k with
    | zero =>
     have hd : freeL (i :: l) = true := by simpa using hd
     obtain ⟨hb, hl⟩ := hf.1 hd
     refine .inl ⟨⟨hb, .inr ?_⟩, hl⟩
     simpa [ldN, loadsL, List.getD] using hr
    | succ k =>
     refine .inr ⟨k, by simpa using hk, ?_, by simpa using hd⟩
     rw [List.take_succ_cons, ldN_cons, ← Nat.add_assoc] at hr
     simpa [List.getD] using hr
theorem endH_test (s : List Bool) (NL : Nat) (b : Bk) (h y : Nat) : (endH s NL b h).testBit y = true ↔ h.testBit y = true ∨ endS22 s b = true ∧ y = NL + b.a.toNat := by
 unfold endH
 by_cases e : endS22 s b = true
 ·rw [if_pos e, bit1_test]
  simp only [Bool.or_eq_true, decide_eq_true_eq, e, true_and]
  constructor
  ·rintro (h | h)
   ·exact .inl h
   ·exact .inr h.symm
  ·rintro (h | h)
   ·exact .inl h
   ·exact .inr h.symm
 ·rw [if_neg e]
  simp [e]
/-- a reading at a place of a block; the last place is its end -/
def occH (s : List Bool) (NL : Nat) (p : Pr) (n k y : Nat) : Prop :=
 (k < (p.blks.getD n default).ins.length ∧ y ∈ readsH s NL (fromP p n + ldN ((p.blks.getD n default).ins.take k)) ((p.blks.getD n default).ins.getD k default)) ∨
 (k = (p.blks.getD n default).ins.length ∧ endS22 s (p.blks.getD n default) = true ∧ y = NL + (p.blks.getD n default).a.toNat)
/-- what comes out of a block -/
theorem eachH_test (s : List Bool) (NL : Nat) (p : Pr) (n h y : Nat) : (eachH s NL (p.blks.getD n default) (fromP p n) h).testBit y = true ↔
  (h.testBit y = true ∧ freeL (p.blks.getD n default).ins = true) ∨ ∃ k, occH s NL p n k y ∧ freeL ((p.blks.getD n default).ins.drop k) = true := by
 unfold eachH
 rw [endH_test, blkH_test]
 unfold occH
 constructor
 ·rintro ((h | ⟨k, hk, hr, hf⟩) | ⟨he, hy⟩)
  ·exact .inl h
  ·exact .inr ⟨k, .inl ⟨hk, hr⟩, hf⟩
  ·exact .inr ⟨_, .inr ⟨rfl, he, hy⟩, by simp [freeL]⟩
 ·rintro (h | ⟨k, ⟨hk, hr⟩ | ⟨hk, he, hy⟩, hf⟩)
  ·exact .inl (.inl h)
  ·exact .inl (.inr ⟨k, hk, hr, hf⟩)
  ·exact .inr ⟨he, hy⟩
theorem eachH_mono (s : List Bool) (NL : Nat) (p : Pr) (n h h' y : Nat) (hh : ∀ z, h.testBit z = true → h'.testBit z = true) (he : (eachH s NL (p.blks.getD n default) (fromP p n) h).testBit y = true) : (eachH s NL (p.blks.getD n default) (fromP p n) h').testBit y = true := by
 rw [eachH_test] at he ⊢
 rcases he with ⟨h1, h2⟩ | h
 ·exact .inl ⟨hh _ h1, h2⟩
 ·exact .inr h
/-- the readings behind instruction k of a block -/
def hadH (s : List Bool) (NL : Nat) (p : Pr) (n k h : Nat) : Nat := (blkH s NL ((p.blks.getD n default).ins.take (k + 1)) (h, fromP p n)).1
theorem take_take_lt {α : Type} (l : List α) (j k : Nat) (h : j ≤ k) : (l.take k).take j = l.take j := by rw [List.take_take, Nat.min_eq_left h]
/-- what may have been read where a block begins: by the ways there -/
inductive WayH (s : List Bool) (NL : Nat) (p : Pr) : Nat → Nat → Prop
 | mk (n t h y : Nat) (hn : n < p.blks.length) (hw : ∀ z, h.testBit z = true → WayH s NL p z n) (he : (eachH s NL (p.blks.getD n default) (fromP p n) h).testBit y = true) (ht : (t : Int) ∈ outsB (p.blks.getD n default)) : WayH s NL p y t
def SoundH (s : List Bool) (NL : Nat) (p : Pr) (X : List Nat) : Prop := ∀ n y, (X.getD n 0).testBit y = true → WayH s NL p y n
/-- nothing is news -/
def StillH (s : List Bool) (NL : Nat) (p : Pr) (X : List Nat) : Prop := ∀ n, n < p.blks.length → ∀ t : Nat, (t : Int) ∈ outsB (p.blks.getD n default) → ∀ y, (eachH s NL (p.blks.getD n default) (fromP p n) (X.getD n 0)).testBit y = true → (X.getD t 0).testBit y = true
theorem WayH.in {s : List Bool} {NL : Nat} {p : Pr} {y n : Nat} (h : WayH s NL p y n) {X : List Nat} (hs : StillH s NL p X) : (X.getD n 0).testBit y = true := by
 induction h with
 | mk n t h y hn hw he ht ih => exact hs n hn t ht y (eachH_mono s NL p n h _ y (fun z hz => ih z hz) he)
theorem SoundH.zero (s : List Bool) (NL : Nat) (p : Pr) (N : Nat) : SoundH s NL p (List.replicate N 0) := fun n y h => by
 have : (List.replicate N 0).getD n 0 = 0 := by simp [List.getD, List.getElem?_replicate]; split <;> rfl
 rw [this] at h; simp at h
theorem SoundH.step {s : List Bool} {NL : Nat} {p : Pr} {X : List Nat} (hX : SoundH s NL p X) {n t h : Nat} (hn : n < p.blks.length) (ht : (t : Int) ∈ outsB (p.blks.getD n default)) (hh : ∀ z, h.testBit z = true → WayH s NL p z n) : SoundH s NL p (X.set t (X.getD t 0 ||| eachH s NL (p.blks.getD n default) (fromP p n) h)) := fun m y hy => by
 by_cases e : m = t
 ·subst e
  by_cases hl : m < X.length
  ·have : (X.set m (X.getD m 0 ||| eachH s NL (p.blks.getD n default) (fromP p n) h)).getD m 0 = X.getD m 0 ||| eachH s NL (p.blks.getD n default) (fromP p n) h := by simp [List.getD, hl]
   rw [this, Nat.testBit_or, Bool.or_eq_true] at hy
   rcases hy with hy | hy
   ·exact hX m y hy
   ·exact .mk n m h y hn hh hy ht
  ·rw [List.set_eq_of_length_le (by omega)] at hy
   exact hX m y hy
 ·have : (X.set t (X.getD t 0 ||| eachH s NL (p.blks.getD n default) (fromP p n) h)).getD m 0 = X.getD m 0 := by simp [List.getD, List.getElem?_set_ne (Ne.symm e)]
  rw [this] at hy
  exact hX m y hy
end Go.Proofs.Ytmcddolkpcgddaa

set_option linter.all false
namespace Go.Proofs.Ytmcddolkpcgddaa

/-- a place as the program keeps it -/
structure Sp where
 thing : Int
 off : Int
 sets : Int
 is : Bool
/-- as an instruction that sets the register leaves it -/
def spI (o : Nat) (s : Sp) (i : In) : Sp :=
 if i.op = 7 then ⟨i.obj, i.off, s.sets + 1, true⟩ else if i.op = 8 then ⟨o + i.obj, i.off, s.sets + 1, true⟩ else ⟨s.thing, s.off, s.sets + 1, false⟩
def insP (p : Pr) : List In := p.blks.flatMap (·.ins)
/-- those that set it -/
def defsP (p : Pr) (r : Int) : List In := (insP p).filter fun i => defI i == r
def spP (p : Pr) (r : Nat) : Sp := (defsP p r).foldl (spI p.objs.length) ⟨0, 0, if (r : Int) < p.params then 1 else 0, false⟩
/-- an exact place, or none -/
structure Ex where
 thing : Int
 off : Int
 is : Bool
def exF (p : Pr) (r : Int) : Ex :=
 if 0 ≤ r ∧ r < p.regs then (if (spP p r.toNat).sets = 1 ∧ (spP p r.toNat).is = true then ⟨(spP p r.toNat).thing, (spP p r.toNat).off, true⟩ else ⟨0, 0, false⟩) else ⟨0, 0, false⟩
theorem spI_sets (o : Nat) (s : Sp) (i : In) : (spI o s i).sets = s.sets + 1 := by
 unfold spI
 by_cases h7 : i.op = 7
 ·rw [if_pos h7]
 ·rw [if_neg h7]
  by_cases h8 : i.op = 8
  ·rw [if_pos h8]
  ·rw [if_neg h8]
/-- bytes from x on, so many, and from y on: have they one together? -/
def lapF (x y sa sb : Int) : Bool := decide (x < y + sb) && decide (y < x + sa)
end Go.Proofs.Ytmcddolkpcgddaa

set_option linter.all false
namespace Go.Proofs.Ytmcddolkpcgddaa

end Go.Proofs.Ytmcddolkpcgddaa

set_option linter.all false
namespace Go.Proofs.Ytmcddolkpcgddaa

end Go.Proofs.Ytmcddolkpcgddaa
