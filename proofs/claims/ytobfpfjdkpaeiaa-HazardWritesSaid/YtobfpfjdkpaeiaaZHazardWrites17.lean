/-
 hazard: rows of readings, of several words, in memory; put has join clear.; Hazards, plain: what the program finds is what the document's ways find; a mark more makes none.; hazard: spills, Writes, reg, join, the row cleared; what stays while rows turn.
-/
import Derived.Test.YtobfpfjdkpaeiaaZHazardWrites13
import Derived.Test.YtobfpfjdkpaeiaaZHazardWrites16
import Derived.Lib.SliceRun

set_option linter.all false
namespace Go.Proofs.Ytobfpfjdkpaeiaa
open Go.ChangeShapes Go.WideShapes Go.ChangeAt Go.RowKit
set_option maxHeartbeats 4000000
set_option maxRecDepth 100000
set_option linter.unusedVariables false

/-- word j of a row -/
def wU (R j : Nat) : Nat := R / 2 ^ (64 * j) % 2 ^ 64
theorem wU_lt (R j : Nat) : wU R j < 2 ^ 64 := Nat.mod_lt _ (Nat.two_pow_pos 64)
theorem wU_bit (R j i : Nat) : (wU R j).testBit i = (decide (i < 64) && R.testBit (64 * j + i)) := by
 unfold wU; rw [Nat.testBit_mod_two_pow, Nat.testBit_div_two_pow, Nat.add_comm]
theorem wU_zero (j : Nat) : wU 0 j = 0 := by unfold wU; simp
theorem wU_or (R S j : Nat) : wU (R ||| S) j = wU R j ||| wU S j := by
 apply Nat.eq_of_testBit_eq
 intro i
 rw [Nat.testBit_or, wU_bit, wU_bit, wU_bit, Nat.testBit_or]
 cases decide (i < 64) <;> simp
theorem wU_put (R n : Nat) : wU (bit1 R n) (n / 64) = wU R (n / 64) ||| 1 <<< (n % 64) := by
 apply Nat.eq_of_testBit_eq
 intro i
 rw [Nat.testBit_or, Nat.one_shiftLeft, Nat.testBit_two_pow, wU_bit, wU_bit, bit1_test]
 by_cases hi : i < 64
 ·rw [decide_eq_true hi]
  simp only [Bool.true_and]
  congr 1
  rw [Bool.eq_iff_iff, decide_eq_true_eq, decide_eq_true_eq]
  omega
 ·have : ¬ n % 64 = i := by omega
  simp [hi, this]
theorem wU_put_ne (R n j : Nat) (h : j ≠ n / 64) : wU (bit1 R n) j = wU R j := by
 apply Nat.eq_of_testBit_eq
 intro i
 rw [wU_bit, wU_bit, bit1_test]
 by_cases hi : i < 64
 ·have : ¬ n = 64 * j + i := by omega
  simp [this]
 ·simp [hi]
theorem wU_low (S k j : Nat) : wU (S % 2 ^ (64 * k)) j = if j < k then wU S j else 0 := by
 apply Nat.eq_of_testBit_eq
 intro i
 rw [wU_bit, Nat.testBit_mod_two_pow]
 by_cases h : j < k
 ·rw [if_pos h, wU_bit]
  by_cases hi : i < 64
  ·have : 64 * j + i < 64 * k := by omega
   simp [this]
  ·simp [hi]
 ·rw [if_neg h]
  have : ¬ 64 * j + i < 64 * k := by omega
  simp [this]
def wordsU (L R : Nat) : List Value := (List.range L).map fun j => .int .u64 ((wU R j : Nat) : Int)
theorem wordsU_len (L R : Nat) : (wordsU L R).length = L := by simp [wordsU]
theorem wordsU_at (L R j : Nat) (h : j < L) : (wordsU L R)[j]? = some (.int .u64 ((wU R j : Nat) : Int)) := by simp [wordsU, h]
theorem wordsU_set (L R R' j : Nat) (h : ∀ i, i ≠ j → wU R' i = wU R i) : (wordsU L R).set j (.int .u64 ((wU R' j : Nat) : Int)) = wordsU L R' := by
 apply List.ext_getElem (by simp [wordsU])
 intro i h1 h2
 rw [List.getElem_set]
 by_cases e : j = i
 ·subst e; simp [wordsU]
 ·rw [if_neg e]; simp [wordsU, h i (Ne.symm e)]
/-- a row of readings in memory, in a block of its own -/
def RowU (w : World) (g c L R : Nat) : Prop := w.ownsRow 0 134 1 (.slice (some ⟨g, 0, none⟩) L c) L (wordsU L R)
theorem RowU.heap {w : World} {g c L R : Nat} (h : RowU w g c L R) : ∃ cur, w.heap[g]? = some (.cells cur 134) := by
 obtain ⟨-, ⟨h2, -⟩ | ⟨g', cap, cur, h2, -, hg, -⟩⟩ := h
 ·simp at h2
 ·simp only [Value.slice.injEq, Option.some.injEq, Addr.mk.injEq, and_true, true_and] at h2
  obtain ⟨rfl, -⟩ := h2
  exact ⟨cur, hg⟩
theorem RowU.lt {w : World} {g c L R : Nat} (h : RowU w g c L R) : g < w.heap.size := by
 obtain ⟨cur, hg⟩ := h.heap; exact (Array.getElem?_eq_some_iff.1 hg).1
theorem RowU.caps {w : World} {g c L R : Nat} (h : RowU w g c L R) : L ≤ c ∧ c ≤ maxLen := by
 obtain ⟨-, ⟨h2, -⟩ | ⟨g', cap, cur, h2, -, hg, hn, hc, -⟩⟩ := h
 ·simp at h2
 ·simp only [Value.slice.injEq, Option.some.injEq, Addr.mk.injEq, and_true, true_and] at h2
  obtain ⟨rfl, rfl⟩ := h2
  exact ⟨hn, hc⟩
theorem RowU.cell {w : World} {g c L R : Nat} (h : RowU w g c L R) {j : Nat} (hj : j < L) : w.cell? ⟨g, j, none⟩ = some (.int .u64 ((wU R j : Nat) : Int)) ∧ w.frozen? ⟨g, j, none⟩ = false := by
 obtain ⟨cur, hg⟩ := h.heap
 refine ⟨(World.ownsRow.cellAt h j (by omega)).trans ?_, frozen_of_heap hg j⟩
 rw [wordsU_at L R j hj]
theorem RowU.below {w w' : World} {g c L R : Nat} (h : RowU w g c L R) (hb : Below w.heap.size w w') : RowU w' g c L R := own_below h hb
theorem RowU.ne {w : World} {g c L R b : Nat} (h : RowU w g c L R) {cs : Array Value} {ty : TypeId} (hb : w.heap[b]? = some (.cells cs ty)) (hty : ty ≠ 134) : g ≠ b := by
 obtain ⟨cur, hg⟩ := h.heap
 intro e
 rw [e, hb] at hg
 simp only [Option.some.injEq, Obj.cells.injEq] at hg
 exact hty hg.2.1
theorem RowU.but {w w' : World} {g c L R b : Nat} (h : RowU w g c L R) (hb : But b w w') (hne : g ≠ b) : RowU w' g c L R :=
 World.ownsRow.kept h (but_grownK hb) (.inr (by simp only [Value.ownBlock]; intro e; exact hne (Option.some.inj e)))
theorem RowU.store {w : World} {g c L R R' : Nat} (h : RowU w g c L R) (j : Nat) (hw : ∀ i, i ≠ j → wU R' i = wU R i) : RowU (w.setCell ⟨g, j, none⟩ (.int .u64 ((wU R' j : Nat) : Int))) g c L R' := by
 have := (World.ownsRow.stored h j (.int .u64 ((wU R' j : Nat) : Int))).1
 rw [wordsU_set L R R' j hw] at this
 exact this
theorem has_wU (R n : Nat) : (bits .and .u64 (((wU R (n / 64) : Nat) : Int) / 2 ^ (n % 64)) 1 == 1) = R.testBit n := by
 have h := has64 (x := wU R (n / 64)) (t := n % 64) (wU_lt _ _) (by omega)
 rw [Nat.mod_mod] at h
 rw [h, wU_bit, decide_eq_true (by omega), Bool.true_and, show 64 * (n / 64) + n % 64 = n by omega]
theorem hhas_c (g c L R n : Nat) (w : World) (h : RowU w g c L R) (hn : n < 64 * L) :
  Calls Try.prog 76 #[.slice (some ⟨g, 0, none⟩) L c, .int .i64 (n : Int)] w fun e w' => e = .returned (.bool (R.testBit n)) ∧ w' = w := by
 obtain ⟨c0, -⟩ := h.cell (j := n / 64) (by omega)
 obtain ⟨hc1, hc2⟩ := h.caps
 unfold maxLen at hc2
 have HH := Lib.hid (has_wU R n)
 have g1 : decide (n / 64 < L) = true := decide_eq_true (by omega)
 have g2 : decide ((n : Int) / 64 < (L : Int)) = true := decide_eq_true (by omega)
 clear h
 go_enter Try.func76, Try.ntmps76
 go_wp2_with fail
 go_ret
 exact ⟨ret_b HH.out, rfl⟩
theorem hput_c (g c L R n : Nat) (w : World) (h : RowU w g c L R) (hn : n < 64 * L) :
  Calls Try.prog 74 #[.slice (some ⟨g, 0, none⟩) L c, .int .i64 (n : Int)] w fun e w' => (∃ v, e = .returned v) ∧ RowU w' g c L (bit1 R n) ∧ But g w w' := by
 obtain ⟨c0, f0⟩ := h.cell (j := n / 64) (by omega)
 obtain ⟨hc1, hc2⟩ := h.caps
 unfold maxLen at hc2
 have H := Lib.hid h
 have g1 : decide (n / 64 < L) = true := decide_eq_true (by omega)
 have g2 : decide ((n : Int) / 64 < (L : Int)) = true := decide_eq_true (by omega)
 have HS : Hid (IntKind.u64.wrap (2 ^ (n % 64)) = ((1 <<< (n % 64) : Nat) : Int)) := by
  have := shl64 (t := n % 64) (by omega)
  rw [Nat.mod_mod] at this
  exact this
 have HO : Hid (bits .or .u64 ((wU R (n / 64) : Nat) : Int) ((1 <<< (n % 64) : Nat) : Int) = ((wU (bit1 R n) (n / 64) : Nat) : Int)) := by
  show _ = _
  rw [or64 (wU_lt _ _) (bit64 (by omega)), wU_put]
 clear h
 go_enter Try.func74, Try.ntmps74
 go_region
 go_wp2_with fail
 rw [HS.out, HO.out]
 go_end0
 exact ⟨⟨_, rfl⟩, H.out.store (R' := bit1 R n) (n / 64) (fun i hi => wU_put_ne R n i hi), (But.setCell g (n / 64) w _).trans (but_drewN _ _ 1)⟩
end Go.Proofs.Ytobfpfjdkpaeiaa

set_option linter.all false
namespace Go.Proofs.Ytobfpfjdkpaeiaa
set_option linter.unusedVariables false

def hazH (s : List Bool) (L : List In) (meet : In → In → Bool) (had : Nat) (i : In) : Bool :=
 (spillB s (defI i) && had.testBit (L.length + (defI i).toNat)) || (i.op == 6 && (List.range L.length).any fun x => had.testBit x && meet (L.getD x default) i)
/-- the hazards of a block, as the program tells them -/
def hazL (s : List Bool) (p : Pr) (meet : In → In → Bool) (X : List Nat) (n : Nat) : List Nat :=
 (List.range (p.blks.getD n default).ins.length).filter fun k => hazH s (loadsP p) meet (hadH s (loadsP p).length p n k (X.getD n 0)) ((p.blks.getD n default).ins.getD k default)
theorem spill_pos {s : List Bool} {r : Int} (h : spillB s r = true) : 0 ≤ r ∧ r < s.length ∧ s.getD r.toNat false = true := by
 unfold spillB at h; simpa using h
theorem split_at22 {α : Type} (l : List α) (n : Nat) (d : α) (h : n < l.length) : l = l.take n ++ l.getD n d :: l.drop (n + 1) := by
 have e : l.getD n d = l[n] := by simp [List.getD, h]
 rw [e, ← List.drop_eq_getElem_cons h, List.take_append_drop]
theorem getD_in22 {α : Type} {l : List α} {j : Nat} {d : α} (h : j < l.length) : l.getD j d ∈ l := by simp [List.getD, h]
theorem getD_mid22 {α : Type} (A B : List α) (a d : α) : (A ++ a :: B).getD A.length d = a := by simp [List.getD]
theorem loads_at {p : Pr} {n k : Nat} (hn : n < p.blks.length) (hk : k < (p.blks.getD n default).ins.length) (h5 : ((p.blks.getD n default).ins.getD k default).op = 5) :
  fromP p n + ldN ((p.blks.getD n default).ins.take k) < (loadsP p).length ∧ (loadsP p).getD (fromP p n + ldN ((p.blks.getD n default).ins.take k)) default = (p.blks.getD n default).ins.getD k default := by
 have e1 := split_at22 p.blks n default hn
 have e3 := split_at22 (p.blks.getD n default).ins k default hk
 have f3 : loadsL (p.blks.getD n default).ins = loadsL ((p.blks.getD n default).ins.take k) ++ (p.blks.getD n default).ins.getD k default :: loadsL ((p.blks.getD n default).ins.drop (k + 1)) := by
  conv => lhs; rw [e3]
  unfold loadsL
  rw [List.filter_append, List.filter_cons, if_pos (by simpa using h5)]
 have f1 : loadsP p = (((p.blks.take n).flatMap fun b => loadsL b.ins) ++ loadsL ((p.blks.getD n default).ins.take k)) ++ (p.blks.getD n default).ins.getD k default :: (loadsL ((p.blks.getD n default).ins.drop (k + 1)) ++ (p.blks.drop (n + 1)).flatMap fun b => loadsL b.ins) := by
  unfold loadsP
  conv => lhs; rw [e1]
  rw [List.flatMap_append, List.flatMap_cons, f3]
  simp
 have hl : (((p.blks.take n).flatMap fun b => loadsL b.ins) ++ loadsL ((p.blks.getD n default).ins.take k)).length = fromP p n + ldN ((p.blks.getD n default).ins.take k) := by
  rw [List.length_append]; rfl
 rw [f1, ← hl]
 exact ⟨by simp, getD_mid22 ..⟩
theorem haz_writes {s : List Bool} {L : List In} {meet : In → In → Bool} {had : Nat} {i : In} (h : hazH s L meet had i = true) : writesI s i = true := by
 unfold hazH at h
 unfold writesI
 rw [Bool.or_eq_true, Bool.and_eq_true, Bool.and_eq_true] at h
 rw [Bool.or_eq_true]
 rcases h with h | h
 ·exact .inr h.1
 ·exact .inl h.1

-- registers beyond the procedure's are none
end Go.Proofs.Ytobfpfjdkpaeiaa

set_option linter.all false
namespace Go.Proofs.Ytobfpfjdkpaeiaa
open Go.ChangeShapes Go.WideShapes Go.ChangeAt Go.RowKit
set_option maxHeartbeats 4000000
set_option maxRecDepth 100000
set_option linter.unusedVariables false

theorem spills_c (v : Value) (s : List Bool) (r : Int) (w : World) (h : RdB w v s) :
  Calls Try.prog 44 #[v, .int .i64 r] w fun e w' => e = .returned (.bool (spillB s r)) ∧ w' = w := by
 obtain ⟨a, c, rfl, h1, h2, hc⟩ := h
 unfold maxLen at h2
 have HB : Hid (spillB s r = (decide (0 ≤ r) && (decide (r < (s.length : Int)) && s.getD r.toNat false))) := rfl
 by_cases h0 : 0 ≤ r
 ·obtain ⟨n, rfl⟩ := Int.eq_ofNat_of_zero_le h0
  have q0 : decide ((n : Int) ≥ 0) = true := decide_eq_true h0
  have q0' : decide (0 ≤ (n : Int)) = true := decide_eq_true h0
  by_cases hl : n < s.length
  ·have q1 : decide ((n : Int) < (s.length : Int)) = true := decide_eq_true (by omega)
   have q2 : decide (n < s.length) = true := decide_eq_true hl
   obtain ⟨b, o, rfl, hcell⟩ := hc n hl
   simp only [Nat.mul_one, Nat.add_zero] at hcell
   have HX : Hid (spillB s (n : Int) = s.getD n false) := by
    show _ = _
    rw [HB.out, q0', q1]; rfl
   clear hc HB h0
   generalize s.getD n false = z at *
   cases z
   all_goals
    go_enter Try.func44, Try.ntmps44
    go_wp2_with fail
    go_ret
    exact ⟨ret_b HX.out.symm, rfl⟩
  ·have q1 : decide ((n : Int) < (s.length : Int)) = false := decide_eq_false (by omega)
   have HX : Hid (spillB s (n : Int) = false) := by
    show _ = _
    rw [HB.out, q1]; simp
   clear hc HB h0
   go_enter Try.func44, Try.ntmps44
   go_wp2_with fail
   go_ret
   exact ⟨ret_b HX.out.symm, rfl⟩
 ·have q0 : decide (r ≥ 0) = false := decide_eq_false (by omega)
  have q0' : decide (0 ≤ r) = false := decide_eq_false (by omega)
  have HX : Hid (spillB s r = false) := by
   show _ = _
   rw [HB.out, q0']; rfl
  clear hc HB h0
  go_enter Try.func44, Try.ntmps44
  go_wp2_with fail
  go_ret
  exact ⟨ret_b HX.out.symm, rfl⟩
theorem spills22_c (v : Value) (s : List Bool) (r : Int) (w : World) (h : RdB w v s) :
  Calls Try.prog 43 #[v, .int .i64 r] w fun e w' => e = .returned (.bool (spillB s r)) ∧ w' = w := by
 obtain ⟨a, c, rfl, h1, h2, hc⟩ := h
 unfold maxLen at h2
 have HB : Hid (spillB s r = (decide (0 ≤ r) && (decide (r < (s.length : Int)) && s.getD r.toNat false))) := rfl
 by_cases h0 : 0 ≤ r
 ·obtain ⟨n, rfl⟩ := Int.eq_ofNat_of_zero_le h0
  have q0 : decide ((n : Int) ≥ 0) = true := decide_eq_true h0
  have q0' : decide (0 ≤ (n : Int)) = true := decide_eq_true h0
  by_cases hl : n < s.length
  ·have q1 : decide ((n : Int) < (s.length : Int)) = true := decide_eq_true (by omega)
   have q2 : decide (n < s.length) = true := decide_eq_true hl
   obtain ⟨b, o, rfl, hcell⟩ := hc n hl
   simp only [Nat.mul_one, Nat.add_zero] at hcell
   have HX : Hid (spillB s (n : Int) = s.getD n false) := by
    show _ = _
    rw [HB.out, q0', q1]; rfl
   clear hc HB h0
   generalize s.getD n false = z at *
   cases z
   all_goals
    go_enter Try.func43, Try.ntmps43
    go_wp2_with fail
    go_ret
    exact ⟨ret_b HX.out.symm, rfl⟩
  ·have q1 : decide ((n : Int) < (s.length : Int)) = false := decide_eq_false (by omega)
   have HX : Hid (spillB s (n : Int) = false) := by
    show _ = _
    rw [HB.out, q1]; simp
   clear hc HB h0
   go_enter Try.func43, Try.ntmps43
   go_wp2_with fail
   go_ret
   exact ⟨ret_b HX.out.symm, rfl⟩
 ·have q0 : decide (r ≥ 0) = false := decide_eq_false (by omega)
  have q0' : decide (0 ≤ r) = false := decide_eq_false (by omega)
  have HX : Hid (spillB s r = false) := by
   show _ = _
   rw [HB.out, q0']; rfl
  clear hc HB h0
  go_enter Try.func43, Try.ntmps43
  go_wp2_with fail
  go_ret
  exact ⟨ret_b HX.out.symm, rfl⟩
theorem low_full {S L : Nat} (h : S < 2 ^ (64 * L)) : S % 2 ^ (64 * L) = S := Nat.mod_eq_of_lt h
theorem or_eq_left {R S : Nat} : R ||| S = R ↔ ∀ x, S.testBit x = true → R.testBit x = true := by
 constructor
 ·intro h x hx
  rw [← h, Nat.testBit_or, hx, Bool.or_true]
 ·intro h
  apply Nat.eq_of_testBit_eq
  intro i
  rw [Nat.testBit_or]
  cases hs : S.testBit i
  ·simp
  ·rw [h i hs]; rfl
/-- whether joining the first words brings news -/
def newsU (R S k : Nat) : Bool := (R ||| S % 2 ^ (64 * k)) != R
theorem newsU_zero (R S : Nat) : newsU R S 0 = false := by unfold newsU; simp [Nat.mod_one]
theorem newsU_step (R S k : Nat) : newsU R S (k + 1) = (newsU R S k || ((wU R k ||| wU S k) != wU R k)) := by
 rw [Bool.eq_iff_iff]
 unfold newsU
 rw [Bool.or_eq_true, bne_iff_ne, bne_iff_ne, bne_iff_ne]
 have key : (R ||| S % 2 ^ (64 * (k + 1))) = R ↔ ((R ||| S % 2 ^ (64 * k)) = R ∧ (wU R k ||| wU S k) = wU R k) := by
  rw [or_eq_left, or_eq_left, or_eq_left]
  constructor
  ·intro h
   refine ⟨fun x hx => h x ?_, fun x hx => ?_⟩
   ·rw [Nat.testBit_mod_two_pow, Bool.and_eq_true, decide_eq_true_eq] at hx ⊢
    exact ⟨by omega, hx.2⟩
   ·rw [wU_bit, Bool.and_eq_true, decide_eq_true_eq] at hx ⊢
    refine ⟨hx.1, h _ ?_⟩
    rw [Nat.testBit_mod_two_pow, Bool.and_eq_true, decide_eq_true_eq]
    exact ⟨by omega, hx.2⟩
  ·rintro ⟨h1, h2⟩ x hx
   rw [Nat.testBit_mod_two_pow, Bool.and_eq_true, decide_eq_true_eq] at hx
   by_cases hk : x < 64 * k
   ·exact h1 x (by rw [Nat.testBit_mod_two_pow, Bool.and_eq_true, decide_eq_true_eq]; exact ⟨hk, hx.2⟩)
   ·have := h2 (x - 64 * k)
    rw [wU_bit, wU_bit, Bool.and_eq_true, Bool.and_eq_true, decide_eq_true_eq, show 64 * k + (x - 64 * k) = x by omega] at this
    exact (this ⟨by omega, hx.2⟩).2
 constructor
 ·intro h
  rw [Ne, key] at h
  by_cases h1 : (R ||| S % 2 ^ (64 * k)) = R
  ·exact .inr fun h2 => h ⟨h1, h2⟩
  ·exact .inl h1
 ·rintro (h | h) e
  ·exact h (key.1 e).1
  ·exact h (key.1 e).2
theorem wU_join_at (R S k : Nat) : wU (R ||| S % 2 ^ (64 * k)) k = wU R k := by rw [wU_or, wU_low, if_neg (Nat.lt_irrefl _), Nat.or_zero]
theorem wU_join_step (R S k : Nat) : wU (R ||| S % 2 ^ (64 * (k + 1))) k = wU R k ||| wU S k := by rw [wU_or, wU_low, if_pos (Nat.lt_succ_self _)]
theorem wU_join_ne (R S k i : Nat) (h : i ≠ k) : wU (R ||| S % 2 ^ (64 * (k + 1))) i = wU (R ||| S % 2 ^ (64 * k)) i := by
 rw [wU_or, wU_or, wU_low, wU_low]
 by_cases h1 : i < k
 ·rw [if_pos h1, if_pos (by omega)]
 ·rw [if_neg h1, if_neg (by omega)]
theorem hjoin_c (g c g' c' L R S : Nat) (w : World) (h : RowU w g c L R) (h' : RowU w g' c' L S) (hne : g ≠ g') (hS : S < 2 ^ (64 * L)) :
  Calls Try.prog 71 #[.slice (some ⟨g, 0, none⟩) L c, .slice (some ⟨g', 0, none⟩) L c'] w fun e w' => e = .returned (.bool ((R ||| S) != R)) ∧ RowU w' g c L (R ||| S) ∧ But g w w' := by
 obtain ⟨hc1, hc2⟩ := h.caps
 unfold maxLen at hc2
 have H0 : Hid (RowU w g c L (R ||| S % 2 ^ (64 * 0))) := by
  show RowU _ _ _ _ _
  simpa [Nat.mod_one] using h
 have H1 := Lib.hid h'
 have HF : Hid (newsU R S L = ((R ||| S) != R)) := by
  show _ = _
  unfold newsU; rw [low_full hS]
 have HF2 : Hid ((R ||| S % 2 ^ (64 * L)) = (R ||| S)) := by
  show _ = _
  rw [low_full hS]
 have HZ := Lib.hid (newsU_zero R S)
 clear h h' hS
 go_enter Try.func71, Try.ntmps71
 go_wp2_with fail
 go_loopw [5, 10] (fun b i wr => ∃ k : Nat, k ≤ L ∧ i = .int .i64 (k : Int) ∧ b = .bool (newsU R S k) ∧ Hid (RowU wr g c L (R ||| S % 2 ^ (64 * k))) ∧ Hid (RowU wr g' c' L S) ∧ Hid (But g w wr)) (fun _ i _ => L - (intOf i).toNat)
 case atStart => exact ⟨0, Nat.zero_le _, rfl, by rw [HZ.out], H0, H1, But.refl _ _⟩
 case round =>
  clear H0 H1
  obtain ⟨k, hk, rfl, rfl, HR, HS, HB⟩ := hrel
  by_cases hlt : k < L
  ·have g1 : decide (k < L) = true := decide_eq_true hlt
   have g2 : decide ((k : Int) < (L : Int)) = true := decide_eq_true (by omega)
   obtain ⟨c0, f0⟩ := HR.out.cell hlt
   obtain ⟨d0, -⟩ := HS.out.cell hlt
   rw [wU_join_at] at c0
   have HO : Hid (bits .or .u64 ((wU R k : Nat) : Int) ((wU S k : Nat) : Int) = ((wU R k ||| wU S k : Nat) : Int)) := or64 (wU_lt _ _) (wU_lt _ _)
   have HST := Lib.hid (newsU_step R S k)
   have HN : Hid ((((wU R k ||| wU S k : Nat) : Int) != ((wU R k : Nat) : Int)) = ((wU R k ||| wU S k) != wU R k)) := bneII _ _
   have HR2 : Hid (∀ W, RowU W g c L (R ||| S % 2 ^ (64 * k)) → RowU (W.setCell ⟨g, k, none⟩ (.int .u64 ((wU R k ||| wU S k : Nat) : Int))) g c L (R ||| S % 2 ^ (64 * (k + 1)))) := fun W hW => by
    have := hW.store (R' := R ||| S % 2 ^ (64 * (k + 1))) k (fun i hi => wU_join_ne R S k i hi)
    rw [wU_join_step] at this
    exact this
   generalize newsU R S k = NK at *
   cases NK
   all_goals
    go_wp2_with fail
    go_quiet (fail)
    go_wp2_with fail
    rw [HO.out]
    go_roundw
    case rel =>
     refine ⟨k + 1, hlt, by go_num, ?_, HR2.out _ (HR.out.but (but_drewN (g + 1) _ _) (by omega)), (HS.out.but (but_drewN (g' + 1) _ _) (by omega)).but (But.setCell g k _ _) (Ne.symm hne), (HB.out.trans (but_drewN _ _ nq)).trans (But.setCell _ _ _ _)⟩
     rw [HST.out]
     first | rfl | (rw [HN.out]; rfl) | (simp [HN.out])
    case measure => simp [intOf]; omega
  ·obtain rfl : k = L := by omega
   go_wp2_with fail
   go_ret
   exact ⟨ret_b HF.out, by rw [← HF2.out]; exact HR.out, HB.out⟩
end Go.Proofs.Ytobfpfjdkpaeiaa
