/-
 hazard: rows of readings, of several words, in memory; put has join clear.; Hazards, plain: what the program finds is what the document's ways find; a mark more makes none.
-/
import Derived.Test.YtmcddolkpcgddaaZHazardMarks12
import Derived.Test.YtmcddolkpcgddaaZHazardMarks15
import Derived.Lib.SliceRun

set_option linter.all false
namespace Go.Proofs.Ytmcddolkpcgddaa
open Go.ChangeShapes Go.WideShapes Go.ChangeAt Go.RowKit
set_option maxHeartbeats 4000000
set_option maxRecDepth 100000
set_option linter.unusedVariables false

/-- word j of a row -/
def wU (R j : Nat) : Nat := R / 2 ^ (64 * j) % 2 ^ 64
theorem wU_lt (R j : Nat) : wU R j < 2 ^ 64 := Nat.mod_lt _ (Nat.two_pow_pos 64)
theorem wU_bit (R j i : Nat) : (wU R j).testBit i = (decide (i < 64) && R.testBit (64 * j + i)) := by
 unfold wU; rw [Nat.testBit_mod_two_pow, Nat.testBit_div_two_pow, Nat.add_comm]
theorem wU_zero (j : Nat) : wU 0 j = 0 := by unfold wU; simp
theorem wU_or (R S j : Nat) : wU (R ||| S) j = wU R j ||| wU S j := by
 apply Nat.eq_of_testBit_eq
 intro i
 rw [Nat.testBit_or, wU_bit, wU_bit, wU_bit, Nat.testBit_or]
 cases decide (i < 64) <;> simp
theorem wU_put (R n : Nat) : wU (bit1 R n) (n / 64) = wU R (n / 64) ||| 1 <<< (n % 64) := by
 apply Nat.eq_of_testBit_eq
 intro i
 rw [Nat.testBit_or, Nat.one_shiftLeft, Nat.testBit_two_pow, wU_bit, wU_bit, bit1_test]
 by_cases hi : i < 64
 ·rw [decide_eq_true hi]
  simp only [Bool.true_and]
  congr 1
  rw [Bool.eq_iff_iff, decide_eq_true_eq, decide_eq_true_eq]
  omega
 ·have : ¬ n % 64 = i := by omega
  simp [hi, this]
theorem wU_put_ne (R n j : Nat) (h : j ≠ n / 64) : wU (bit1 R n) j = wU R j := by
 apply Nat.eq_of_testBit_eq
 intro i
 rw [wU_bit, wU_bit, bit1_test]
 by_cases hi : i < 64
 ·have : ¬ n = 64 * j + i := by omega
  simp [this]
 ·simp [hi]
theorem wU_low (S k j : Nat) : wU (S % 2 ^ (64 * k)) j = if j < k then wU S j else 0 := by
 apply Nat.eq_of_testBit_eq
 intro i
 rw [wU_bit, Nat.testBit_mod_two_pow]
 by_cases h : j < k
 ·rw [if_pos h, wU_bit]
  by_cases hi : i < 64
  ·have : 64 * j + i < 64 * k := by omega
   simp [this]
  ·simp [hi]
 ·rw [if_neg h]
  have : ¬ 64 * j + i < 64 * k := by omega
  simp [this]
def wordsU (L R : Nat) : List Value := (List.range L).map fun j => .int .u64 ((wU R j : Nat) : Int)
theorem wordsU_len (L R : Nat) : (wordsU L R).length = L := by simp [wordsU]
theorem wordsU_at (L R j : Nat) (h : j < L) : (wordsU L R)[j]? = some (.int .u64 ((wU R j : Nat) : Int)) := by simp [wordsU, h]
theorem wordsU_set (L R R' j : Nat) (h : ∀ i, i ≠ j → wU R' i = wU R i) : (wordsU L R).set j (.int .u64 ((wU R' j : Nat) : Int)) = wordsU L R' := by
 apply List.ext_getElem (by simp [wordsU])
 intro i h1 h2
 rw [List.getElem_set]
 by_cases e : j = i
 ·subst e; simp [wordsU]
 ·rw [if_neg e]; simp [wordsU, h i (Ne.symm e)]
/-- a row of readings in memory, in a block of its own -/
def RowU (w : World) (g c L R : Nat) : Prop := w.ownsRow 0 134 1 (.slice (some ⟨g, 0, none⟩) L c) L (wordsU L R)
theorem RowU.heap {w : World} {g c L R : Nat} (h : RowU w g c L R) : ∃ cur, w.heap[g]? = some (.cells cur 134) := by
 obtain ⟨-, ⟨h2, -⟩ | ⟨g', cap, cur, h2, -, hg, -⟩⟩ := h
 ·simp at h2
 ·simp only [Value.slice.injEq, Option.some.injEq, Addr.mk.injEq, and_true, true_and] at h2
  obtain ⟨rfl, -⟩ := h2
  exact ⟨cur, hg⟩
theorem RowU.lt {w : World} {g c L R : Nat} (h : RowU w g c L R) : g < w.heap.size := by
 obtain ⟨cur, hg⟩ := h.heap; exact (Array.getElem?_eq_some_iff.1 hg).1
theorem RowU.caps {w : World} {g c L R : Nat} (h : RowU w g c L R) : L ≤ c ∧ c ≤ maxLen := by
 obtain ⟨-, ⟨h2, -⟩ | ⟨g', cap, cur, h2, -, hg, hn, hc, -⟩⟩ := h
 ·simp at h2
 ·simp only [Value.slice.injEq, Option.some.injEq, Addr.mk.injEq, and_true, true_and] at h2
  obtain ⟨rfl, rfl⟩ := h2
  exact ⟨hn, hc⟩
theorem RowU.cell {w : World} {g c L R : Nat} (h : RowU w g c L R) {j : Nat} (hj : j < L) : w.cell? ⟨g, j, none⟩ = some (.int .u64 ((wU R j : Nat) : Int)) ∧ w.frozen? ⟨g, j, none⟩ = false := by
 obtain ⟨cur, hg⟩ := h.heap
 refine ⟨(World.ownsRow.cellAt h j (by omega)).trans ?_, frozen_of_heap hg j⟩
 rw [wordsU_at L R j hj]
theorem RowU.below {w w' : World} {g c L R : Nat} (h : RowU w g c L R) (hb : Below w.heap.size w w') : RowU w' g c L R := own_below h hb
theorem RowU.ne {w : World} {g c L R b : Nat} (h : RowU w g c L R) {cs : Array Value} {ty : TypeId} (hb : w.heap[b]? = some (.cells cs ty)) (hty : ty ≠ 134) : g ≠ b := by
 obtain ⟨cur, hg⟩ := h.heap
 intro e
 rw [e, hb] at hg
 simp only [Option.some.injEq, Obj.cells.injEq] at hg
 exact hty hg.2.1
theorem RowU.but {w w' : World} {g c L R b : Nat} (h : RowU w g c L R) (hb : But b w w') (hne : g ≠ b) : RowU w' g c L R :=
 World.ownsRow.kept h (but_grownK hb) (.inr (by simp only [Value.ownBlock]; intro e; exact hne (Option.some.inj e)))
theorem RowU.store {w : World} {g c L R R' : Nat} (h : RowU w g c L R) (j : Nat) (hw : ∀ i, i ≠ j → wU R' i = wU R i) : RowU (w.setCell ⟨g, j, none⟩ (.int .u64 ((wU R' j : Nat) : Int))) g c L R' := by
 have := (World.ownsRow.stored h j (.int .u64 ((wU R' j : Nat) : Int))).1
 rw [wordsU_set L R R' j hw] at this
 exact this
theorem has_wU (R n : Nat) : (bits .and .u64 (((wU R (n / 64) : Nat) : Int) / 2 ^ (n % 64)) 1 == 1) = R.testBit n := by
 have h := has64 (x := wU R (n / 64)) (t := n % 64) (wU_lt _ _) (by omega)
 rw [Nat.mod_mod] at h
 rw [h, wU_bit, decide_eq_true (by omega), Bool.true_and, show 64 * (n / 64) + n % 64 = n by omega]
theorem hhas_c (g c L R n : Nat) (w : World) (h : RowU w g c L R) (hn : n < 64 * L) :
  Calls Try.prog 76 #[.slice (some ⟨g, 0, none⟩) L c, .int .i64 (n : Int)] w fun e w' => e = .returned (.bool (R.testBit n)) ∧ w' = w := by
 obtain ⟨c0, -⟩ := h.cell (j := n / 64) (by omega)
 obtain ⟨hc1, hc2⟩ := h.caps
 unfold maxLen at hc2
 have HH := Lib.hid (has_wU R n)
 have g1 : decide (n / 64 < L) = true := decide_eq_true (by omega)
 have g2 : decide ((n : Int) / 64 < (L : Int)) = true := decide_eq_true (by omega)
 clear h
 go_enter Try.func76, Try.ntmps76
 go_wp2_with fail
 go_ret
 exact ⟨ret_b HH.out, rfl⟩
theorem hput_c (g c L R n : Nat) (w : World) (h : RowU w g c L R) (hn : n < 64 * L) :
  Calls Try.prog 74 #[.slice (some ⟨g, 0, none⟩) L c, .int .i64 (n : Int)] w fun e w' => (∃ v, e = .returned v) ∧ RowU w' g c L (bit1 R n) ∧ But g w w' := by
 obtain ⟨c0, f0⟩ := h.cell (j := n / 64) (by omega)
 obtain ⟨hc1, hc2⟩ := h.caps
 unfold maxLen at hc2
 have H := Lib.hid h
 have g1 : decide (n / 64 < L) = true := decide_eq_true (by omega)
 have g2 : decide ((n : Int) / 64 < (L : Int)) = true := decide_eq_true (by omega)
 have HS : Hid (IntKind.u64.wrap (2 ^ (n % 64)) = ((1 <<< (n % 64) : Nat) : Int)) := by
  have := shl64 (t := n % 64) (by omega)
  rw [Nat.mod_mod] at this
  exact this
 have HO : Hid (bits .or .u64 ((wU R (n / 64) : Nat) : Int) ((1 <<< (n % 64) : Nat) : Int) = ((wU (bit1 R n) (n / 64) : Nat) : Int)) := by
  show _ = _
  rw [or64 (wU_lt _ _) (bit64 (by omega)), wU_put]
 clear h
 go_enter Try.func74, Try.ntmps74
 go_region
 go_wp2_with fail
 rw [HS.out, HO.out]
 go_end0
 exact ⟨⟨_, rfl⟩, H.out.store (R' := bit1 R n) (n / 64) (fun i hi => wU_put_ne R n i hi), (But.setCell g (n / 64) w _).trans (but_drewN _ _ 1)⟩
end Go.Proofs.Ytmcddolkpcgddaa

set_option linter.all false
namespace Go.Proofs.Ytmcddolkpcgddaa
set_option linter.unusedVariables false

def hazH (s : List Bool) (L : List In) (meet : In → In → Bool) (had : Nat) (i : In) : Bool :=
 (spillB s (defI i) && had.testBit (L.length + (defI i).toNat)) || (i.op == 6 && (List.range L.length).any fun x => had.testBit x && meet (L.getD x default) i)
/-- the hazards of a block, as the program tells them -/
def hazL (s : List Bool) (p : Pr) (meet : In → In → Bool) (X : List Nat) (n : Nat) : List Nat :=
 (List.range (p.blks.getD n default).ins.length).filter fun k => hazH s (loadsP p) meet (hadH s (loadsP p).length p n k (X.getD n 0)) ((p.blks.getD n default).ins.getD k default)
theorem spill_pos {s : List Bool} {r : Int} (h : spillB s r = true) : 0 ≤ r ∧ r < s.length ∧ s.getD r.toNat false = true := by
 unfold spillB at h; simpa using h
theorem split_at22 {α : Type} (l : List α) (n : Nat) (d : α) (h : n < l.length) : l = l.take n ++ l.getD n d :: l.drop (n + 1) := by
 have e : l.getD n d = l[n] := by simp [List.getD, h]
 rw [e, ← List.drop_eq_getElem_cons h, List.take_append_drop]
theorem getD_in22 {α : Type} {l : List α} {j : Nat} {d : α} (h : j < l.length) : l.getD j d ∈ l := by simp [List.getD, h]
theorem getD_mid22 {α : Type} (A B : List α) (a d : α) : (A ++ a :: B).getD A.length d = a := by simp [List.getD]
theorem loads_at {p : Pr} {n k : Nat} (hn : n < p.blks.length) (hk : k < (p.blks.getD n default).ins.length) (h5 : ((p.blks.getD n default).ins.getD k default).op = 5) :
  fromP p n + ldN ((p.blks.getD n default).ins.take k) < (loadsP p).length ∧ (loadsP p).getD (fromP p n + ldN ((p.blks.getD n default).ins.take k)) default = (p.blks.getD n default).ins.getD k default := by
 have e1 := split_at22 p.blks n default hn
 have e3 := split_at22 (p.blks.getD n default).ins k default hk
 have f3 : loadsL (p.blks.getD n default).ins = loadsL ((p.blks.getD n default).ins.take k) ++ (p.blks.getD n default).ins.getD k default :: loadsL ((p.blks.getD n default).ins.drop (k + 1)) := by
  conv => lhs; rw [e3]
  unfold loadsL
  rw [List.filter_append, List.filter_cons, if_pos (by simpa using h5)]
 have f1 : loadsP p = (((p.blks.take n).flatMap fun b => loadsL b.ins) ++ loadsL ((p.blks.getD n default).ins.take k)) ++ (p.blks.getD n default).ins.getD k default :: (loadsL ((p.blks.getD n default).ins.drop (k + 1)) ++ (p.blks.drop (n + 1)).flatMap fun b => loadsL b.ins) := by
  unfold loadsP
  conv => lhs; rw [e1]
  rw [List.flatMap_append, List.flatMap_cons, f3]
  simp
 have hl : (((p.blks.take n).flatMap fun b => loadsL b.ins) ++ loadsL ((p.blks.getD n default).ins.take k)).length = fromP p n + ldN ((p.blks.getD n default).ins.take k) := by
  rw [List.length_append]; rfl
 rw [f1, ← hl]
 exact ⟨by simp, getD_mid22 ..⟩
def markI : In := ⟨12, -1, -1, -1, 0, 0, 0, 0, 0, [], false⟩
def markB (b : Bk) (k : Nat) : Bk := ⟨b.ins.take k ++ markI :: b.ins.drop k, b.fin, b.a, b.to, b.els⟩
def markP (p : Pr) (b k : Nat) : Pr := ⟨p.void, p.params, p.regs, p.objs, p.blks.set b (markB (p.blks.getD b default) k)⟩
theorem loadsL_app (l l' : List In) : loadsL (l ++ l') = loadsL l ++ loadsL l' := by unfold loadsL; rw [List.filter_append]
theorem loadsL_mark (l : List In) (k : Nat) : loadsL (l.take k ++ markI :: l.drop k) = loadsL l := by
 rw [loadsL_app, show markI :: l.drop k = [markI] ++ l.drop k from rfl, loadsL_app, show loadsL [markI] = [] from rfl, List.nil_append, ← loadsL_app, List.take_append_drop]
theorem markP_get (p : Pr) (b k n : Nat) (hb : b < p.blks.length) : (markP p b k).blks.getD n default = if n = b then markB (p.blks.getD b default) k else p.blks.getD n default := by
 unfold markP
 simp only [List.getD, List.getElem?_set]
 by_cases e : b = n
 ·subst e; simp [hb]
 ·rw [if_neg e, if_neg (Ne.symm e)]
theorem map_markP (p : Pr) (b k : Nat) (hb : b < p.blks.length) : ((markP p b k).blks.map fun b => loadsL b.ins) = p.blks.map fun b => loadsL b.ins := by
 unfold markP
 dsimp only
 rw [List.map_set]
 apply List.ext_getElem (by simp)
 intro i h1 h2
 rw [List.getElem_set]
 split
 ·rename_i e
  subst e
  have e : p.blks.getD b default = p.blks[b] := by simp [List.getD, hb]
  rw [List.getElem_map, e]
  exact loadsL_mark _ _
 ·rfl
theorem loadsP_mark (p : Pr) (b k : Nat) (hb : b < p.blks.length) : loadsP (markP p b k) = loadsP p := by
 unfold loadsP
 rw [List.flatMap_def, List.flatMap_def, map_markP p b k hb]
theorem fromP_mark (p : Pr) (b k n : Nat) (hb : b < p.blks.length) : fromP (markP p b k) n = fromP p n := by
 unfold fromP
 rw [List.flatMap_def, List.flatMap_def, List.map_take, map_markP p b k hb, ← List.map_take]
theorem blkH_mono (s : List Bool) (NL y : Nat) (l : List In) (h h' ld : Nat) (hh : ∀ z, h.testBit z = true → h'.testBit z = true) (he : (blkH s NL l (h, ld)).1.testBit y = true) : (blkH s NL l (h', ld)).1.testBit y = true := by
 rw [blkH_test] at he ⊢
 rcases he with ⟨h1, h2⟩ | h
 ·exact .inl ⟨hh _ h1, h2⟩
 ·exact .inr h
theorem blkH_app (s : List Bool) (NL : Nat) (l l' : List In) (st : Nat × Nat) : blkH s NL (l ++ l') st = blkH s NL l' (blkH s NL l st) := by unfold blkH; rw [List.foldl_append]
theorem insH_mark (s : List Bool) (NL : Nat) (st : Nat × Nat) : insH s NL st markI = (0, st.2) := by
 unfold insH
 rw [if_pos (by rfl), if_neg (by decide)]
theorem blkH_mark (s : List Bool) (NL y : Nat) (l1 l2 : List In) (h ld : Nat) (he : (blkH s NL (l1 ++ markI :: l2) (h, ld)).1.testBit y = true) : (blkH s NL (l1 ++ l2) (h, ld)).1.testBit y = true := by
 rw [blkH_app] at he ⊢
 rw [show blkH s NL (markI :: l2) (blkH s NL l1 (h, ld)) = blkH s NL l2 (insH s NL (blkH s NL l1 (h, ld)) markI) from rfl, insH_mark] at he
 exact blkH_mono s NL y l2 0 _ _ (fun z hz => by simp at hz) he
theorem eachH_mark (s : List Bool) (NL : Nat) (p : Pr) (b k n ld h y : Nat) (hb : b < p.blks.length) (he : (eachH s NL ((markP p b k).blks.getD n default) ld h).testBit y = true) : (eachH s NL (p.blks.getD n default) ld h).testBit y = true := by
 rw [markP_get p b k n hb] at he
 by_cases e : n = b
 ·subst e
  rw [if_pos rfl] at he
  unfold eachH at he ⊢
  rw [endH_test] at he ⊢
  rcases he with he | he
  ·left
   have := blkH_mark s NL y _ _ _ _ he
   rwa [List.take_append_drop] at this
  ·exact .inr he
 ·rw [if_neg e] at he; exact he
theorem way_mark {s : List Bool} {NL : Nat} {p : Pr} {b k : Nat} (hb : b < p.blks.length) {y n : Nat} (h : WayH s NL (markP p b k) y n) : WayH s NL p y n := by
 induction h with
 | mk n t h y hn hw he ht ih =>
  rw [fromP_mark p b k n hb] at he
  refine .mk n t h y (by simpa [markP] using hn) ih (eachH_mark s NL p b k n _ h y hb he) ?_
  rw [markP_get p b k n hb] at ht
  by_cases e : n = b
  ·subst e; rw [if_pos rfl] at ht; exact ht
  ·rw [if_neg e] at ht; exact ht
theorem hadH_mark {s : List Bool} {NL : Nat} {p : Pr} {b k : Nat} (hb : b < p.blks.length) (hk : k < (p.blks.getD b default).ins.length) {n j : Nat} (hj : j < ((markP p b k).blks.getD n default).ins.length) (h h' y : Nat) (hh : ∀ z, h.testBit z = true → h'.testBit z = true) (he : (hadH s NL (markP p b k) n j h).testBit y = true) :
  ∃ j', j' = (if n = b ∧ k < j then j - 1 else j) ∧ j' < (p.blks.getD n default).ins.length ∧ ((markP p b k).blks.getD n default).ins.getD j default = (p.blks.getD n default).ins.getD j' default ∧ (hadH s NL p n j' h').testBit y = true := by
 unfold hadH at he ⊢
 rw [fromP_mark p b k n hb] at he
 rw [markP_get p b k n hb] at he hj ⊢
 by_cases e : n = b
 ·subst e
  rw [if_pos rfl] at he hj ⊢
  have hlt : ((p.blks.getD n default).ins.take k).length = k := by rw [List.length_take]; omega
  have hjl : j < (p.blks.getD n default).ins.length + 1 := by
   have : (markB (p.blks.getD n default) k).ins.length = (p.blks.getD n default).ins.length + 1 := by
    show ((p.blks.getD n default).ins.take k ++ markI :: (p.blks.getD n default).ins.drop k).length = _
    rw [List.length_append, List.length_cons, List.length_drop, hlt]; omega
   omega
  have hI : (markB (p.blks.getD n default) k).ins = (p.blks.getD n default).ins.take k ++ markI :: (p.blks.getD n default).ins.drop k := rfl
  rw [hI] at he ⊢
  generalize (p.blks.getD n default).ins = I at *
  by_cases c : k < j
  ·rw [if_pos ⟨rfl, c⟩]
   refine ⟨j - 1, rfl, by omega, ?_, ?_⟩
   ·simp only [List.getD]
    rw [List.getElem?_append_right (by omega), hlt, show j - k = (j - 1 - k) + 1 by omega, List.getElem?_cons_succ, List.getElem?_drop, show k + (j - 1 - k) = j - 1 by omega]
   ·rw [List.take_append, hlt, List.take_of_length_le (by omega), show j + 1 - k = (j - k) + 1 by omega, List.take_succ_cons] at he
    have h3 := blkH_mark s NL y _ _ _ _ he
    rw [← List.take_add] at h3
    rw [show j - 1 + 1 = k + (j - k) by omega]
    exact blkH_mono s NL y _ _ _ _ hh h3
  ·rw [if_neg (fun z => c z.2)]
   by_cases c2 : j = k
   ·exfalso
    subst c2
    rw [List.take_append, hlt, List.take_of_length_le (by omega), show j + 1 - j = 0 + 1 by omega, List.take_succ_cons, List.take_zero, blkH_snoc, insH_mark] at he
    simp at he
   ·refine ⟨j, rfl, by omega, ?_, ?_⟩
    ·simp only [List.getD]
     rw [List.getElem?_append_left (by omega), List.getElem?_take, if_pos (by omega)]
    ·rw [List.take_append_of_le_length (by omega), take_take_lt _ _ _ (by omega)] at he
     exact blkH_mono s NL y _ _ _ _ hh he
 ·rw [if_neg e] at he hj ⊢
  rw [if_neg (fun z => e z.1)]
  exact ⟨j, rfl, hj, rfl, blkH_mono s NL y _ _ _ _ hh he⟩
theorem marks_haz {s : List Bool} {p : Pr} {b k : Nat} {meet meet' : In → In → Bool} {X X' : List Nat} (hb : b < p.blks.length) (hk : k < (p.blks.getD b default).ins.length) (h2 : StillH s (loadsP p).length p X) (h1 : SoundH s (loadsP p).length (markP p b k) X')
  {n j : Nat} (hj : j < ((markP p b k).blks.getD n default).ins.length) (hm : ∀ a ∈ loadsP p, ∀ i ∈ (p.blks.getD n default).ins, meet' a i = true → meet a i = true)
  (he : hazH s (loadsP p) meet' (hadH s (loadsP p).length (markP p b k) n j (X'.getD n 0)) (((markP p b k).blks.getD n default).ins.getD j default) = true) :
  (if n = b ∧ k < j then j - 1 else j) < (p.blks.getD n default).ins.length ∧
  hazH s (loadsP p) meet (hadH s (loadsP p).length p n (if n = b ∧ k < j then j - 1 else j) (X.getD n 0)) ((p.blks.getD n default).ins.getD (if n = b ∧ k < j then j - 1 else j) default) = true := by
 have HX : ∀ z, (X'.getD n 0).testBit z = true → (X.getD n 0).testBit z = true := fun z hz => (way_mark hb (h1 n z hz)).in h2
 have key := fun y => hadH_mark (s := s) (NL := (loadsP p).length) hb hk hj (X'.getD n 0) (X.getD n 0) y HX
 generalize hadH s (loadsP p).length (markP p b k) n j (X'.getD n 0) = H' at *
 unfold hazH at he ⊢
 rw [Bool.or_eq_true, Bool.and_eq_true, Bool.and_eq_true, List.any_eq_true] at he
 rcases he with ⟨hs, hb1⟩ | ⟨ho, x, hx, hb1⟩
 ·obtain ⟨j', hj', hl, hi, ht⟩ := key _ hb1
  rw [← hj']
  rw [hi] at hs ht
  exact ⟨hl, by rw [hs, ht]; rfl⟩
 ·rw [Bool.and_eq_true] at hb1
  obtain ⟨j', hj', hl, hi, ht⟩ := key _ hb1.1
  rw [← hj']
  rw [hi] at ho hb1
  refine ⟨hl, ?_⟩
  rw [Bool.or_eq_true, Bool.and_eq_true, Bool.and_eq_true, List.any_eq_true]
  have hx' := List.mem_range.1 hx
  refine .inr ⟨ho, x, hx, ?_⟩
  rw [ht, hm _ (getD_in22 hx') _ (getD_in22 hl) hb1.2]; rfl
end Go.Proofs.Ytmcddolkpcgddaa
