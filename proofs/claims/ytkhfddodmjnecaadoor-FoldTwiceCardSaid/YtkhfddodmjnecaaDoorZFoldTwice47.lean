/-
 What the document has in the place of an instruction, and as a block's end (rushlightref17.Known, Ended).; fold's statements: is a table as the document has it?; fold's page example answers yes.; Is a module right, and not too large: the walk of the statements' Right.; FoldConsts: the walk.; The lines of a procedure, as plain bytes.
-/
import Derived.Test.YtkhfddodmjnecaaDoorZFoldTwice32
import Derived.Test.YtkhfddodmjnecaaDoorZFoldTwice41
import Derived.Test.YtkhfddodmjnecaaDoorZFoldTwice30
import Derived.Test.YtkhfddodmjnecaaDoorZFoldTwice45
import Derived.Test.YtkhfddodmjnecaaDoorZFoldTwice20
import Derived.Test.YtkhfddodmjnecaaDoorZFoldTwice10
import Derived.Test.YtkhfddodmjnecaaDoorZFoldTwice14
import Derived.Test.YtkhfddodmjnecaaDoorZFoldTwice09
import Derived.Test.YtkhfddodmjnecaaDoorZFoldTwice00
import Derived.Lib.ItoaNum

set_option linter.all false
namespace Go.Proofs.YtkhfddodmjnecaaDoor
open Go.ChangeShapes Go.WideShapes Go.ChangeAt Go.RowKit
set_option maxHeartbeats 16000000
set_option maxRecDepth 100000
set_option linter.unusedVariables false

end Go.Proofs.YtkhfddodmjnecaaDoor

set_option linter.all false
namespace Go.Proofs.YtkhfddodmjnecaaDoor
open Go.ChangeShapes Go.WideShapes Go.ChangeAt Go.RowKit Go.Maps
set_option maxHeartbeats 4000000
set_option maxRecDepth 100000
set_option linter.unusedVariables false

end Go.Proofs.YtkhfddodmjnecaaDoor

set_option linter.all false
namespace Go.Proofs.YtkhfddodmjnecaaDoor
open Go.ChangeShapes Go.WideShapes Go.ChangeAt Go.RowKit Go.Maps
set_option maxHeartbeats 4000000
set_option maxRecDepth 100000
set_option linter.unusedVariables false

def kI0 : In := ⟨1, 1, -1, -1, 0, 0, 0, 0, 2, [], false⟩
def kI1 : In := ⟨1, 2, -1, -1, 0, 0, 0, 0, 3, [], false⟩
def kI2 : In := ⟨3, 3, 1, 2, 1, 0, 0, 0, 0, [], false⟩
def kI3 : In := ⟨10, -1, 3, -1, 0, 0, 0, 0, 0, [], false⟩
def kP : Pr := ⟨false, 0, 4, [], [⟨[kI0, kI1, kI2, kI3], 3, 0, 0, 0⟩]⟩
theorem kP_run {X : Tb} (h : RunC kP (wkD kP).ord.reverse (X0C kP.blks.length 4) X) : X = X0C 1 4 := by
 induction h with
 | start => rfl
 | step X n t _ hn ht ih =>
  have h0 : n = 0 := by
   have := wkD_ord kP _ (List.mem_reverse.1 hn)
   have hl : kP.blks.length = 1 := rfl
   omega
  subst h0
  rw [ih]; rfl
theorem kP_known : (knwP kP (atB 4 (X0C 1 4))).blks = [⟨[kI0, kI1, constI 3 5, kI3], 3, 0, 0, 0⟩] := by rfl
theorem kP_ins : ∀ n, n < kP.blks.length → InsC 4 (kP.blks.getD n default).ins ∧ (kP.blks.getD n default).ins.length ≤ 100000 := fun n hn => by
 obtain rfl : n = 0 := by have : n < 1 := hn; omega
 refine ⟨⟨fun i hi => ?_, fun i hi => ?_⟩, by decide⟩
 all_goals
  have h : i = kI0 ∨ i = kI1 ∨ i = kI2 ∨ i = kI3 := by simpa [kP, List.getD] using hi
  rcases h with rfl | rfl | rfl | rfl <;> decide
theorem kP_out : ∀ n, n < kP.blks.length → ∀ q ∈ outsB (kP.blks.getD n default), 0 ≤ q ∧ q < (kP.blks.length : Int) := fun n hn q hq => by
 obtain rfl : n = 0 := by have : n < 1 := hn; omega
 have : q ∈ ([] : List Int) := hq
 cases this
def kIns : Obj := .cells #[.int .i64 1, .int .i64 1, .int .i64 (-1), .int .i64 (-1), .int .i64 0, .int .i64 0, .int .i64 0, .int .i64 0, .int .u32 2, .slice none 0 0, .bool false, .int .i64 1, .int .i64 2, .int .i64 (-1), .int .i64 (-1), .int .i64 0, .int .i64 0, .int .i64 0, .int .i64 0, .int .u32 3, .slice none 0 0, .bool false, .int .i64 3, .int .i64 3, .int .i64 1, .int .i64 2, .int .i64 1, .int .i64 0, .int .i64 0, .int .i64 0, .int .u32 0, .slice none 0 0, .bool false, .int .i64 10, .int .i64 (-1), .int .i64 3, .int .i64 (-1), .int .i64 0, .int .i64 0, .int .i64 0, .int .i64 0, .int .u32 0, .slice none 0 0, .bool false] 40
def kBks (w : World) : Obj := .cells #[.slice (some ⟨w.heap.size, 0, none⟩) 4 4, .int .i64 3, .int .i64 0, .int .i64 0, .int .i64 0] 43
theorem awake17_c (w : World) : Calls Tryd.prog 5 #[] w fun e w' => e = .returned (.bool true) ∧ Below w.heap.size w w' := by
 obtain ⟨W1, hW1⟩ : ∃ W1, W1 = (w.alloc kIns).alloc (kBks w) := ⟨_, rfl⟩
 have hW1' : W1 = allocs w [kIns, kBks w] := hW1
 have B1 : Hid (Below w.heap.size w W1) := by rw [hW1']; exact allocs_below _ _
 have H0 : W1.heap[w.heap.size]? = some kIns := by rw [hW1']; exact allocs_heap _ w 0 (by simp)
 have H1 : W1.heap[w.heap.size + 1]? = some (kBks w) := by rw [hW1']; exact allocs_heap _ w 1 (by simp)
 unfold kIns kBks at hW1
 unfold kIns at H0
 unfold kBks at H1
 have k0 : ∀ j u, (#[Value.int .i64 1, .int .i64 1, .int .i64 (-1), .int .i64 (-1), .int .i64 0, .int .i64 0, .int .i64 0, .int .i64 0, .int .u32 2, .slice none 0 0, .bool false, .int .i64 1, .int .i64 2, .int .i64 (-1), .int .i64 (-1), .int .i64 0, .int .i64 0, .int .i64 0, .int .i64 0, .int .u32 3, .slice none 0 0, .bool false, .int .i64 3, .int .i64 3, .int .i64 1, .int .i64 2, .int .i64 1, .int .i64 0, .int .i64 0, .int .i64 0, .int .u32 0, .slice none 0 0, .bool false, .int .i64 10, .int .i64 (-1), .int .i64 3, .int .i64 (-1), .int .i64 0, .int .i64 0, .int .i64 0, .int .i64 0, .int .u32 0, .slice none 0 0, .bool false])[j]? = some u → W1.cell? ⟨w.heap.size, j, none⟩ = some u := fun j u h => (cell_of_heap H0 j).trans h
 have k1 : ∀ j u, (#[Value.slice (some ⟨w.heap.size, 0, none⟩) 4 4, .int .i64 3, .int .i64 0, .int .i64 0, .int .i64 0])[j]? = some u → W1.cell? ⟨w.heap.size + 1, j, none⟩ = some u := fun j u h => (cell_of_heap H1 j).trans h
 have hnil : ∀ W : World, RdI W (.slice none 0 0) [] := fun W => ⟨none, 0, rfl, Nat.le_refl _, Nat.zero_le _, fun i hi => absurd hi (Nat.not_lt_zero i)⟩
 have hins : RdIns W1 (.slice (some ⟨w.heap.size, 0, none⟩) 4 4) [kI0, kI1, kI2, kI3] := by
  refine ⟨_, _, rfl, Nat.le_refl _, by unfold maxLen; omega, fun i hi => ⟨_, _, rfl, ?_⟩⟩
  have h3 : i = 0 ∨ i = 1 ∨ i = 2 ∨ i = 3 := by simp at hi; omega
  rcases h3 with rfl | rfl | rfl | rfl
  ·exact ⟨k0 0 _ rfl, k0 1 _ rfl, k0 2 _ rfl, k0 3 _ rfl, k0 4 _ rfl, k0 5 _ rfl, k0 6 _ rfl, k0 7 _ rfl, k0 8 _ rfl, ⟨_, k0 9 _ rfl, hnil _⟩, k0 10 _ rfl⟩
  ·exact ⟨k0 11 _ rfl, k0 12 _ rfl, k0 13 _ rfl, k0 14 _ rfl, k0 15 _ rfl, k0 16 _ rfl, k0 17 _ rfl, k0 18 _ rfl, k0 19 _ rfl, ⟨_, k0 20 _ rfl, hnil _⟩, k0 21 _ rfl⟩
  ·exact ⟨k0 22 _ rfl, k0 23 _ rfl, k0 24 _ rfl, k0 25 _ rfl, k0 26 _ rfl, k0 27 _ rfl, k0 28 _ rfl, k0 29 _ rfl, k0 30 _ rfl, ⟨_, k0 31 _ rfl, hnil _⟩, k0 32 _ rfl⟩
  ·exact ⟨k0 33 _ rfl, k0 34 _ rfl, k0 35 _ rfl, k0 36 _ rfl, k0 37 _ rfl, k0 38 _ rfl, k0 39 _ rfl, k0 40 _ rfl, k0 41 _ rfl, ⟨_, k0 42 _ rfl, hnil _⟩, k0 43 _ rfl⟩
 have hbks : RdBks W1 (.slice (some ⟨w.heap.size + 1, 0, none⟩) 1 1) kP.blks := by
  refine ⟨_, _, rfl, Nat.le_refl _, by unfold maxLen; omega, fun i hi => ⟨_, _, rfl, ?_⟩⟩
  obtain rfl : i = 0 := by simp [kP] at hi; omega
  exact ⟨⟨_, k1 0 _ rfl, hins⟩, k1 1 _ rfl, k1 2 _ rfl, k1 3 _ rfl, k1 4 _ rfl⟩
 have hobj : RdSls W1 (.slice none 0 0) [] := ⟨none, 0, rfl, Nat.le_refl _, Nat.zero_le _, fun i hi => absurd hi (Nat.not_lt_zero i)⟩
 have HK := Lib.hid (known_c kP ⟨#[]⟩ (.slice none 0 0) (.slice (some ⟨w.heap.size + 1, 0, none⟩) 1 1) W1 4 ⟨⟨#[]⟩, _, _, rfl, hobj, hbks⟩ rfl (by decide) (by decide) (by decide) (List.length_pos_of_mem (ord_zero kP (by decide))) kP_ins kP_out)
 clear hbks hins hobj hnil k0 k1 H0 H1 hW1'
 go_enter Tryd.func5, Tryd.ntmps5
 go_wp2_with fail
 rw [← hW1]
 clear hW1
 refine HK.out.mono ?_
 clear HK
 rintro e w2 ⟨X, vb, rfl, -, hrun, -, hb, hbl⟩
 rw [kP_run hrun, kP_known] at hb
 clear hrun
 have BB := Lib.hid (B1.out.trans (hbl.mono B1.out.size))
 clear hbl B1
 obtain ⟨a1, q1, hq1, -, -, h4⟩ := hb
 obtain ⟨bb, ob, rfl, ⟨⟨va, y0, hva⟩, -, -, -, -⟩⟩ := h4 0 (by decide)
 have hq1 : vb = .slice (some ⟨bb, ob, none⟩) 1 q1 := hq1
 subst hq1
 have hva : RdIns w2 va [kI0, kI1, constI 3 5, kI3] := hva
 obtain ⟨ai, ci, hai, -, -, h5⟩ := hva
 obtain ⟨bi, oi, rfl, hc⟩ := h5 2 (by decide)
 have hai : va = .slice (some ⟨bi, oi, none⟩) 4 ci := hai
 subst hai
 have y0 : w2.cell? ⟨bb, ob, none⟩ = some (.slice (some ⟨bi, oi, none⟩) 4 ci) := y0
 have y1 : w2.cell? ⟨bi, oi + 22, none⟩ = some (.int .i64 1) := hc.op
 have y2 : w2.cell? ⟨bi, oi + 30, none⟩ = some (.int .u32 5) := hc.num
 clear h4 h5 hc
 have lb := World.block_lt_of_cell? _ _ y0
 have li := World.block_lt_of_cell? _ _ y1
 rename_i y9
 clear y9
 go_wp2_with fail
 go_ret
 exact ⟨rfl, BB.out.alloc BB.out.size _⟩
end Go.Proofs.YtkhfddodmjnecaaDoor

set_option linter.all false
namespace Go.Proofs.YtkhfddodmjnecaaDoor
open Go.ChangeShapes Go.WideShapes Go.ChangeAt Go.RowKit
set_option maxHeartbeats 4000000
set_option linter.unusedVariables false
set_option maxRecDepth 100000

def rightB (m : Md) (n : Int) : Bool := fewM m && (decide (0 ≤ n) && (decide (n < (m.procs.length : Int)) && (decide ((m.procs.getD n.toNat default).regs ≤ 40) && okM m)))
theorem rightM_c (m : Md) (v : Value) (n : Int) (w : World) (hv : MdV w v m) :
  Calls Tryd.prog 4 #[v, .int .i64 n] w fun e w' => e = .returned (.bool (rightB m n)) ∧ Below w.heap.size w w' := by
 have HF : Hid (∀ w', Ext w w' → Calls Tryd.prog 10 #[v] w' fun e w'' => e = .returned (.bool (fewM m)) ∧ Below w'.heap.size w' w'') := fun w' he => few_c m v w' (hv.ext he)
 have HV := Lib.hid hv
 obtain ⟨vg, vd, vp, rfl, hvg, hvd, hvp⟩ := hv
 have hvp' := hvp
 obtain ⟨ap, cp, rfl, hp1, hp2, -⟩ := hvp'
 unfold maxLen at hp2
 have HPS := Lib.hid (RdPrs.at6 hvp).2
 clear hvg hvd hvp
 obtain ⟨W0, hW0⟩ : ∃ W0, W0 = w.alloc (.cells #[vg, vd, .slice ap m.procs.length cp, .int .i64 m.main] 26) := ⟨_, rfl⟩
 have B0 : Hid (Below w.heap.size w W0) := by rw [hW0]; exact below_alloc w _
 have H0 := Lib.hid (heap_of_alloc w _ _ hW0)
 have HW0 := Lib.hid hW0
 clear hW0
 go_enter Tryd.func4, Tryd.ntmps4
 go_wp2_with fail
 rw [← HW0.out]
 refine (HF.out W0 (Ext.below B0.out)).mono ?_
 rintro e w1 ⟨rfl, hb1⟩
 have H0 := Lib.hid ((hb1.block w.heap.size (Array.getElem?_eq_some_iff.1 H0.out).1).trans H0.out)
 have BB := Lib.hid (B0.out.trans (hb1.mono B0.out.size))
 clear hb1 HF HW0 B0
 obtain ⟨y0, y1, y2, y3, l0⟩ := cl4 H0.out
 cases hfw : fewM m
 ·have hR : Hid (rightB m n = false) := by show _ = _; unfold rightB; rw [hfw]; rfl
  clear hfw
  go_wp2_with fail
  go_ret
  exact ⟨ret_b hR.out.symm, BB.out⟩
 ·by_cases h0 : 0 ≤ n
  ·obtain ⟨k, rfl⟩ := Int.eq_ofNat_of_zero_le h0
   have g0 : decide (0 ≤ (k : Int)) = true := decide_eq_true (by omega)
   by_cases h1 : k < m.procs.length
   ·have g1 : decide ((k : Int) < (m.procs.length : Int)) = true := decide_eq_true (by omega)
    have g2 : decide (k < m.procs.length) = true := decide_eq_true h1
    obtain ⟨bp, op, tnm, tvo, tvb, hap, hto, htb, t0, t1, t2, t3, t4, t5⟩ := HPS.out k h1
    subst hap
    have hE : Ext w w1 := Ext.below BB.out
    replace t3 := hE _ _ t3
    have lbp : bp < w1.heap.size := World.block_lt_of_cell? w1 _ t3
    clear hto htb t0 t1 t2 t4 t5 hE
    have HRG : Hid (rightB m (k : Int) = (decide ((m.procs.getD k default).regs ≤ 40) && okM m)) := by
     show _ = _
     unfold rightB
     rw [hfw, g0, g1, Int.toNat_natCast]; rfl
    have HSZ := Lib.hid (fewM_sz hfw)
    clear hfw HPS
    generalize (m.procs.getD k default).regs = rg at *
    by_cases h2 : rg ≤ 40
    ·have g3 : decide (rg ≤ 40) = true := decide_eq_true h2
     go_wp2_with fail
     refine (check_c m _ w1 (HV.out.ext (Ext.below BB.out)) HSZ.out).mono ?_
     rintro e w2 ⟨rfl, hb2⟩
     have BB := Lib.hid (BB.out.trans (hb2.mono BB.out.size))
     clear hb2
     cases hok : okM m
     ·have hR : Hid (rightB m (k : Int) = false) := by show _ = _; rw [HRG.out, g3, hok]; rfl
      have hk : okE m = 3 := by unfold okE; rw [hok]; rfl
      rw [hk]
      clear hok hk
      go_wp2_with fail
      go_ret
      exact ⟨ret_b hR.out.symm, BB.out⟩
     ·have hR : Hid (rightB m (k : Int) = true) := by show _ = _; rw [HRG.out, g3, hok]; rfl
      have hk : okE m = 0 := by unfold okE; rw [hok]; rfl
      rw [hk]
      clear hok hk
      go_wp2_with fail
      go_ret
      exact ⟨ret_b hR.out.symm, BB.out⟩
    ·have g3 : decide (rg ≤ 40) = false := decide_eq_false h2
     have hR : Hid (rightB m (k : Int) = false) := by show _ = _; rw [HRG.out, g3]; rfl
     go_wp2_with fail
     go_ret
     exact ⟨ret_b hR.out.symm, BB.out⟩
   ·have g1 : decide ((k : Int) < (m.procs.length : Int)) = false := decide_eq_false (by omega)
    have g2 : decide (k < m.procs.length) = false := decide_eq_false h1
    have hR : Hid (rightB m (k : Int) = false) := by show _ = _; unfold rightB; rw [hfw, g0, g1]; rfl
    clear hfw
    go_wp2_with fail
    go_ret
    exact ⟨ret_b hR.out.symm, BB.out⟩
  ·have g0 : decide (0 ≤ n) = false := decide_eq_false h0
   have hR : Hid (rightB m n = false) := by show _ = _; unfold rightB; rw [hfw, g0]; rfl
   clear hfw
   go_wp2_with fail
   go_ret
   exact ⟨ret_b hR.out.symm, BB.out⟩
theorem rightB_is {m : Md} {n : Int} (h : rightB m n = true) : fewM m = true ∧ ∃ k : Nat, n = (k : Int) ∧ k < m.procs.length ∧ (m.procs.getD k default).regs ≤ 40 ∧ okM m = true := by
 unfold rightB at h
 simp only [Bool.and_eq_true, decide_eq_true_eq] at h
 obtain ⟨h0, h1, h2, h3, h4⟩ := h
 exact ⟨h0, n.toNat, by omega, by omega, h3, h4⟩
end Go.Proofs.YtkhfddodmjnecaaDoor

set_option linter.all false
namespace Go.Proofs.YtkhfddodmjnecaaDoor
open Go.ChangeShapes Go.WideShapes Go.ChangeAt Go.RowKit Go.Maps
set_option maxHeartbeats 4000000
set_option maxRecDepth 100000
set_option linter.unusedVariables false

/-- what the program tells is what the document tells -/
theorem told_eq {p : Pr} {R : Nat} (h : FoldOk p R) {X : Tb} (hr : RunC p (wkD p).ord.reverse (X0C p.blks.length R) X) (hs : ∀ n : Nat, (n : Int) ∈ (wkD p).ord.reverse → StillC p X n) {i : Nat} (hi : i < p.blks.length) :
  ((List.range p.blks.length).map fun i => some (endC p R (rdN p R (2 + p.blks.length * (2 + R))) i)).getD i none = some (atB R X i) := by
 have hl := run_len h.b0 h.out hr
 have hk : p.blks.length * (R + 1) ≤ 2 + p.blks.length * (2 + R) := by
  have : p.blks.length * (R + 1) ≤ p.blks.length * (2 + R) := Nat.mul_le_mul_left _ (by omega)
  omega
 rw [← run_rounds h.b0 h.out hl.1 hl.2 hr hs hk]
 have := run_end h.b0 h.out hr hi
 unfold atB
 rw [this]
 simp [List.getD, hi]
end Go.Proofs.YtkhfddodmjnecaaDoor

set_option linter.all false
namespace Go.Proofs.YtkhfddodmjnecaaDoor

/-- numbers, each with a blank ahead -/
def numsF (l : List Int) : List UInt8 := l.flatMap fun n => 32 :: Lib.itoa n
/-- an instruction's line -/
def lineF (i : In) : List UInt8 :=
 numsF [i.op, i.d, i.a, i.b, i.fn, i.obj, i.off, i.size, i.num] ++ numsF i.args ++ (if i.log then [32, 108, 111, 103] else []) ++ [10]
/-- a block's lines, but for the first -/
def linesF (b : Bk) : List UInt8 := b.ins.flatMap lineF
def endF' (b : Bk) : List UInt8 := [32, 101, 110, 100] ++ numsF [b.fin, b.a, b.to, b.els] ++ [10]
def headF (n : Nat) : List UInt8 := 98 :: Lib.itoa n ++ [58, 10]
/-- the lines of the first so many blocks -/
def textN (p : Pr) (k : Nat) : List UInt8 := (List.range k).flatMap fun n => headF n ++ linesF (p.blks.getD n default) ++ endF' (p.blks.getD n default)
def textF (p : Pr) : List UInt8 := textN p p.blks.length
theorem textN_succ (p : Pr) (k : Nat) : textN p (k + 1) = textN p k ++ (headF k ++ linesF (p.blks.getD k default) ++ endF' (p.blks.getD k default)) := by
 unfold textN
 rw [List.range_succ, List.flatMap_append]
 simp
end Go.Proofs.YtkhfddodmjnecaaDoor
