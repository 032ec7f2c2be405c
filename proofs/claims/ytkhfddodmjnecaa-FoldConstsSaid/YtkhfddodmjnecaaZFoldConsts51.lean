/-
 fold's page example answers yes.; Is a module right, and not too large: the walk of the statements' Right.; FoldConsts: the walk.; From a walk to a statement: what was read before a call that only makes new memory reads as before behind it.
-/
import Derived.Test.YtkhfddodmjnecaaZFoldConsts50
import Derived.Test.YtkhfddodmjnecaaZFoldConsts15
import Derived.Test.YtkhfddodmjnecaaZFoldConsts24
import Derived.Test.YtkhfddodmjnecaaZFoldConsts07
import Derived.Test.YtkhfddodmjnecaaZFoldConsts09
import Derived.Test.YtkhfddodmjnecaaZFoldConsts42
import Derived.Test.YtkhfddodmjnecaaZFoldConsts48
import Derived.Test.YtkhfddodmjnecaaZFoldConsts46
import Derived.Test.YtkhfddodmjnecaaZFoldConsts06
import Derived.Test.YtkhfddodmjnecaaRows
import Derived.WalkKit
import Derived.ProofKit
import Derived.OpenShut
import Derived.Lib.SmallJoins
import Derived.Deep.Slices
import Derived.Deep.Fields
import Derived.ChangeSame

set_option linter.all false
namespace Go.Proofs.Ytkhfddodmjnecaa
open Go.ChangeShapes Go.WideShapes Go.ChangeAt Go.RowKit Go.Maps
set_option maxHeartbeats 4000000
set_option maxRecDepth 100000
set_option linter.unusedVariables false

def kI0 : In := ⟨1, 1, -1, -1, 0, 0, 0, 0, 2, [], false⟩
def kI1 : In := ⟨1, 2, -1, -1, 0, 0, 0, 0, 3, [], false⟩
def kI2 : In := ⟨3, 3, 1, 2, 1, 0, 0, 0, 0, [], false⟩
def kI3 : In := ⟨10, -1, 3, -1, 0, 0, 0, 0, 0, [], false⟩
def kP : Pr := ⟨false, 0, 4, [], [⟨[kI0, kI1, kI2, kI3], 3, 0, 0, 0⟩]⟩
theorem kP_run {X : Tb} (h : RunC kP (wkD kP).ord.reverse (X0C kP.blks.length 4) X) : X = X0C 1 4 := by
 induction h with
 | start => rfl
 | step X n t _ hn ht ih =>
  have h0 : n = 0 := by
   have := wkD_ord kP _ (List.mem_reverse.1 hn)
   have hl : kP.blks.length = 1 := rfl
   omega
  subst h0
  rw [ih]; rfl
theorem kP_known : (knwP kP (atB 4 (X0C 1 4))).blks = [⟨[kI0, kI1, constI 3 5, kI3], 3, 0, 0, 0⟩] := by rfl
theorem kP_ins : ∀ n, n < kP.blks.length → InsC 4 (kP.blks.getD n default).ins ∧ (kP.blks.getD n default).ins.length ≤ 100000 := fun n hn => by
 obtain rfl : n = 0 := by have : n < 1 := hn; omega
 refine ⟨⟨fun i hi => ?_, fun i hi => ?_⟩, by decide⟩
 all_goals
  have h : i = kI0 ∨ i = kI1 ∨ i = kI2 ∨ i = kI3 := by simpa [kP, List.getD] using hi
  rcases h with rfl | rfl | rfl | rfl <;> decide
theorem kP_out : ∀ n, n < kP.blks.length → ∀ q ∈ outsB (kP.blks.getD n default), 0 ≤ q ∧ q < (kP.blks.length : Int) := fun n hn q hq => by
 obtain rfl : n = 0 := by have : n < 1 := hn; omega
 have : q ∈ ([] : List Int) := hq
 cases this
def kIns : Obj := .cells #[.int .i64 1, .int .i64 1, .int .i64 (-1), .int .i64 (-1), .int .i64 0, .int .i64 0, .int .i64 0, .int .i64 0, .int .u32 2, .slice none 0 0, .bool false, .int .i64 1, .int .i64 2, .int .i64 (-1), .int .i64 (-1), .int .i64 0, .int .i64 0, .int .i64 0, .int .i64 0, .int .u32 3, .slice none 0 0, .bool false, .int .i64 3, .int .i64 3, .int .i64 1, .int .i64 2, .int .i64 1, .int .i64 0, .int .i64 0, .int .i64 0, .int .u32 0, .slice none 0 0, .bool false, .int .i64 10, .int .i64 (-1), .int .i64 3, .int .i64 (-1), .int .i64 0, .int .i64 0, .int .i64 0, .int .i64 0, .int .u32 0, .slice none 0 0, .bool false] 39
def kBks (w : World) : Obj := .cells #[.slice (some ⟨w.heap.size, 0, none⟩) 4 4, .int .i64 3, .int .i64 0, .int .i64 0, .int .i64 0] 35
theorem awake17_c (w : World) : Calls Try.prog 36 #[] w fun e w' => e = .returned (.bool true) ∧ Below w.heap.size w w' := by
 obtain ⟨W1, hW1⟩ : ∃ W1, W1 = (w.alloc kIns).alloc (kBks w) := ⟨_, rfl⟩
 have hW1' : W1 = allocs w [kIns, kBks w] := hW1
 have B1 : Hid (Below w.heap.size w W1) := by rw [hW1']; exact allocs_below _ _
 have H0 : W1.heap[w.heap.size]? = some kIns := by rw [hW1']; exact allocs_heap _ w 0 (by simp)
 have H1 : W1.heap[w.heap.size + 1]? = some (kBks w) := by rw [hW1']; exact allocs_heap _ w 1 (by simp)
 unfold kIns kBks at hW1
 unfold kIns at H0
 unfold kBks at H1
 have k0 : ∀ j u, (#[Value.int .i64 1, .int .i64 1, .int .i64 (-1), .int .i64 (-1), .int .i64 0, .int .i64 0, .int .i64 0, .int .i64 0, .int .u32 2, .slice none 0 0, .bool false, .int .i64 1, .int .i64 2, .int .i64 (-1), .int .i64 (-1), .int .i64 0, .int .i64 0, .int .i64 0, .int .i64 0, .int .u32 3, .slice none 0 0, .bool false, .int .i64 3, .int .i64 3, .int .i64 1, .int .i64 2, .int .i64 1, .int .i64 0, .int .i64 0, .int .i64 0, .int .u32 0, .slice none 0 0, .bool false, .int .i64 10, .int .i64 (-1), .int .i64 3, .int .i64 (-1), .int .i64 0, .int .i64 0, .int .i64 0, .int .i64 0, .int .u32 0, .slice none 0 0, .bool false])[j]? = some u → W1.cell? ⟨w.heap.size, j, none⟩ = some u := fun j u h => (cell_of_heap H0 j).trans h
 have k1 : ∀ j u, (#[Value.slice (some ⟨w.heap.size, 0, none⟩) 4 4, .int .i64 3, .int .i64 0, .int .i64 0, .int .i64 0])[j]? = some u → W1.cell? ⟨w.heap.size + 1, j, none⟩ = some u := fun j u h => (cell_of_heap H1 j).trans h
 have hnil : ∀ W : World, RdI W (.slice none 0 0) [] := fun W => ⟨none, 0, rfl, Nat.le_refl _, Nat.zero_le _, fun i hi => absurd hi (Nat.not_lt_zero i)⟩
 have hins : RdIns W1 (.slice (some ⟨w.heap.size, 0, none⟩) 4 4) [kI0, kI1, kI2, kI3] := by
  refine ⟨_, _, rfl, Nat.le_refl _, by unfold maxLen; omega, fun i hi => ⟨_, _, rfl, ?_⟩⟩
  have h3 : i = 0 ∨ i = 1 ∨ i = 2 ∨ i = 3 := by simp at hi; omega
  rcases h3 with rfl | rfl | rfl | rfl
  ·exact ⟨k0 0 _ rfl, k0 1 _ rfl, k0 2 _ rfl, k0 3 _ rfl, k0 4 _ rfl, k0 5 _ rfl, k0 6 _ rfl, k0 7 _ rfl, k0 8 _ rfl, ⟨_, k0 9 _ rfl, hnil _⟩, k0 10 _ rfl⟩
  ·exact ⟨k0 11 _ rfl, k0 12 _ rfl, k0 13 _ rfl, k0 14 _ rfl, k0 15 _ rfl, k0 16 _ rfl, k0 17 _ rfl, k0 18 _ rfl, k0 19 _ rfl, ⟨_, k0 20 _ rfl, hnil _⟩, k0 21 _ rfl⟩
  ·exact ⟨k0 22 _ rfl, k0 23 _ rfl, k0 24 _ rfl, k0 25 _ rfl, k0 26 _ rfl, k0 27 _ rfl, k0 28 _ rfl, k0 29 _ rfl, k0 30 _ rfl, ⟨_, k0 31 _ rfl, hnil _⟩, k0 32 _ rfl⟩
  ·exact ⟨k0 33 _ rfl, k0 34 _ rfl, k0 35 _ rfl, k0 36 _ rfl, k0 37 _ rfl, k0 38 _ rfl, k0 39 _ rfl, k0 40 _ rfl, k0 41 _ rfl, ⟨_, k0 42 _ rfl, hnil _⟩, k0 43 _ rfl⟩
 have hbks : RdBks W1 (.slice (some ⟨w.heap.size + 1, 0, none⟩) 1 1) kP.blks := by
  refine ⟨_, _, rfl, Nat.le_refl _, by unfold maxLen; omega, fun i hi => ⟨_, _, rfl, ?_⟩⟩
  obtain rfl : i = 0 := by simp [kP] at hi; omega
  exact ⟨⟨_, k1 0 _ rfl, hins⟩, k1 1 _ rfl, k1 2 _ rfl, k1 3 _ rfl, k1 4 _ rfl⟩
 have hobj : RdSls W1 (.slice none 0 0) [] := ⟨none, 0, rfl, Nat.le_refl _, Nat.zero_le _, fun i hi => absurd hi (Nat.not_lt_zero i)⟩
 have HK := Lib.hid (known_c kP ⟨#[]⟩ (.slice none 0 0) (.slice (some ⟨w.heap.size + 1, 0, none⟩) 1 1) W1 4 ⟨⟨#[]⟩, _, _, rfl, hobj, hbks⟩ rfl (by decide) (by decide) (by decide) (List.length_pos_of_mem (ord_zero kP (by decide))) kP_ins kP_out)
 clear hbks hins hobj hnil k0 k1 H0 H1 hW1'
 go_enter Try.func36, Try.ntmps36
 go_wp2_with fail
 rw [← hW1]
 clear hW1
 refine HK.out.mono ?_
 clear HK
 rintro e w2 ⟨X, vb, rfl, -, hrun, -, hb, hbl⟩
 rw [kP_run hrun, kP_known] at hb
 clear hrun
 have BB := Lib.hid (B1.out.trans (hbl.mono B1.out.size))
 clear hbl B1
 obtain ⟨a1, q1, hq1, -, -, h4⟩ := hb
 obtain ⟨bb, ob, rfl, ⟨⟨va, y0, hva⟩, -, -, -, -⟩⟩ := h4 0 (by decide)
 have hq1 : vb = .slice (some ⟨bb, ob, none⟩) 1 q1 := hq1
 subst hq1
 have hva : RdIns w2 va [kI0, kI1, constI 3 5, kI3] := hva
 obtain ⟨ai, ci, hai, -, -, h5⟩ := hva
 obtain ⟨bi, oi, rfl, hc⟩ := h5 2 (by decide)
 have hai : va = .slice (some ⟨bi, oi, none⟩) 4 ci := hai
 subst hai
 have y0 : w2.cell? ⟨bb, ob, none⟩ = some (.slice (some ⟨bi, oi, none⟩) 4 ci) := y0
 have y1 : w2.cell? ⟨bi, oi + 22, none⟩ = some (.int .i64 1) := hc.op
 have y2 : w2.cell? ⟨bi, oi + 30, none⟩ = some (.int .u32 5) := hc.num
 clear h4 h5 hc
 have lb := World.block_lt_of_cell? _ _ y0
 have li := World.block_lt_of_cell? _ _ y1
 rename_i y9
 clear y9
 go_wp2_with fail
 go_ret
 exact ⟨rfl, BB.out.alloc BB.out.size _⟩
end Go.Proofs.Ytkhfddodmjnecaa

set_option linter.all false
namespace Go.Proofs.Ytkhfddodmjnecaa
open Go.ChangeShapes Go.WideShapes Go.ChangeAt Go.RowKit
set_option maxHeartbeats 4000000
set_option linter.unusedVariables false
set_option maxRecDepth 100000

def rightB (m : Md) (n : Int) : Bool := fewM m && (decide (0 ≤ n) && (decide (n < (m.procs.length : Int)) && (decide ((m.procs.getD n.toNat default).regs ≤ 40) && okM m)))
theorem rightM_c (m : Md) (v : Value) (n : Int) (w : World) (hv : MdV w v m) :
  Calls Try.prog 12 #[v, .int .i64 n] w fun e w' => e = .returned (.bool (rightB m n)) ∧ Below w.heap.size w w' := by
 have HF : Hid (∀ w', Ext w w' → Calls Try.prog 42 #[v] w' fun e w'' => e = .returned (.bool (fewM m)) ∧ Below w'.heap.size w' w'') := fun w' he => few_c m v w' (hv.ext he)
 have HV := Lib.hid hv
 obtain ⟨vg, vd, vp, rfl, hvg, hvd, hvp⟩ := hv
 have hvp' := hvp
 obtain ⟨ap, cp, rfl, hp1, hp2, -⟩ := hvp'
 unfold maxLen at hp2
 have HPS := Lib.hid (RdPrs.at6 hvp).2
 clear hvg hvd hvp
 obtain ⟨W0, hW0⟩ : ∃ W0, W0 = w.alloc (.cells #[vg, vd, .slice ap m.procs.length cp, .int .i64 m.main] 26) := ⟨_, rfl⟩
 have B0 : Hid (Below w.heap.size w W0) := by rw [hW0]; exact below_alloc w _
 have H0 := Lib.hid (heap_of_alloc w _ _ hW0)
 have HW0 := Lib.hid hW0
 clear hW0
 go_enter Try.func12, Try.ntmps12
 go_wp2_with fail
 rw [← HW0.out]
 refine (HF.out W0 (Ext.below B0.out)).mono ?_
 rintro e w1 ⟨rfl, hb1⟩
 have H0 := Lib.hid ((hb1.block w.heap.size (Array.getElem?_eq_some_iff.1 H0.out).1).trans H0.out)
 have BB := Lib.hid (B0.out.trans (hb1.mono B0.out.size))
 clear hb1 HF HW0 B0
 obtain ⟨y0, y1, y2, y3, l0⟩ := cl4 H0.out
 cases hfw : fewM m
 ·have hR : Hid (rightB m n = false) := by show _ = _; unfold rightB; rw [hfw]; rfl
  clear hfw
  go_wp2_with fail
  go_ret
  exact ⟨ret_b hR.out.symm, BB.out⟩
 ·by_cases h0 : 0 ≤ n
  ·obtain ⟨k, rfl⟩ := Int.eq_ofNat_of_zero_le h0
   have g0 : decide (0 ≤ (k : Int)) = true := decide_eq_true (by omega)
   by_cases h1 : k < m.procs.length
   ·have g1 : decide ((k : Int) < (m.procs.length : Int)) = true := decide_eq_true (by omega)
    have g2 : decide (k < m.procs.length) = true := decide_eq_true h1
    obtain ⟨bp, op, tnm, tvo, tvb, hap, hto, htb, t0, t1, t2, t3, t4, t5⟩ := HPS.out k h1
    subst hap
    have hE : Ext w w1 := Ext.below BB.out
    replace t3 := hE _ _ t3
    have lbp : bp < w1.heap.size := World.block_lt_of_cell? w1 _ t3
    clear hto htb t0 t1 t2 t4 t5 hE
    have HRG : Hid (rightB m (k : Int) = (decide ((m.procs.getD k default).regs ≤ 40) && okM m)) := by
     show _ = _
     unfold rightB
     rw [hfw, g0, g1, Int.toNat_natCast]; rfl
    have HSZ := Lib.hid (fewM_sz hfw)
    clear hfw HPS
    generalize (m.procs.getD k default).regs = rg at *
    by_cases h2 : rg ≤ 40
    ·have g3 : decide (rg ≤ 40) = true := decide_eq_true h2
     go_wp2_with fail
     refine (check_c m _ w1 (HV.out.ext (Ext.below BB.out)) HSZ.out).mono ?_
     rintro e w2 ⟨rfl, hb2⟩
     have BB := Lib.hid (BB.out.trans (hb2.mono BB.out.size))
     clear hb2
     cases hok : okM m
     ·have hR : Hid (rightB m (k : Int) = false) := by show _ = _; rw [HRG.out, g3, hok]; rfl
      have hk : okE m = 3 := by unfold okE; rw [hok]; rfl
      rw [hk]
      clear hok hk
      go_wp2_with fail
      go_ret
      exact ⟨ret_b hR.out.symm, BB.out⟩
     ·have hR : Hid (rightB m (k : Int) = true) := by show _ = _; rw [HRG.out, g3, hok]; rfl
      have hk : okE m = 0 := by unfold okE; rw [hok]; rfl
      rw [hk]
      clear hok hk
      go_wp2_with fail
      go_ret
      exact ⟨ret_b hR.out.symm, BB.out⟩
    ·have g3 : decide (rg ≤ 40) = false := decide_eq_false h2
     have hR : Hid (rightB m (k : Int) = false) := by show _ = _; rw [HRG.out, g3]; rfl
     go_wp2_with fail
     go_ret
     exact ⟨ret_b hR.out.symm, BB.out⟩
   ·have g1 : decide ((k : Int) < (m.procs.length : Int)) = false := decide_eq_false (by omega)
    have g2 : decide (k < m.procs.length) = false := decide_eq_false h1
    have hR : Hid (rightB m (k : Int) = false) := by show _ = _; unfold rightB; rw [hfw, g0, g1]; rfl
    clear hfw
    go_wp2_with fail
    go_ret
    exact ⟨ret_b hR.out.symm, BB.out⟩
  ·have g0 : decide (0 ≤ n) = false := decide_eq_false h0
   have hR : Hid (rightB m n = false) := by show _ = _; unfold rightB; rw [hfw, g0]; rfl
   clear hfw
   go_wp2_with fail
   go_ret
   exact ⟨ret_b hR.out.symm, BB.out⟩
theorem rightB_is {m : Md} {n : Int} (h : rightB m n = true) : fewM m = true ∧ ∃ k : Nat, n = (k : Int) ∧ k < m.procs.length ∧ (m.procs.getD k default).regs ≤ 40 ∧ okM m = true := by
 unfold rightB at h
 simp only [Bool.and_eq_true, decide_eq_true_eq] at h
 obtain ⟨h0, h1, h2, h3, h4⟩ := h
 exact ⟨h0, n.toNat, by omega, by omega, h3, h4⟩
end Go.Proofs.Ytkhfddodmjnecaa

set_option linter.all false
namespace Go.Proofs.Ytkhfddodmjnecaa
open Go.ChangeShapes Go.WideShapes Go.ChangeAt Go.RowKit Go.Maps
set_option maxHeartbeats 4000000
set_option maxRecDepth 100000
set_option linter.unusedVariables false

/-- what the program tells is what the document tells -/
theorem told_eq {p : Pr} {R : Nat} (h : FoldOk p R) {X : Tb} (hr : RunC p (wkD p).ord.reverse (X0C p.blks.length R) X) (hs : ∀ n : Nat, (n : Int) ∈ (wkD p).ord.reverse → StillC p X n) {i : Nat} (hi : i < p.blks.length) :
  ((List.range p.blks.length).map fun i => some (endC p R (rdN p R (2 + p.blks.length * (2 + R))) i)).getD i none = some (atB R X i) := by
 have hl := run_len h.b0 h.out hr
 have hk : p.blks.length * (R + 1) ≤ 2 + p.blks.length * (2 + R) := by
  have : p.blks.length * (R + 1) ≤ p.blks.length * (2 + R) := Nat.mul_le_mul_left _ (by omega)
  omega
 rw [← run_rounds h.b0 h.out hl.1 hl.2 hr hs hk]
 have := run_end h.b0 h.out hr hi
 unfold atB
 rw [this]
 simp [List.getD, hi]
/-- both tables -/
structure BothT (p : Pr) (R : Nat) (w : World) (gM cM gD cD : Nat) (bs : List Nat) (ds : List Dr) (F : Nat → Ro) : Prop where
 bl : bs.length = p.blks.length
 m : OwnM w 0 (.slice (some ⟨gM, 0, none⟩) p.blks.length cM) bs
 mp : ∀ j, j < p.blks.length → MapU w (bs.getD j 0) (cntC (F j) R) (cAt (F j))
 fl : ∀ j, j < p.blks.length → (F j).length = R
 d : TbD w 0 (.slice (some ⟨gD, 0, none⟩) p.blks.length cD) ds ((List.range p.blks.length).map fun i => some (F i))
theorem BothT.below {p : Pr} {R : Nat} {w w' : World} {gM cM gD cD : Nat} {bs : List Nat} {ds : List Dr} {F : Nat → Ro} (h : BothT p R w gM cM gD cD bs ds F) (hb : Below w.heap.size w w') : BothT p R w' gM cM gD cD bs ds F :=
 ⟨h.bl, own_below h.m hb, fun j hj => (h.mp j hj).grow hb, h.fl, h.d.below hb⟩
theorem FoldConsts_w (m : Md) (v : Value) (n : Int) (w : World) (hn : MdOk m) (hv : MdV w v m) :
  Calls Try.prog 10 #[v, .int .i64 n] w fun e w' => e = .returned (.bool true) ∧ Below w.heap.size w w' := by
 have HR : Hid (∀ w', Ext w w' → Calls Try.prog 12 #[v, .int .i64 n] w' fun e w'' => e = .returned (.bool (rightB m n)) ∧ Below w'.heap.size w' w'') := fun w' he => rightM_c m v n w' (hv.ext he)
 have HV := Lib.hid hv
 obtain ⟨vg, vd, vp, rfl, hvg, hvd, hvp⟩ := hv
 have hvp' := hvp
 obtain ⟨ap, cp, rfl, hp1, hp2, -⟩ := hvp'
 unfold maxLen at hp2
 have HPS := Lib.hid (RdPrs.at6 hvp).2
 have HN := Lib.hid hn
 clear hvg hvd hvp hn
 obtain ⟨W0, hW0⟩ : ∃ W0, W0 = w.alloc (.cells #[vg, vd, .slice ap m.procs.length cp, .int .i64 m.main] 26) := ⟨_, rfl⟩
 have B0 : Hid (Below w.heap.size w W0) := by rw [hW0]; exact below_alloc w _
 have H0 := Lib.hid (heap_of_alloc w _ _ hW0)
 have HW0 := Lib.hid hW0
 clear hW0
 go_enter Try.func10, Try.ntmps10
 go_wp2_with fail
 rw [← HW0.out]
 refine (HR.out W0 (Ext.below B0.out)).mono ?_
 rintro e w1 ⟨rfl, hb1⟩
 have H0 := Lib.hid ((hb1.block w.heap.size (Array.getElem?_eq_some_iff.1 H0.out).1).trans H0.out)
 have BB := Lib.hid (B0.out.trans (hb1.mono B0.out.size))
 clear hb1 HR HW0 B0
 obtain ⟨y0, y1, y2, y3, l0⟩ := cl4 H0.out
 cases hr : rightB m n
 ·clear hr
  go_wp2_with fail
  refine (awake17_c _).mono ?_
  rintro e w2 ⟨rfl, hb2⟩
  have BB := Lib.hid (BB.out.trans (hb2.mono BB.out.size))
  clear hb2
  go_wp2_with fail
  go_ret
  exact ⟨rfl, BB.out⟩
 ·obtain ⟨hfw, k, rfl, h1, h40, hokm⟩ := rightB_is hr
  clear hr
  have g1 : decide ((k : Int) < (m.procs.length : Int)) = true := decide_eq_true (by omega)
  have g2 : decide (k < m.procs.length) = true := decide_eq_true h1
  obtain ⟨bp, op, tnm, tvo, tvb, hap, hto, htb, t0, t1, t2, t3, t4, t5⟩ := HPS.out k h1
  subst hap
  have hmem : m.procs.getD k default ∈ m.procs := by simp [List.getD, h1]
  have hkp : okP m (m.procs.getD k default) = true := by
   unfold okM at hokm
   simp only [Bool.and_eq_true, List.all_eq_true] at hokm
   exact hokm.2.2.2 _ hmem
  have FOK := Lib.hid (fold_ok hfw hmem hkp h40 (HN.out.procs _ hmem))
  clear hkp hokm hfw hmem HPS HN h40
  generalize m.procs.getD k default = P at *
  obtain ⟨R, hRR⟩ : ∃ R, P.regs.toNat = R := ⟨_, rfl⟩
  rw [hRR] at FOK
  clear hRR
  have HPV : Hid (PrV w (.agg #[.string tnm, .bool P.void, .int .i64 P.params, .int .i64 P.regs, tvo, tvb]) P) := ⟨tnm, tvo, tvb, rfl, hto, htb⟩
  have EC : Hid (∀ w', Ext w w' → Calls Try.prog 37 #[.agg #[.string tnm, .bool P.void, .int .i64 P.params, .int .i64 P.regs, tvo, tvb]] w' (ConstsQ P R w')) := fun w' he =>
   consts_c P _ w' R (HPV.out.ext he) FOK.out.regs (by have := FOK.out.le; omega) FOK.out.b0 (by have := FOK.out.b1; omega) FOK.out.ord (fun n hn => ⟨(FOK.out.ins n hn).1, by have := (FOK.out.ins n hn).2.2; omega⟩) FOK.out.out
  have ED : Hid (∀ w', Ext w w' → Calls Try.prog 38 #[.agg #[.string tnm, .bool P.void, .int .i64 P.params, .int .i64 P.regs, tvo, tvb]] w' (RconQ P R w')) := fun w' he =>
   rcons_c P _ w' R (HPV.out.ext he) FOK.out.regs (by have := FOK.out.le; omega) FOK.out.b0 (by have := FOK.out.b1; omega) (fun n hn => ⟨(FOK.out.ins n hn).1, (FOK.out.ins n hn).2.1, by have := (FOK.out.ins n hn).2.2; omega⟩)
  obtain ⟨ao, co, rfl, -⟩ := hto
  obtain ⟨ab, cb, rfl, hcb1, hcb2, -⟩ := htb
  unfold maxLen at hcb2
  have hE1 : Ext w w1 := Ext.below BB.out
  replace t0 := hE1 _ _ t0
  replace t1 := hE1 _ _ t1
  replace t2 := hE1 _ _ t2
  replace t3 := hE1 _ _ t3
  replace t4 := hE1 _ _ t4
  replace t5 := hE1 _ _ t5
  clear hE1
  have hbl : P.blks.length ≤ 40 := FOK.out.b1
  have hb0 : 0 < P.blks.length := FOK.out.b0
  by_cases h12 : 12 < P.blks.length
  ·have g3 : decide ((12 : Int) < (P.blks.length : Int)) = true := decide_eq_true (by omega)
   clear EC ED FOK HPV
   go_wp2_with fail
   refine (awake17_c _).mono ?_
   rintro e w2 ⟨rfl, hb2⟩
   have BB := Lib.hid (BB.out.trans (hb2.mono BB.out.size))
   clear hb2
   go_wp2_with fail
   go_ret
   exact ⟨rfl, BB.out⟩
  ·have g3 : decide ((12 : Int) < (P.blks.length : Int)) = false := decide_eq_false (by omega)
   go_wp2_with fail
   refine wp_region_junk (fun _ => True) (by kernel_rfl) ?_
   refine J_mobs [0, 1, 2, 3, 4, 6, 7, 8, 9, 10] _ _ _ _ (by kernel_rfl) ?_
   simp only [List.map_cons, List.map_nil, List.getElem?_toArray, List.getElem?_cons_succ, List.getElem?_cons_zero, Option.getD_some, List.size_toArray, List.length_cons, List.length_nil, Nat.reduceAdd, Nat.reduceSub]
   repeat (go_big_quiet_step (fail))
   refine wpQuiet_nil ?_
   clear t0 t1 t2 t3 t4 t5 y0 y1 y2 y3 l0 H0
   refine J_loud1 5 _ rfl (by kernel_rfl) ?_
   simp only [List.getElem_toArray, List.getElem_cons_succ, List.getElem_cons_zero]
   intro wj hj
   go_wp2_with fail
   refine (EC.out wj (Ext.below (BB.out.trans (hj.mono BB.out.size)))).mono ?_
   rintro e w3 ⟨vM, bs, X, rfl, hXl, hbs, hrun, hstl, hM, hmp, hat, hb2⟩
   obtain ⟨gM, cM, rfl⟩ := own_slice hM (by omega)
   go_wp2_with fail
   refine ⟨KeepX.below hb2, ?_⟩
   have hb3 := Lib.hid (hj.trans (hb2.mono hj.size))
   have HRUN := Lib.hid hrun
   have HSTL := Lib.hid hstl
   have HM := Lib.hid hM
   have HMP := Lib.hid hmp
   have HAT := Lib.hid hat
   have B3 := Lib.hid (BB.out.trans (hb3.out.mono BB.out.size))
   clear hrun hstl hM hmp hat hb2 hb3 hj EC hXl BB
   refine J_loud1 11 _ rfl (by kernel_rfl) ?_
   simp only [List.getElem_toArray, List.getElem_cons_succ, List.getElem_cons_zero]
   intro wj hj
   go_wp2_with fail
   refine (ED.out wj (Ext.below (B3.out.trans (hj.mono B3.out.size)))).mono ?_
   rintro e w4 ⟨vD, ds, rfl, hD, hb2⟩
   have hDo := hD.own
   rw [List.length_map, List.length_range] at hDo
   obtain ⟨gD, cD, rfl⟩ := own_slice hDo hb0
   go_wp2_with fail
   refine ⟨KeepX.below hb2, ?_⟩
   have hb3 := Lib.hid (hj.trans (hb2.mono hj.size))
   have BT : Hid (BothT P R w4 gM cM gD cD bs ds (atB R X)) := by
    have hM4 := own_below HM.out hb3.out
    rw [hbs] at hM4
    refine ⟨hbs, ?_, fun j hj => (HMP.out j hj).grow hb3.out, fun j hj => (HAT.out j hj).1, ?_⟩
    ·unfold OwnM; rw [hbs]; exact hM4
    ·rw [show ((List.range P.blks.length).map fun i => some (atB R X i)) = ((List.range P.blks.length).map fun i => some (endC P R (rdN P R (2 + P.blks.length * (2 + R))) i)) by
      refine List.map_congr_left fun i hi => ?_
      have hi := List.mem_range.1 hi
      have := told_eq FOK.out HRUN.out HSTL.out hi
      simpa [List.getD, hi] using this.symm]
     exact hD
   have B4 := Lib.hid (B3.out.trans (hb3.out.mono B3.out.size))
   have hRl := FOK.out.le
   clear hD hDo hb2 hb3 hj ED HRUN HSTL HM HMP HAT B3 FOK HPV hbs
   refine J_mobs [12, 13] _ _ _ _ (by kernel_rfl) ?_
   simp only [List.map_cons, List.map_nil, List.getElem?_toArray, List.getElem?_cons_succ, List.getElem?_cons_zero, Option.getD_some, List.size_toArray, List.length_cons, List.length_nil, Nat.reduceAdd, Nat.reduceSub]
   repeat (go_big_quiet_step (fail))
   refine wpQuiet_nil ?_
   refine J_done (by kernel_rfl) (fun wk hk => ?_) _
   have BT := Lib.hid (BT.out.below hk)
   have BB := Lib.hid (B4.out.trans (hk.mono B4.out.size))
   clear hk B4
   go_wp2_with fail
   go_loopw [7] (fun i wr => ∃ (j : Nat), j ≤ P.blks.length ∧ i = .int .i64 (j : Int) ∧ Hid (BothT P R wr gM cM gD cD bs ds (atB R X)) ∧ Hid (Below w.heap.size w wr)) (fun i _ => P.blks.length - (intOf i).toNat)
   case atStart => exact ⟨0, Nat.zero_le _, rfl, BT, BB⟩
   case round =>
    clear BT BB
    obtain ⟨wq, rfl⟩ : ∃ wq, wq = wr := ⟨wr, rfl⟩
    obtain ⟨j, hj, rfl, BT, BB⟩ := hrel
    by_cases hlt : j < P.blks.length
    ·have g4 : decide (j < P.blks.length) = true := decide_eq_true hlt
     have g5 : decide ((j : Int) < (P.blks.length : Int)) = true := decide_eq_true (by omega)
     have hXl : j < ((List.range P.blks.length).map fun i => some (atB R X i)).length := by simpa using hlt
     have c0 : wq.cell? ⟨gM, j, none⟩ = some (.map (some (bs.getD j 0))) := by
      have hm := BT.out.m
      unfold OwnM at hm
      rw [BT.out.bl] at hm
      refine (World.ownsRow.cellAt hm j (by omega)).trans ?_
      have : j < bs.length := by rw [BT.out.bl]; exact hlt
      simp [List.getD, this]
     obtain ⟨d0, d1, d2⟩ := BT.out.d.at hXl
     have hrow := (BT.out.d.row j hXl).rd
     rw [show ((List.range P.blks.length).map fun i => some (atB R X i)).getD j none = some (atB R X j) by simp [List.getD, hlt]] at hrow
     have HRW := Lib.hid hrow
     have HMP := Lib.hid (BT.out.mp j hlt)
     have HFL := Lib.hid (BT.out.fl j hlt)
     have hcM : P.blks.length ≤ cM ∧ cM ≤ maxLen := by
      have hm := BT.out.m
      unfold OwnM at hm
      rw [BT.out.bl] at hm
      obtain ⟨-, ⟨e, -⟩ | ⟨g', cap, cur, e, -, -, h1, h2, -⟩⟩ := hm
      ·cases e
      ·simp only [Value.slice.injEq] at e
       rw [e.2.2]; exact ⟨h1, h2⟩
     clear hrow hXl
     unfold Dr.v at HRW
     generalize bs.getD j 0 = bm at *
     generalize (ds.getD j default).s = vs at *
     generalize (ds.getD j default).h = vh at *
     generalize (ds.getD j default).n = vn at *
     have lM := World.block_lt_of_cell? _ _ c0
     have lD := World.block_lt_of_cell? _ _ d0
     unfold maxLen at hcM
     go_wp2_with fail
     refine wp_region_junk (fun _ => True) (by kernel_rfl) ?_
     refine J_mobs [0, 1, 2, 3, 4, 5, 6, 7] _ _ _ _ (by kernel_rfl) ?_
     simp only [List.map_cons, List.map_nil, List.getElem?_toArray, List.getElem?_cons_succ, List.getElem?_cons_zero, Option.getD_some, List.size_toArray, List.length_cons, List.length_nil, Nat.reduceAdd, Nat.reduceSub]
     repeat (go_big_quiet_step (fail))
     refine wpQuiet_nil ?_
     clear c0 d0 d1 d2 lM lD
     refine J_loud1 8 _ rfl (by kernel_rfl) ?_
     simp only [List.getElem_toArray, List.getElem_cons_succ, List.getElem_cons_zero]
     intro wj hj
     go_wp2_with fail
     refine (rowM_c bm R _ (atB R X j) wj (HMP.out.grow hj) (HRW.out.ext (Ext.below hj)) HFL.out (by omega)).mono ?_
     rintro e w6 ⟨rfl, hb2⟩
     go_wp2_with fail
     refine ⟨KeepX.below hb2, ?_⟩
     have hb3 := Lib.hid (hj.trans (hb2.mono hj.size))
     clear hj hb2
     refine J_mobs [9] _ _ _ _ (by kernel_rfl) ?_
     simp only [List.map_cons, List.map_nil, List.getElem?_toArray, List.getElem?_cons_succ, List.getElem?_cons_zero, Option.getD_some, List.size_toArray, List.length_cons, List.length_nil, Nat.reduceAdd, Nat.reduceSub]
     repeat (go_big_quiet_step (fail))
     refine wpQuiet_nil ?_
     refine J_done (by kernel_rfl) (fun wk hk => ?_) _
     have BK := Lib.hid (hb3.out.trans (hk.mono hb3.out.size))
     have BT := Lib.hid (BT.out.below BK.out)
     have BB := Lib.hid (BB.out.trans (BK.out.mono BB.out.size))
     clear hk hb3 BK
     go_wp2_with fail
     go_roundw
     case rel => exact ⟨j + 1, hlt, by go_num, BT, BB⟩
     case measure => simp [intOf]; omega
    ·obtain rfl : j = P.blks.length := by omega
     go_wp2_with fail
     refine (awake17_c _).mono ?_
     rintro e w2 ⟨rfl, hb2⟩
     have BB := Lib.hid (BB.out.trans (hb2.mono BB.out.size))
     clear hb2
     go_wp2_with fail
     go_ret
     exact ⟨rfl, BB.out⟩
end Go.Proofs.Ytkhfddodmjnecaa

set_option linter.all false
namespace Go.Proofs.Ytkhfddodmjnecaa
open Go.ChangeShapes Go.WideShapes Go.ChangeAt Go.RowKit

theorem ownKnob_none : ownKnob Try.prog.godebug = none := by kernel_rfl
theorem laidOut_prog : laidOutB Try.prog = true := by kernel_rfl

section
variable {H : Type} {enc : TypeId × Value → H} {P : Program}
theorem trodAll_stays (hl : laidOutB P = true) {W W' : World} (hb : Below W.heap.size W W') : ∀ (ts : List TypeId) (vs : List Value) (ds : List (DataW H)) (ps : List MemPlace),
  ts.all (fun t => P.readableRec t && decide (t < P.types.size)) = true → (∀ p ∈ ps, p.block < W.heap.size) → DataW.TrodAll enc P W 0 (fun _ => true) true ts vs ds ps →
  DataW.TrodAll enc P W' 0 (fun b => decide (b < W.heap.size)) true ts vs ds ps := by
 intro ts
 induction ts with
 | nil =>
  intro vs ds ps _ _ h
  obtain ⟨rfl, rfl, rfl⟩ := trodAll_nil h
  exact trodAll_mk0
 | cons t ts ih =>
  intro vs ds ps hr hlt h
  obtain ⟨v, vs', d, ds', p, q, rfl, rfl, rfl, h0, r0⟩ := trodAll_cons h
  simp only [List.all_cons, Bool.and_eq_true, decide_eq_true_eq] at hr
  refine trodAll_cons_mk ?_ (ih _ _ _ hr.2 (fun x hx => hlt x (List.mem_append_right _ hx)) r0)
  exact Below.trod hl hr.1.1 hr.1.2 h0 hb (fun x hx => hlt x (List.mem_append_left _ hx))
end
end Go.Proofs.Ytkhfddodmjnecaa
