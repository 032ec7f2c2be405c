/-
 The page's example of layer 22 answers yes.; What few modules are like: plain.; Is a module right, and not too large: the walk of the statements' Right.; Alias, plain: the program's rows and the document's lists say the same; bounds of a right procedure.; hazard: which instructions write; a right module's procedure is one that Find takes.
-/
import Derived.Test.YtmcddolkpcgddaaZHazardMarks46
import Derived.Test.YtmcddolkpcgddaaZHazardMarks45
import Derived.Test.YtmcddolkpcgddaaZHazardMarks18
import Derived.Test.YtmcddolkpcgddaaZHazardMarks10
import Derived.Test.YtmcddolkpcgddaaZHazardMarks11
import Derived.Test.YtmcddolkpcgddaaZHazardMarks24
import Derived.Test.YtmcddolkpcgddaaZHazardMarks14
import Derived.Test.YtmcddolkpcgddaaZHazardMarks01

set_option linter.all false
namespace Go.Proofs.Ytmcddolkpcgddaa
open Go.ChangeShapes Go.WideShapes Go.ChangeAt Go.RowKit
set_option maxHeartbeats 4000000
set_option maxRecDepth 100000
set_option linter.unusedVariables false
def gA22 : In := ⟨8, 0, -1, -1, 0, 0, 0, 0, 0, [], false⟩
def ldA22 : In := ⟨5, 1, 0, -1, 0, 0, 0, 4, 0, [], false⟩
def stA22 : In := ⟨6, -1, 0, 1, 0, 0, 0, 4, 0, [], false⟩
def pA22 : Pr := ⟨false, 0, 2, [], [⟨[gA22, ldA22, stA22], 3, 0, 0, 0⟩]⟩
def mA22 : Md := ⟨[⟨4, 4, 0⟩], [[0, 0, 0, 0]], [pA22], 0⟩
def oA22 (w : World) : List Obj := [.cells #[.string ⟨#[]⟩, .int .i64 4, .int .i64 4, .int .i64 0] 92,
 .cells #[.int .i64 8, .int .i64 0, .int .i64 (-1), .int .i64 (-1), .int .i64 0, .int .i64 0, .int .i64 0, .int .i64 0, .int .u32 0, .slice none 0 0, .bool false, .int .i64 5, .int .i64 1, .int .i64 0, .int .i64 (-1), .int .i64 0, .int .i64 0, .int .i64 0, .int .i64 4, .int .u32 0, .slice none 0 0, .bool false, .int .i64 6, .int .i64 (-1), .int .i64 0, .int .i64 1, .int .i64 0, .int .i64 0, .int .i64 0, .int .i64 4, .int .u32 0, .slice none 0 0, .bool false] 58,
 .cells #[.string ⟨#[]⟩, .int .i64 4, .int .i64 4, .int .i64 0] 92,
 .cells #[.int .u8 0, .int .u8 0, .int .u8 0, .int .u8 0] 5,
 .cells #[.slice (some ⟨w.heap.size + 1 + 1 + 1, 0, none⟩) 4 4] 93,
 .cells #[.slice (some ⟨w.heap.size + 1, 0, none⟩) 3 3, .int .i64 3, .int .i64 0, .int .i64 0, .int .i64 0] 51,
 .cells #[.string ⟨#[]⟩, .bool false, .int .i64 0, .int .i64 2, .slice none 0 0, .slice (some ⟨w.heap.size + 1 + 1 + 1 + 1 + 1, 0, none⟩) 1 1] 32,
 .cells #[.slice (some ⟨w.heap.size + 1 + 1, 0, none⟩) 1 1, .slice (some ⟨w.heap.size + 1 + 1 + 1 + 1, 0, none⟩) 1 1, .slice (some ⟨w.heap.size + 1 + 1 + 1 + 1 + 1 + 1, 0, none⟩) 1 1, .int .i64 0] 26]
def vA22 (w : World) : Value := .agg #[.slice (some ⟨w.heap.size + 1 + 1, 0, none⟩) 1 1, .slice (some ⟨w.heap.size + 1 + 1 + 1 + 1, 0, none⟩) 1 1, .slice (some ⟨w.heap.size + 1 + 1 + 1 + 1 + 1 + 1, 0, none⟩) 1 1, .int .i64 0]
theorem mdA22 (w : World) : MdV (allocs w (oA22 w)) (vA22 w) mA22 := by
 have H := allocs_heap (oA22 w) w
 have hi := RdIns.lit (w := allocs w (oA22 w)) (g := w.heap.size + 1) [(gA22, vNil), (ldA22, vNil), (stA22, vNil)] (by simp) (H 1 (by simp [oA22])) (fun x hx => by
  simp only [List.mem_cons, List.not_mem_nil, or_false] at hx
  rcases hx with rfl | rfl | rfl <;> exact RdI.nil _)
 have hb := RdBks.lit (w := allocs w (oA22 w)) (g := w.heap.size + 5) [((⟨_, 3, 0, 0, 0⟩ : Bk), rowOf' (w.heap.size + 1) 3)] (by simp) (H 5 (by simp [oA22])) (fun x hx => by
  simp only [List.mem_cons, List.not_mem_nil, or_false] at hx
  subst hx; exact hi)
 have hs := RdSls.lit (w := allocs w (oA22 w)) (g := w.heap.size + 2) [((⟨4, 4, 0⟩ : Sl), ⟨#[]⟩)] (by simp) (H 2 (by simp [oA22]))
 have hy := RdY.lit (w := allocs w (oA22 w)) (g := w.heap.size + 3) [0, 0, 0, 0] (by simp) (H 3 (by simp [oA22]))
 have hp := RdPrs.lit (w := allocs w (oA22 w)) (g := w.heap.size + 6) [((⟨false, 0, 2, [], _⟩ : Pr), ⟨#[]⟩, vNil, rowOf' (w.heap.size + 5) 1)] (by simp) (H 6 (by simp [oA22])) (fun x hx => by
  simp only [List.mem_cons, List.not_mem_nil, or_false] at hx
  subst hx; exact ⟨RdSls.nil _, hb⟩)
 have h4 := H 4 (by simp [oA22])
 refine ⟨_, _, _, rfl, hs, ⟨_, _, rfl, Nat.le_refl _, by decide, fun i hi => ?_⟩, hp⟩
 have e : i = 0 := by have : i < 1 := hi; omega
 subst e
 exact ⟨_, _, rfl, _, cell_of_heap h4 0, hy⟩
theorem prA22 : PrOk pA22 := by
 refine ⟨by unfold I64; decide, by unfold I64; decide, (fun s hs => by cases hs), fun b hb => ?_⟩
 simp only [pA22, List.mem_singleton] at hb; subst hb
 refine ⟨fun i hi => ?_, by unfold I64; decide, by unfold I64; decide, by unfold I64; decide, by unfold I64; decide⟩
 simp only [List.mem_cons, List.not_mem_nil, or_false] at hi
 rcases hi with rfl | rfl | rfl
 all_goals exact ⟨by unfold I64; decide, by unfold I64; decide, by unfold I64; decide, by unfold I64; decide, by unfold I64; decide, by unfold I64; decide, by unfold I64; decide, by unfold I64; decide, by decide, (fun x hx => by cases hx)⟩
theorem fiA22 : FiA mA22 0 where
 hn := by decide
 pl := by decide
 gl := by decide
 r0 := by decide
 r40 := by decide
 ob := by decide
 ok := by decide
 pr := prA22
 b0 := by decide
 bl := by decide
 il := fun b hb => by
  have hb : b ∈ pA22.blks := hb
  simp only [pA22, List.mem_singleton] at hb; subst hb
  exact ⟨by decide, fun i hi => by
   simp only [List.mem_cons, List.not_mem_nil, or_false] at hi
   rcases hi with rfl | rfl | rfl <;> decide⟩
 ou := fun j hj t ht => by
  have hj : j < 1 := hj
  obtain rfl : j = 0 := by omega
  have ht : t ∈ ([] : List Int) := ht
  cases ht
 ac := fun b hb i hi hm => by
  have hb : b ∈ pA22.blks := hb
  simp only [pA22, List.mem_singleton] at hb; subst hb
  simp only [List.mem_cons, List.not_mem_nil, or_false] at hi
  rcases hi with rfl | rfl | rfl
  ·exact absurd hm (by decide)
  ·exact ⟨⟨by decide, by decide⟩, ⟨by decide, by decide⟩, by decide, by decide⟩
  ·exact ⟨⟨by decide, by decide⟩, ⟨by decide, by decide⟩, by decide, by decide⟩
 hof := fun r => by
  show -100000 ≤ (exF pA22 r).off ∧ (exF pA22 r).off ≤ 100000
  unfold exF
  split
  ·rename_i h
   have h3 : r = 0 ∨ r = 1 := by have : pA22.regs = 2 := rfl; omega
   rcases h3 with rfl | rfl <;> decide
  ·decide
theorem meetA22 {k : VwK} {x : AS} {sp : List Sp} (hbl : k.bs.length = pA22.regs.toNat) (hC : ∀ c ∈ conP pA22, c.holds x.sem) (hsp : ∀ r, r < pA22.regs.toNat → sp.getD r default = spP pA22 r) : meetV k x sp ldA22 stA22 = true := by
 have e0 := exV_exF hbl (by decide) hsp 0
 have f0 : exF pA22 0 = ⟨0, 0, true⟩ := by rfl
 have c0 : (x.regs.getD 0 0).testBit 0 = true := hC (.put 0 0) (by simp [conP, pA22, conB, conI, gA22, stA22, ldA22])
 have hne : ((x.regs.getD 0 0 &&& x.regs.getD 0 0) != 0) = true := by
  rw [bne_iff_ne]
  intro h
  have : (x.regs.getD 0 0 &&& x.regs.getD 0 0).testBit 0 = true := by rw [Nat.testBit_and, c0]; rfl
  rw [h] at this
  simp at this
 unfold meetV
 rw [show ldA22.a = 0 from rfl, show stA22.a = 0 from rfl, e0, f0]
 show (_ && _ && (x.regs.getD 0 0 &&& x.regs.getD 0 0 != 0) && _) = _
 rw [hne]
 rfl
theorem hazA22 {meet : In → In → Bool} (h : meet ldA22 stA22 = true) {X : List Nat} (hS : SoundH [] 1 pA22 X) : hazL [] pA22 meet X 0 = [2] := by
 have h0 : X.getD 0 0 = 0 := by
  apply Nat.eq_of_testBit_eq
  intro y
  rw [Nat.zero_testBit]
  cases hx : (X.getD 0 0).testBit y with
  | false => rfl
  | true =>
   exfalso
   have hw := hS 0 y hx
   generalize hz : (0 : Nat) = z at hw
   cases hw with
   | mk n t hh y hn hw he ht =>
    have hn : n < 1 := hn
    obtain rfl : n = 0 := by omega
    have : ((z : Nat) : Int) ∈ ([] : List Int) := ht
    cases this
 unfold hazL
 rw [h0]
 show (List.range 3).filter _ = _
 have e : List.range 3 = [0, 1, 2] := rfl
 rw [e]
 have k0 : hazH [] (loadsP pA22) meet (hadH [] (loadsP pA22).length pA22 0 0 0) ((pA22.blks.getD 0 default).ins.getD 0 default) = false := rfl
 have k1 : hazH [] (loadsP pA22) meet (hadH [] (loadsP pA22).length pA22 0 1 0) ((pA22.blks.getD 0 default).ins.getD 1 default) = false := rfl
 have k2 : hazH [] (loadsP pA22) meet (hadH [] (loadsP pA22).length pA22 0 2 0) ((pA22.blks.getD 0 default).ins.getD 2 default) = true := by
  unfold hazH
  rw [show ((pA22.blks.getD 0 default).ins.getD 2 default) = stA22 from rfl, show (hadH [] (loadsP pA22).length pA22 0 2 0) = 1 from rfl, show loadsP pA22 = [ldA22] from rfl]
  show (_ || (_ && (List.range 1).any fun x => (1 : Nat).testBit x && meet ([ldA22].getD x default) stA22)) = true
  rw [show List.range 1 = [0] from rfl]
  simp only [List.any_cons, List.any_nil]
  rw [show [ldA22].getD 0 default = ldA22 from rfl, h]
  rfl
 simp only [List.filter_cons, List.filter_nil, k0, k1, k2, if_true, if_false, Bool.false_eq_true]
theorem awake22_c (w : World) : Calls Try.prog 15 #[] w fun e w' => e = .returned (.bool true) ∧ Below w.heap.size w w' := by
 have HB := Lib.hid (allocs_below (oA22 w) w)
 obtain ⟨W0, hW0⟩ : ∃ W0, W0 = allocs w (oA22 w) := ⟨_, rfl⟩
 have HR := Lib.hid (find_c mA22 0 [] (vA22 w) (.slice none 0 0) (allocs w (oA22 w)) (mdA22 w) ⟨none, 0, rfl, Nat.le_refl _, by decide, fun i hi => absurd hi (Nat.not_lt_zero i)⟩ fiA22)
 rw [← hW0] at HB HR
 have HW0 := Lib.hid hW0
 clear hW0
 go_enter Try.func15, Try.ntmps15
 go_wp2_with fail
 have HR2 := HR.out
 rw [HW0.out] at HR2
 refine Calls.mono HR2 ?_
 clear HR2
 rw [← HW0.out]
 rintro e w1 ⟨gP, vs, X, k, x, sp, rfl, hP, hS, hSt, hbl, hkT, hE, hC, hsp, hkp, hN⟩
 have hm := meetA22 (sp := sp) (x := x) hbl hC hsp
 have hz : hazL (cutS pA22 []) pA22 (meetV k x sp) X 0 = [2] := hazA22 hm hS
 have hrow : OwnI w1 (gP + 2) (vs.getD 0 undef) [2] := by
  have h := hP.row 0 (by decide)
  have e : ((List.range (mA22.procs.getD 0 default).blks.length).map fun b => (hazL (cutS (mA22.procs.getD 0 default) []) (mA22.procs.getD 0 default) (meetV k x sp) X b).map fun j : Nat => (j : Int)).getD 0 [] = (hazL (cutS pA22 []) pA22 (meetV k x sp) X 0).map fun j : Nat => (j : Int) := rfl
  rw [e, hz] at h
  exact h
 have HP0 : Hid (w1.cell? ⟨gP, 0, none⟩ = some (vs.getD 0 undef)) := hP.cell (j := 0) (by decide)
 obtain ⟨ar, cr, ev, hr1, hr2, hrc⟩ := OwnI.rd hrow
 obtain ⟨br, or, har, hc⟩ := hrc 0 (by decide)
 subst har
 rw [ev] at HP0
 have hp0 := HP0.out
 unfold maxLen at hr2
 have BB := Lib.hid (HB.out.trans (hP.below.mono HB.out.size))
 simp only [Nat.mul_one, Nat.add_zero] at hc
 have hc : w1.cell? ⟨br, or, none⟩ = some (.int .i64 2) := hc
 clear hP hS hSt hbl hkT hE hC hsp hkp hN hm hz hrow HP0 ev hrc HR HB
 go_wp2_with fail
 go_ret
 exact ⟨rfl, BB.out⟩
end Go.Proofs.Ytmcddolkpcgddaa

set_option linter.all false
namespace Go.Proofs.Ytmcddolkpcgddaa
set_option linter.unusedVariables false

theorem fewM_sz {m : Md} (h : fewM m = true) : SzM m := by
 unfold fewM at h
 simp only [Bool.and_eq_true, List.all_eq_true] at h
 refine ⟨fun p hp => ?_⟩
 have h2 := h.2.2.2 p hp
 unfold prF at h2
 simp only [Bool.and_eq_true, decide_eq_true_eq, List.all_eq_true] at h2
 refine ⟨by omega, fun b hb => ?_⟩
 have h3 := h2.2.2 b hb
 unfold blkF at h3
 simp only [Bool.and_eq_true, decide_eq_true_eq] at h3
 omega
theorem fewM_pr {m : Md} (h : fewM m = true) {p : Pr} (hp : p ∈ m.procs) : p.blks.length ≤ 40 ∧ p.objs.length ≤ 20 ∧ ∀ b ∈ p.blks, b.ins.length ≤ 60 ∧ ∀ i ∈ b.ins, insF i = true := by
 unfold fewM at h
 simp only [Bool.and_eq_true, List.all_eq_true] at h
 have h2 := h.2.2.2 p hp
 unfold prF at h2
 simp only [Bool.and_eq_true, decide_eq_true_eq, List.all_eq_true] at h2
 refine ⟨h2.1, h2.2.1, fun b hb => ?_⟩
 have h3 := h2.2.2 b hb
 unfold blkF at h3
 simp only [Bool.and_eq_true, decide_eq_true_eq, List.all_eq_true] at h3
 exact h3
end Go.Proofs.Ytmcddolkpcgddaa

set_option linter.all false
namespace Go.Proofs.Ytmcddolkpcgddaa
open Go.ChangeShapes Go.WideShapes Go.ChangeAt Go.RowKit
set_option maxHeartbeats 4000000
set_option linter.unusedVariables false
set_option maxRecDepth 100000

def rightB (m : Md) (n : Int) : Bool := fewM m && (decide (0 ≤ n) && (decide (n < (m.procs.length : Int)) && (decide ((m.procs.getD n.toNat default).regs ≤ 40) && okM m)))
theorem rightM_c (m : Md) (v : Value) (n : Int) (w : World) (hv : MdV w v m) :
  Calls Try.prog 8 #[v, .int .i64 n] w fun e w' => e = .returned (.bool (rightB m n)) ∧ Below w.heap.size w w' := by
 have HF : Hid (∀ w', Ext w w' → Calls Try.prog 22 #[v] w' fun e w'' => e = .returned (.bool (fewM m)) ∧ Below w'.heap.size w' w'') := fun w' he => few_c m v w' (hv.ext he)
 have HV := Lib.hid hv
 obtain ⟨vg, vd, vp, rfl, hvg, hvd, hvp⟩ := hv
 have hvp' := hvp
 obtain ⟨ap, cp, rfl, hp1, hp2, -⟩ := hvp'
 unfold maxLen at hp2
 have HPS := Lib.hid (RdPrs.at6 hvp).2
 clear hvg hvd hvp
 obtain ⟨W0, hW0⟩ : ∃ W0, W0 = w.alloc (.cells #[vg, vd, .slice ap m.procs.length cp, .int .i64 m.main] 26) := ⟨_, rfl⟩
 have B0 : Hid (Below w.heap.size w W0) := by rw [hW0]; exact below_alloc w _
 have H0 := Lib.hid (heap_of_alloc w _ _ hW0)
 have HW0 := Lib.hid hW0
 clear hW0
 go_enter Try.func8, Try.ntmps8
 go_wp2_with fail
 rw [← HW0.out]
 refine (HF.out W0 (Ext.below B0.out)).mono ?_
 rintro e w1 ⟨rfl, hb1⟩
 have H0 := Lib.hid ((hb1.block w.heap.size (Array.getElem?_eq_some_iff.1 H0.out).1).trans H0.out)
 have BB := Lib.hid (B0.out.trans (hb1.mono B0.out.size))
 clear hb1 HF HW0 B0
 obtain ⟨y0, y1, y2, y3, l0⟩ := cl4 H0.out
 cases hfw : fewM m
 ·have hR : Hid (rightB m n = false) := by show _ = _; unfold rightB; rw [hfw]; rfl
  clear hfw
  go_wp2_with fail
  go_ret
  exact ⟨ret_b hR.out.symm, BB.out⟩
 ·by_cases h0 : 0 ≤ n
  ·obtain ⟨k, rfl⟩ := Int.eq_ofNat_of_zero_le h0
   have g0 : decide (0 ≤ (k : Int)) = true := decide_eq_true (by omega)
   by_cases h1 : k < m.procs.length
   ·have g1 : decide ((k : Int) < (m.procs.length : Int)) = true := decide_eq_true (by omega)
    have g2 : decide (k < m.procs.length) = true := decide_eq_true h1
    obtain ⟨bp, op, tnm, tvo, tvb, hap, hto, htb, t0, t1, t2, t3, t4, t5⟩ := HPS.out k h1
    subst hap
    have hE : Ext w w1 := Ext.below BB.out
    replace t3 := hE _ _ t3
    have lbp : bp < w1.heap.size := World.block_lt_of_cell? w1 _ t3
    clear hto htb t0 t1 t2 t4 t5 hE
    have HRG : Hid (rightB m (k : Int) = (decide ((m.procs.getD k default).regs ≤ 40) && okM m)) := by
     show _ = _
     unfold rightB
     rw [hfw, g0, g1, Int.toNat_natCast]; rfl
    have HSZ := Lib.hid (fewM_sz hfw)
    clear hfw HPS
    generalize (m.procs.getD k default).regs = rg at *
    by_cases h2 : rg ≤ 40
    ·have g3 : decide (rg ≤ 40) = true := decide_eq_true h2
     go_wp2_with fail
     refine (check_c m _ w1 (HV.out.ext (Ext.below BB.out)) HSZ.out).mono ?_
     rintro e w2 ⟨rfl, hb2⟩
     have BB := Lib.hid (BB.out.trans (hb2.mono BB.out.size))
     clear hb2
     cases hok : okM m
     ·have hR : Hid (rightB m (k : Int) = false) := by show _ = _; rw [HRG.out, g3, hok]; rfl
      have hk : okE m = 3 := by unfold okE; rw [hok]; rfl
      rw [hk]
      clear hok hk
      go_wp2_with fail
      go_ret
      exact ⟨ret_b hR.out.symm, BB.out⟩
     ·have hR : Hid (rightB m (k : Int) = true) := by show _ = _; rw [HRG.out, g3, hok]; rfl
      have hk : okE m = 0 := by unfold okE; rw [hok]; rfl
      rw [hk]
      clear hok hk
      go_wp2_with fail
      go_ret
      exact ⟨ret_b hR.out.symm, BB.out⟩
    ·have g3 : decide (rg ≤ 40) = false := decide_eq_false h2
     have hR : Hid (rightB m (k : Int) = false) := by show _ = _; rw [HRG.out, g3]; rfl
     go_wp2_with fail
     go_ret
     exact ⟨ret_b hR.out.symm, BB.out⟩
   ·have g1 : decide ((k : Int) < (m.procs.length : Int)) = false := decide_eq_false (by omega)
    have g2 : decide (k < m.procs.length) = false := decide_eq_false h1
    have hR : Hid (rightB m (k : Int) = false) := by show _ = _; unfold rightB; rw [hfw, g0, g1]; rfl
    clear hfw
    go_wp2_with fail
    go_ret
    exact ⟨ret_b hR.out.symm, BB.out⟩
  ·have g0 : decide (0 ≤ n) = false := decide_eq_false h0
   have hR : Hid (rightB m n = false) := by show _ = _; unfold rightB; rw [hfw, g0]; rfl
   clear hfw
   go_wp2_with fail
   go_ret
   exact ⟨ret_b hR.out.symm, BB.out⟩
theorem rightB_is {m : Md} {n : Int} (h : rightB m n = true) : fewM m = true ∧ ∃ k : Nat, n = (k : Int) ∧ k < m.procs.length ∧ (m.procs.getD k default).regs ≤ 40 ∧ okM m = true := by
 unfold rightB at h
 simp only [Bool.and_eq_true, decide_eq_true_eq] at h
 obtain ⟨h0, h1, h2, h3, h4⟩ := h
 exact ⟨h0, n.toNat, by omega, by omega, h3, h4⟩
end Go.Proofs.Ytmcddolkpcgddaa

set_option linter.all false
namespace Go.Proofs.Ytmcddolkpcgddaa
set_option linter.unusedVariables false

/-- a procedure of a right module that is not too large -/
structure AlP (m : Md) (p : Pr) : Prop where
 ok : okP m p = true
 pr : PrOk p
 r0 : 0 ≤ p.regs
 r40 : p.regs ≤ 40
 par : p.params ≤ p.regs
 objs : p.objs.length ≤ 20
 globs : m.globs.length ≤ 20
 procs : m.procs.length ≤ 6
 blks : p.blks.length ≤ 40
 ins : ∀ b ∈ p.blks, b.ins.length ≤ 60 ∧ ∀ i ∈ b.ins, i.args.length ≤ 12
theorem alP_of {m : Md} (hf : fewM m = true) (hok : okM m = true) (hm : MdOk m) {k : Nat} (hk : k < m.procs.length) (h40 : (m.procs.getD k default).regs ≤ 40) : AlP m (m.procs.getD k default) := by
 have hmem : m.procs.getD k default ∈ m.procs := by simp [List.getD, hk]
 have hP : okP m (m.procs.getD k default) = true := okM_proc hok hk
 have hH := okP_head hP
 obtain ⟨f1, f2, f3⟩ := fewM_pr hf hmem
 have hf' := hf
 unfold fewM at hf'
 simp only [Bool.and_eq_true, decide_eq_true_eq] at hf'
 refine ⟨hP, hm.procs _ hmem, ?_, h40, hH.pr, f2, hf'.2.1, hf'.1, f1, fun b hb => ⟨(f3 b hb).1, fun i hi => ?_⟩⟩
 ·have := hH.p0; have := hH.pr; omega
 ·have := (f3 b hb).2 i hi
  unfold insF at this
  simp only [Bool.and_eq_true, decide_eq_true_eq] at this
  exact this.2.2
section
variable {m : Md} {p : Pr}
theorem AlP.all (h : AlP m p) : p.blks.all (okB m p) = true := by
 have := h.ok
 unfold okP at this
 simp only [Bool.and_eq_true] at this
 exact this.2
theorem AlP.okI (h : AlP m p) {b : Bk} (hb : b ∈ p.blks) {i : In} (hi : i ∈ b.ins) : okI m p i = true := by
 have h1 := List.all_eq_true.1 h.all b hb
 unfold okB at h1
 rw [Bool.and_eq_true] at h1
 exact List.all_eq_true.1 h1.1 i hi
theorem AlP.cons (h : AlP m p) : ConsOk p (p.objs.length + m.globs.length + 1) := by
 have h := conP_ok (m := m) h.all
 exact ⟨fun c hc => (h c hc).1, fun c hc => (h c hc).2⟩
theorem offF_is {n : Int} (h : offF n = true) : -32768 ≤ n ∧ n ≤ 32768 := by
 unfold offF at h; simpa using h
/-- a load or a store stands where it should -/
theorem okI_acc {i : In} (h : okI m p i = true) (hm : memF i = true) : AccS p.regs.toNat i ∧ AccR p.regs.toNat i := by
 have hop : i.op = 5 ∨ i.op = 6 := by unfold memF at hm; simpa using hm
 obtain ⟨-, -, hn⟩ := okI_parts h
 obtain ⟨-, ha, -, hmo⟩ := hn (by omega)
 have ea : readsA i.op = true := by rcases hop with e | e <;> rw [e] <;> rfl
 rw [ea] at ha
 have h1 := al_reg ha rfl
 unfold moreF at hmo
 rw [if_neg (by omega), if_neg (by omega), if_pos hop] at hmo
 simp only [Bool.and_eq_true, Bool.or_eq_true, beq_iff_eq] at hmo
 have h2 := offF_is hmo.2
 have key : (0 ≤ i.a ∧ i.a < (p.regs.toNat : Int)) ∧ (-100000 ≤ i.off ∧ i.off ≤ 100000) ∧ 1 ≤ i.size ∧ i.size ≤ 4 := by omega
 exact ⟨key, key⟩
theorem spI_off (o : Nat) : ∀ (l : List In) (s : Sp), (∀ i ∈ l, (i.op = 7 ∨ i.op = 8) → -32768 ≤ i.off ∧ i.off ≤ 32768) → (-32768 ≤ s.off ∧ s.off ≤ 32768) → -32768 ≤ (l.foldl (spI o) s).off ∧ (l.foldl (spI o) s).off ≤ 32768
 | [], s, _, h => h
 | i :: l, s, hl, h => by
  refine spI_off o l _ (fun j hj => hl j (List.mem_cons_of_mem _ hj)) ?_
  have h1 := hl i List.mem_cons_self
  unfold spI
  by_cases h7 : i.op = 7
  ·rw [if_pos h7]; exact h1 (.inl h7)
  ·rw [if_neg h7]
   by_cases h8 : i.op = 8
   ·rw [if_pos h8]; exact h1 (.inr h8)
   ·rw [if_neg h8]; exact h
theorem AlP.exF_off (h : AlP m p) (r : Int) : -100000 ≤ (exF p r).off ∧ (exF p r).off ≤ 100000 := by
 unfold exF
 split
 ·split
  ·have := spI_off p.objs.length (defsP p r.toNat) ⟨0, 0, if ((r.toNat : Nat) : Int) < p.params then 1 else 0, false⟩ (fun i hi hop => by
    unfold defsP insP at hi
    rw [List.mem_filter, List.mem_flatMap] at hi
    obtain ⟨⟨b, hb, hib⟩, -⟩ := hi
    obtain ⟨-, -, hn⟩ := okI_parts (h.okI hb hib)
    obtain ⟨-, -, -, hmo⟩ := hn (by omega)
    unfold moreF at hmo
    rcases hop with e | e
    ·rw [if_neg (by omega), if_neg (by omega), if_neg (by omega), if_pos e] at hmo
     simp only [Bool.and_eq_true] at hmo
     exact offF_is hmo.2
    ·rw [if_neg (by omega), if_neg (by omega), if_neg (by omega), if_neg (by omega), if_pos e] at hmo
     simp only [Bool.and_eq_true] at hmo
     exact offF_is hmo.2) ⟨by dsimp only; omega, by dsimp only; omega⟩
   unfold spP
   dsimp only
   omega
  ·exact (by decide : (-100000 : Int) ≤ 0 ∧ (0 : Int) ≤ 100000)
 ·exact (by decide : (-100000 : Int) ≤ 0 ∧ (0 : Int) ≤ 100000)
/-- the program's rows and the document's lists, both at their end -/
structure AlEnds (p : Pr) (T : Nat) (x : AS) (y : AR) : Prop where
 ex : x.End p T
 ey : y.End p T
 cx : ∀ c ∈ conP p, c.holds x.sem
 cy : ∀ c ∈ conP p, c.holds fun o t => (∀ r, o = some r → r < p.regs.toNat) ∧ y.sem o t
 bd : ∀ o t, x.sem o t → t < T
variable {T : Nat} {x : AS} {y : AR}
theorem AlEnds.get (h : AlEnds p T x y) (o : Option Nat) (ho : ∀ r, o = some r → r < p.regs.toNat) (t : Nat) : (y.get o).getD t false = (x.get o).testBit t := by
 have := ends_same h.ex h.ey h.cx h.cy o ho t
 unfold AS.sem AR.sem at this
 rw [Bool.eq_iff_iff]; exact this.symm
theorem AlEnds.reg (h : AlEnds p T x y) {r : Nat} (hr : r < p.regs.toNat) (t : Nat) : (y.regs.getD r []).getD t false = (x.regs.getD r 0).testBit t := h.get (some r) (fun q e => by cases e; exact hr) t
theorem AlEnds.len (h : AlEnds p T x y) {r : Nat} (hr : r < p.regs.toNat) : (y.regs.getD r []).length = T := h.ey.ok.get (some r) fun q e => by cases e; exact hr
theorem AlEnds.any (h : AlEnds p T x y) {a b : Nat} (ha : a < p.regs.toNat) (hb : b < p.regs.toNat) : ((x.regs.getD a 0 &&& x.regs.getD b 0) != 0) = anyB (y.regs.getD a []) (y.regs.getD b []) T := by
 rw [Bool.eq_iff_iff, bne_iff_ne]
 constructor
 ·intro hne
  obtain ⟨t, ht⟩ := Nat.exists_testBit_of_ne_zero hne
  rw [Nat.testBit_and, Bool.and_eq_true] at ht
  unfold anyB
  rw [List.any_eq_true]
  refine ⟨t, List.mem_range.2 (h.bd (some a) t ht.1), ?_⟩
  rw [h.reg ha, h.reg hb, ht.1, ht.2]; rfl
 ·intro hany h0
  unfold anyB at hany
  rw [List.any_eq_true] at hany
  obtain ⟨t, -, ht⟩ := hany
  rw [h.reg ha, h.reg hb, ← Nat.testBit_and, h0] at ht
  simp at ht
end
end Go.Proofs.Ytmcddolkpcgddaa

set_option linter.all false
namespace Go.Proofs.Ytmcddolkpcgddaa
open Go.ChangeShapes Go.WideShapes Go.ChangeAt Go.RowKit
set_option maxHeartbeats 4000000
set_option maxRecDepth 100000
set_option linter.unusedVariables false
theorem bTF22 (b : Bool) : b = false ∨ b = true := by cases b <;> simp
theorem outs_in22 {m : Md} {p : Pr} (h : okP m p = true) : ∀ j, j < p.blks.length → ∀ t ∈ outsB (p.blks.getD j default), 0 ≤ t ∧ t < (p.blks.length : Int) := fun j hj t ht => by
 have he := okB_end (okP_blk h hj)
 generalize p.blks.getD j default = b at *
 unfold endF blockF at he
 by_cases h1 : b.fin = 1
 ·rw [if_pos h1] at he
  rw [outsB_1 b (.inl h1)] at ht
  simp only [Bool.and_eq_true, decide_eq_true_eq] at he
  have e : t = b.to := by simpa using ht
  rw [e]; exact he.1
 ·rw [if_neg h1] at he
  by_cases h2 : b.fin = 2
  ·rw [if_pos h2] at he
   simp only [Bool.and_eq_true, decide_eq_true_eq] at he
   by_cases hc : b.to = b.els
   ·rw [outsB_1 b (.inr ⟨h2, hc⟩)] at ht
    have e : t = b.to := by simpa using ht
    rw [e]; exact he.1
   ·rw [outsB_2 b (fun hh => by rcases hh with hh | hh; exact h1 hh; exact hc hh.2) h2] at ht
    simp only [List.mem_cons, List.not_mem_nil, or_false] at ht
    rcases ht with e | e
    ·rw [e]; exact he.1
    ·rw [e]; exact he.2.1
  ·rw [outsB_3 b h1 h2] at ht
   cases ht
theorem AlP.fi {m : Md} {n : Nat} (h : AlP m (m.procs.getD n default)) (hn : n < m.procs.length) : FiA m n where
 hn := hn
 pl := by have := h.procs; omega
 gl := h.globs
 r0 := h.r0
 r40 := h.r40
 ob := h.objs
 ok := h.ok
 pr := h.pr
 b0 := (okP_head h.ok).b1
 bl := h.blks
 il := fun b hb => ⟨Nat.le_trans (h.ins b hb).1 (by decide), (h.ins b hb).2⟩
 ou := outs_in22 h.ok
 ac := fun b hb i hi hm => (okI_acc (h.okI hb hi) hm).1
 hof := h.exF_off
end Go.Proofs.Ytmcddolkpcgddaa
