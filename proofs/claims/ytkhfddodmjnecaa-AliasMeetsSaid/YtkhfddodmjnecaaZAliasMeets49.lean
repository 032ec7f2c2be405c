/-
 Outcomes compared; the worked example of layer 14.; The page's example of layer 21 answers yes.
-/
import Derived.Test.YtkhfddodmjnecaaZAliasMeets34
import Derived.Test.YtkhfddodmjnecaaZAliasMeets26
import Derived.Test.YtkhfddodmjnecaaZAliasMeets11
import Derived.Test.YtkhfddodmjnecaaZAliasMeets36
import Derived.Test.YtkhfddodmjnecaaZAliasMeets38
import Derived.Test.YtkhfddodmjnecaaZAliasMeets48

set_option linter.all false
namespace Go.Proofs.Ytkhfddodmjnecaa
open Go.ChangeShapes Go.WideShapes Go.ChangeAt Go.RowKit
set_option maxHeartbeats 8000000
set_option linter.unusedVariables false
set_option maxRecDepth 100000

end Go.Proofs.Ytkhfddodmjnecaa

set_option linter.all false
namespace Go.Proofs.Ytkhfddodmjnecaa
open Go.ChangeShapes Go.WideShapes Go.ChangeAt Go.RowKit
set_option maxHeartbeats 4000000
set_option maxRecDepth 100000
set_option linter.unusedVariables false

theorem exV_exF {k : VwK} {sp : List Sp} {P : Pr} (hbl : k.bs.length = P.regs.toNat) (h0 : 0 ≤ P.regs) (hsp : ∀ r, r < P.regs.toNat → sp.getD r default = spP P r) (r : Int) : exV k sp r = exF P r := by
 unfold exV exF
 by_cases h : 0 ≤ r ∧ r < P.regs
 ·rw [if_pos (by rw [hbl]; omega), if_pos h, hsp r.toNat (by omega)]
 ·rw [if_neg (by rw [hbl]; omega), if_neg h]
def stA21 : In := ⟨6, -1, 0, 2, 0, 0, 0, 4, 0, [], false⟩
def ldA21 : In := ⟨5, 2, 1, -1, 0, 0, 0, 4, 0, [], false⟩
def farA21 : In := ⟨6, -1, 0, 2, 0, 0, 4, 4, 0, [], false⟩
def pA21 : Pr := ⟨false, 0, 3, [⟨8, 4, 0⟩], [⟨[⟨7, 0, -1, -1, 0, 0, 0, 0, 0, [], false⟩, ⟨7, 1, -1, -1, 0, 0, 4, 0, 0, [], false⟩, stA21, ldA21], 3, 2, 0, 0⟩]⟩
def mA21 : Md := ⟨[], [], [pA21], 0⟩
def oA21 (w : World) : List Obj := [.cells #[.int .i64 6, .int .i64 (-1), .int .i64 0, .int .i64 2, .int .i64 0, .int .i64 0, .int .i64 0, .int .i64 4, .int .u32 0, .slice none 0 0, .bool false] 39, .cells #[.int .i64 5, .int .i64 2, .int .i64 1, .int .i64 (-1), .int .i64 0, .int .i64 0, .int .i64 0, .int .i64 4, .int .u32 0, .slice none 0 0, .bool false] 39, .cells #[.string ⟨#[]⟩, .int .i64 8, .int .i64 4, .int .i64 0] 89,
 .cells #[.int .i64 7, .int .i64 0, .int .i64 (-1), .int .i64 (-1), .int .i64 0, .int .i64 0, .int .i64 0, .int .i64 0, .int .u32 0, .slice none 0 0, .bool false, .int .i64 7, .int .i64 1, .int .i64 (-1), .int .i64 (-1), .int .i64 0, .int .i64 0, .int .i64 4, .int .i64 0, .int .u32 0, .slice none 0 0, .bool false, .int .i64 6, .int .i64 (-1), .int .i64 0, .int .i64 2, .int .i64 0, .int .i64 0, .int .i64 0, .int .i64 4, .int .u32 0, .slice none 0 0, .bool false, .int .i64 5, .int .i64 2, .int .i64 1, .int .i64 (-1), .int .i64 0, .int .i64 0, .int .i64 0, .int .i64 4, .int .u32 0, .slice none 0 0, .bool false] 39,
 .cells #[.slice (some ⟨w.heap.size + 1 + 1 + 1, 0, none⟩) 4 4, .int .i64 3, .int .i64 2, .int .i64 0, .int .i64 0] 35,
 .cells #[.string ⟨#[]⟩, .bool false, .int .i64 0, .int .i64 3, .slice (some ⟨w.heap.size + 1 + 1, 0, none⟩) 1 1, .slice (some ⟨w.heap.size + 1 + 1 + 1 + 1, 0, none⟩) 1 1] 32,
 .cells #[.string ⟨#[]⟩, .bool false, .int .i64 0, .int .i64 3, .slice (some ⟨w.heap.size + 1 + 1, 0, none⟩) 1 1, .slice (some ⟨w.heap.size + 1 + 1 + 1 + 1, 0, none⟩) 1 1] 32]
theorem mdA21 (w : World) : MdV (allocs w (oA21 w)) (.agg #[.slice none 0 0, .slice none 0 0, .slice (some ⟨w.heap.size + 1 + 1 + 1 + 1 + 1 + 1, 0, none⟩) 1 1, .int .i64 0]) mA21 := by
 have H := allocs_heap (oA21 w) w
 have hi := RdIns.lit (w := allocs w (oA21 w)) (g := w.heap.size + 3) [((⟨7, 0, -1, -1, 0, 0, 0, 0, 0, [], false⟩ : In), vNil), ((⟨7, 1, -1, -1, 0, 0, 4, 0, 0, [], false⟩ : In), vNil), (stA21, vNil), (ldA21, vNil)] (by simp) (H 3 (by simp [oA21])) (fun x hx => by
  simp only [List.mem_cons, List.not_mem_nil, or_false] at hx
  rcases hx with rfl | rfl | rfl | rfl <;> exact RdI.nil _)
 have hb := RdBks.lit (w := allocs w (oA21 w)) (g := w.heap.size + 4) [((⟨_, 3, 2, 0, 0⟩ : Bk), rowOf' (w.heap.size + 3) 4)] (by simp) (H 4 (by simp [oA21])) (fun x hx => by
  simp only [List.mem_cons, List.not_mem_nil, or_false] at hx
  subst hx; exact hi)
 have hs := RdSls.lit (w := allocs w (oA21 w)) (g := w.heap.size + 2) [((⟨8, 4, 0⟩ : Sl), ⟨#[]⟩)] (by simp) (H 2 (by simp [oA21]))
 have hp := RdPrs.lit (w := allocs w (oA21 w)) (g := w.heap.size + 6) [((⟨false, 0, 3, [⟨8, 4, 0⟩], _⟩ : Pr), ⟨#[]⟩, rowOf' (w.heap.size + 2) 1, rowOf' (w.heap.size + 4) 1)] (by simp) (H 6 (by simp [oA21])) (fun x hx => by
  simp only [List.mem_cons, List.not_mem_nil, or_false] at hx
  subst hx; exact ⟨hs, hb⟩)
 exact ⟨_, _, _, rfl, RdSls.nil _, RdYs.nil _, hp⟩
theorem prA21 : PrOk pA21 := by
 refine ⟨by unfold I64; decide, by unfold I64; decide, fun s hs => ?_, fun b hb => ?_⟩
 ·simp only [pA21, List.mem_singleton] at hs; subst hs
  exact ⟨by unfold I64; decide, by unfold I64; decide, by unfold I64; decide⟩
 ·simp only [pA21, List.mem_singleton] at hb; subst hb
  refine ⟨fun i hi => ?_, by unfold I64; decide, by unfold I64; decide, by unfold I64; decide, by unfold I64; decide⟩
  simp only [List.mem_cons, List.not_mem_nil, or_false] at hi
  rcases hi with rfl | rfl | rfl | rfl
  all_goals exact ⟨by unfold I64; decide, by unfold I64; decide, by unfold I64; decide, by unfold I64; decide, by unfold I64; decide, by unfold I64; decide, by unfold I64; decide, by unfold I64; decide, by decide, (fun x hx => by cases hx)⟩
theorem newA21 (w : World) : Calls Try.prog 14 #[.agg #[.slice none 0 0, .slice none 0 0, .slice (some ⟨w.heap.size + 1 + 1 + 1 + 1 + 1 + 1, 0, none⟩) 1 1, .int .i64 0], .int .i64 0] (allocs w (oA21 w)) (NewP mA21 pA21 (allocs w (oA21 w))) :=
 new_c mA21 _ 0 _ (mdA21 w) (by decide) (by decide) (by decide) (by decide) (by decide) (by decide) (by decide) prA21 ⟨by decide, fun b hb => by
  have hb : b ∈ pA21.blks := hb
  simp only [pA21, List.mem_singleton] at hb; subst hb
  exact ⟨by decide, fun i hi => by
   simp only [List.mem_cons, List.not_mem_nil, or_false] at hi
   rcases hi with rfl | rfl | rfl | rfl <;> decide⟩⟩
theorem meetA21 {k : VwK} {x : AS} {sp : List Sp} (hbl : k.bs.length = pA21.regs.toNat) (hC : ∀ c ∈ conP pA21, c.holds x.sem) (hsp : ∀ r, r < pA21.regs.toNat → sp.getD r default = spP pA21 r) : meetV k x sp stA21 ldA21 = false ∧ meetV k x sp farA21 ldA21 = true := by
 have e0 := exV_exF hbl (by decide) hsp 0
 have e1 := exV_exF hbl (by decide) hsp 1
 have f0 : exF pA21 0 = ⟨0, 0, true⟩ := by rfl
 have f1 : exF pA21 1 = ⟨0, 4, true⟩ := by rfl
 have c0 : (x.regs.getD 0 0).testBit 0 = true := hC (.put 0 0) (by simp [conP, pA21, conB, conI, stA21, ldA21])
 have c1 : (x.regs.getD 1 0).testBit 0 = true := hC (.put 0 1) (by simp [conP, pA21, conB, conI, stA21, ldA21])
 have hne : ((x.regs.getD 0 0 &&& x.regs.getD 1 0) != 0) = true := by
  rw [bne_iff_ne]
  intro h
  have : (x.regs.getD 0 0 &&& x.regs.getD 1 0).testBit 0 = true := by rw [Nat.testBit_and, c0, c1]; rfl
  rw [h] at this
  simp at this
 constructor
 ·unfold meetV
  rw [show stA21.a = 0 from rfl, show ldA21.a = 1 from rfl, e0, e1, f0, f1]
  show (_ && _ && (x.regs.getD 0 0 &&& x.regs.getD 1 0 != 0) && _) = _
  rw [hne]
  rfl
 ·unfold meetV
  rw [show farA21.a = 0 from rfl, show ldA21.a = 1 from rfl, e0, e1, f0, f1]
  show (_ && _ && (x.regs.getD 0 0 &&& x.regs.getD 1 0 != 0) && _) = _
  rw [hne]
  rfl
theorem awake21_c (w : World) : Calls Try.prog 13 #[] w fun e w' => e = .returned (.bool true) ∧ Below w.heap.size w w' := by
 have HB := Lib.hid (allocs_below (oA21 w) w)
 obtain ⟨W0, hW0⟩ : ∃ W0, W0 = allocs w (oA21 w) := ⟨_, rfl⟩
 have HR := Lib.hid (newA21 w)
 rw [← hW0] at HB HR
 have H := allocs_heap (oA21 w) w
 rw [← hW0] at H
 have H0 := Lib.hid (H 0 (by simp [oA21]))
 have H1 := Lib.hid (H 1 (by simp [oA21]))
 clear H
 have HW0 := Lib.hid hW0
 clear hW0
 go_enter Try.func13, Try.ntmps13
 go_wp2_with fail
 have HR2 := HR.out
 rw [HW0.out] at HR2
 refine Calls.mono HR2 ?_
 clear HR2
 rw [← HW0.out]
 rintro e w1 ⟨k, x, sp, rfl, V, hkp, hbl, hT, hE, hC, hsp, hN⟩
 have M := meetA21 hbl hC hsp
 have hacc : ∀ i : In, i = stA21 ∨ i = ldA21 ∨ i = farA21 → AccS k.bs.length i := fun i hi => by
  rw [hbl]
  rcases hi with rfl | rfl | rfl
  all_goals exact ⟨⟨by decide, by decide⟩, ⟨by decide, by decide⟩, by decide, by decide⟩
 have hof : ∀ r, -100000 ≤ (exV k sp r).off ∧ (exV k sp r).off ≤ 100000 := fun r => by
  rw [exV_exF hbl (by decide) hsp r]
  unfold exF
  split
  ·rename_i h
   have h3 : r = 0 ∨ r = 1 ∨ r = 2 := by have : pA21.regs = 3 := rfl; omega
   rcases h3 with rfl | rfl | rfl <;> decide
  ·decide
 have HM1 : Hid (∀ W, Below w1.heap.size w1 W → Calls Try.prog 17 #[.pointer (some ⟨k.bv, 0, none⟩), .agg #[.int .i64 6, .int .i64 (-1), .int .i64 0, .int .i64 2, .int .i64 0, .int .i64 0, .int .i64 0, .int .i64 4, .int .u32 0, .slice none 0 0, .bool false], .agg #[.int .i64 5, .int .i64 2, .int .i64 1, .int .i64 (-1), .int .i64 0, .int .i64 0, .int .i64 0, .int .i64 4, .int .u32 0, .slice none 0 0, .bool false]] W fun e w' => e = .returned (.bool false) ∧ Below W.heap.size W w') := fun W hW => by
  have h := meetV_c W0 k x sp stA21 ldA21 (.slice none 0 0) (.slice none 0 0) W (V.grow hW) (by rw [hbl]; decide) (fun _ => hacc _ (.inl rfl)) (fun _ => hacc _ (.inr (.inl rfl))) hof
  rw [M.1] at h
  exact h
 have HM2 : Hid (∀ W, Below w1.heap.size w1 W → Calls Try.prog 17 #[.pointer (some ⟨k.bv, 0, none⟩), .agg #[.int .i64 6, .int .i64 (-1), .int .i64 0, .int .i64 2, .int .i64 0, .int .i64 0, .int .i64 4, .int .i64 4, .int .u32 0, .slice none 0 0, .bool false], .agg #[.int .i64 5, .int .i64 2, .int .i64 1, .int .i64 (-1), .int .i64 0, .int .i64 0, .int .i64 0, .int .i64 4, .int .u32 0, .slice none 0 0, .bool false]] W fun e w' => e = .returned (.bool true) ∧ Below W.heap.size W w') := fun W hW => by
  have h := meetV_c W0 k x sp farA21 ldA21 (.slice none 0 0) (.slice none 0 0) W (V.grow hW) (by rw [hbl]; decide) (fun _ => hacc _ (.inr (.inr rfl))) (fun _ => hacc _ (.inr (.inl rfl))) hof
  rw [M.2] at h
  exact h
 have BV := Lib.hid V.below
 have B0 : Hid (w1.heap[w.heap.size]? = some (.cells #[.int .i64 6, .int .i64 (-1), .int .i64 0, .int .i64 2, .int .i64 0, .int .i64 0, .int .i64 0, .int .i64 4, .int .u32 0, .slice none 0 0, .bool false] 39)) := (BV.out.block _ (Array.getElem?_eq_some_iff.1 (show W0.heap[w.heap.size]? = some (.cells #[.int .i64 6, .int .i64 (-1), .int .i64 0, .int .i64 2, .int .i64 0, .int .i64 0, .int .i64 0, .int .i64 4, .int .u32 0, .slice none 0 0, .bool false] 39) from H0.out)).1).trans H0.out
 have B1 : Hid (w1.heap[w.heap.size + 1]? = some (.cells #[.int .i64 5, .int .i64 2, .int .i64 1, .int .i64 (-1), .int .i64 0, .int .i64 0, .int .i64 0, .int .i64 4, .int .u32 0, .slice none 0 0, .bool false] 39)) := (BV.out.block _ (Array.getElem?_eq_some_iff.1 (show W0.heap[w.heap.size + 1]? = some (.cells #[.int .i64 5, .int .i64 2, .int .i64 1, .int .i64 (-1), .int .i64 0, .int .i64 0, .int .i64 0, .int .i64 4, .int .u32 0, .slice none 0 0, .bool false] 39) from H1.out)).1).trans H1.out
 have BB := Lib.hid (HB.out.trans (BV.out.mono HB.out.size))
 clear V hkp hbl hT hE hC hsp hN M hacc hof H0 H1 BV HR HW0 HB
 obtain ⟨x0, x1, x2, x3, x4, x5, x6, x7, x8, x9, x10, l0⟩ := cl11 B0.out
 obtain ⟨y0, y1, y2, y3, y4, y5, y6, y7, y8, y9, y10, l1⟩ := cl11 B1.out
 generalize k.bv = bv at *
 go_wp2_with fail
 have hS := below_alloc w1 (.cells #[.int .i64 6, .int .i64 (-1), .int .i64 0, .int .i64 2, .int .i64 0, .int .i64 0, .int .i64 4, .int .i64 4, .int .u32 0, .slice none 0 0, .bool false] 39)
 have hF : Hid ((w1.alloc (.cells #[.int .i64 6, .int .i64 (-1), .int .i64 0, .int .i64 2, .int .i64 0, .int .i64 0, .int .i64 4, .int .i64 4, .int .u32 0, .slice none 0 0, .bool false] 39)).heap[w1.heap.size]? = some (.cells #[.int .i64 6, .int .i64 (-1), .int .i64 0, .int .i64 2, .int .i64 0, .int .i64 0, .int .i64 4, .int .i64 4, .int .u32 0, .slice none 0 0, .bool false] 39)) := heap_alloc_new w1 _
 generalize w1.alloc (.cells #[.int .i64 6, .int .i64 (-1), .int .i64 0, .int .i64 2, .int .i64 0, .int .i64 0, .int .i64 4, .int .i64 4, .int .u32 0, .slice none 0 0, .bool false] 39) = W4 at *
 refine (HM1.out W4 hS).mono ?_
 rintro e w5 ⟨rfl, hb5⟩
 have hS5 := hS.trans (hb5.mono hS.size)
 have B1 := Lib.hid ((hS5.block _ l1).trans B1.out)
 have hF := Lib.hid ((hb5.block _ (Array.getElem?_eq_some_iff.1 hF.out).1).trans hF.out)
 have BB := Lib.hid (BB.out.trans (hS5.mono BB.out.size))
 have hS5 := Lib.hid hS5
 clear x0 x1 x2 x3 x4 x5 x6 x7 x8 x9 x10 l0 y0 y1 y2 y3 y4 y5 y6 y7 y8 y9 y10 l1 hb5 hS HM1 B0
 obtain ⟨x0, x1, x2, x3, x4, x5, x6, x7, x8, x9, x10, l0⟩ := cl11 hF.out
 obtain ⟨y0, y1, y2, y3, y4, y5, y6, y7, y8, y9, y10, l1⟩ := cl11 B1.out
 go_wp2_with fail
 refine (HM2.out w5 hS5.out).mono ?_
 rintro e w6 ⟨rfl, hb6⟩
 have BB := Lib.hid (BB.out.trans (hb6.mono BB.out.size))
 clear hb6
 go_wp2_with fail
 go_ret
 exact ⟨rfl, BB.out⟩
end Go.Proofs.Ytkhfddodmjnecaa
