/-
 fold's desk: the value of a function of two values.
-/
import Derived.Test.YtkhfddodmjnecaaDoorZFoldTwice35
set_option linter.all false
namespace Go.Proofs.YtkhfddodmjnecaaDoor
open Go.ChangeShapes Go.WideShapes Go.ChangeAt Go.RowKit Go.Maps
set_option maxHeartbeats 16000000
set_option maxRecDepth 100000
set_option linter.unusedVariables false

def swapsB (fn : Int) : Bool := fn == 1 || (fn == 3 || (fn == 6 || (fn == 7 || (fn == 8 || (fn == 11 || fn == 12)))))
theorem swapsB_eq (fn : Int) : swapsB fn = swapsF fn := by
 unfold swapsB swapsF
 rw [Bool.eq_iff_iff]
 simp
theorem swaps_c (fn : Int) (w : World) : Calls Tryd.prog 80 #[.int .i64 fn] w fun e w' => e = .returned (.bool (swapsF fn)) ∧ w' = w := by
 go_enter Tryd.func80, Tryd.ntmps80
 rcases boolTF (fn == 1) with k1 | k1
 ·rcases boolTF (fn == 3) with k3 | k3
  ·rcases boolTF (fn == 6) with k6 | k6
   ·rcases boolTF (fn == 7) with k7 | k7
    ·rcases boolTF (fn == 8) with k8 | k8
     ·rcases boolTF (fn == 11) with k11 | k11
      ·rcases boolTF (fn == 12) with k12 | k12
       ·go_wp2_with fail
        go_ret
        exact ⟨by rw [show swapsF fn = swapsB fn by rw [swapsB_eq]]; unfold swapsB; simp only [k1, k3, k6, k7, k8, k11, k12]; rfl, rfl⟩
       ·go_wp2_with fail
        go_ret
        exact ⟨by rw [show swapsF fn = swapsB fn by rw [swapsB_eq]]; unfold swapsB; simp only [k1, k3, k6, k7, k8, k11, k12]; rfl, rfl⟩
      ·go_wp2_with fail
       go_ret
       exact ⟨by rw [show swapsF fn = swapsB fn by rw [swapsB_eq]]; unfold swapsB; simp only [k1, k3, k6, k7, k8, k11]; rfl, rfl⟩
     ·go_wp2_with fail
      go_ret
      exact ⟨by rw [show swapsF fn = swapsB fn by rw [swapsB_eq]]; unfold swapsB; simp only [k1, k3, k6, k7, k8]; rfl, rfl⟩
    ·go_wp2_with fail
     go_ret
     exact ⟨by rw [show swapsF fn = swapsB fn by rw [swapsB_eq]]; unfold swapsB; simp only [k1, k3, k6, k7]; rfl, rfl⟩
   ·go_wp2_with fail
    go_ret
    exact ⟨by rw [show swapsF fn = swapsB fn by rw [swapsB_eq]]; unfold swapsB; simp only [k1, k3, k6]; rfl, rfl⟩
  ·go_wp2_with fail
   go_ret
   exact ⟨by rw [show swapsF fn = swapsB fn by rw [swapsB_eq]]; unfold swapsB; simp only [k1, k3]; rfl, rfl⟩
 ·go_wp2_with fail
  go_ret
  exact ⟨by rw [show swapsF fn = swapsB fn by rw [swapsB_eq]]; unfold swapsB; simp only [k1]; rfl, rfl⟩
theorem two_c (w : World) (S : Nat → Prop) (q : Dkb) (c : Nat) (R : Int) (d : Dk) (fn a b : Int) (h : DkM w S q c R d) (hc : c + 3 ≤ 1000000000) (hf : I64 fn) (ha : 1 ≤ a ∧ a ≤ d.vs) (hb : 1 ≤ b ∧ b ≤ d.vs) :
  Calls Tryd.prog 56 #[.pointer (some ⟨q.bd, 0, none⟩), .int .i64 fn, .int .i64 a, .int .i64 b] w (DkQ S q (c + 3) R (.int .i64 (twoD d fn a b).1) (twoD d fn a b).2 w) := by
 have hbd := h.bd
 have H := Lib.hid h
 have ES := Lib.hid (same_d w S q c R d fn a b h (by omega) ha hb)
 have EZ := Lib.hid (const_c w S q c R d 0 h hc ⟨by decide, by decide⟩)
 have EN : Hid (∀ x y, 1 ≤ x ∧ x ≤ d.vs → 1 ≤ y ∧ y ≤ d.vs → Calls Tryd.prog 57 #[.pointer (some ⟨q.bd, 0, none⟩), .agg #[.int .i64 3, .int .i64 fn, .int .i64 x, .int .i64 y, .int .i64 0, .int .i64 0, .int .i64 0, .int .u32 0, .int .i64 0]] w (DkQ S q (c + 2) R (.int .i64 (namedD d (kyB fn x y)).1) (namedD d (kyB fn x y)).2 w)) := fun x y hx hy =>
  named_c w S q c R d (kyB fn x y) h (by omega) (kyW_of (i64_lit 3 rfl) hf (i64_nat (x := x) (by omega)) (i64_nat (x := y) (by omega)) (i64_lit 0 rfl) (i64_lit 0 rfl) (i64_lit 0 rfl) ⟨Int.le_refl (0 : Int), show (0 : Int) < 4294967296 by decide⟩ (i64_lit 0 rfl))
 have EC : Hid (∀ n, 0 ≤ n ∧ n < 4294967296 → Calls Tryd.prog 55 #[.pointer (some ⟨q.bd, 0, none⟩), .int .u32 n] w (DkQ S q (c + 3) R (.int .i64 (constD d n).1) (constD d n).2 w)) := fun n hn => const_c w S q c R d n h hc hn
 have HB := Lib.hid h.B
 obtain ⟨vf, h⟩ := h
 have hla := h.lookNum (v := a) ⟨by omega, by omega⟩
 have hlb := h.lookNum (v := b) ⟨by omega, by omega⟩
 obtain ⟨y0, y1, y2, y3, y4, y5, l0⟩ := cl6 h.st
 clear h
 cases en : d.num a with
 | none =>
  have HT : Hid (twoD d fn a b = twoN d fn a b) := by show _ = _; unfold twoD; rw [en]
  rw [en] at hla
  simp only [Option.isSome_none, Option.getD_none] at hla
  clear en
  generalize (d.num b).isSome = sb at *
  generalize (d.num b).getD 0 = nb at *
  go_enter Tryd.func56, Tryd.ntmps56
  go_wp2_with fail
  refine ES.out.mono ?_
  rintro e w' ⟨rfl, rfl⟩
  rcases boolTF (decide (0 < sameD d fn a b)) with hz | hz
  ·have HZ : Hid (¬ 0 < sameD d fn a b) := of_decide_eq_false hz
   generalize hsv : sameD d fn a b = sv at *
   have HSV := Lib.hid hsv
   clear hsv
   rcases boolTF (a == b) with e1 | e1
   ·have hno : ¬ (a = b ∧ (fn = 2 ∨ fn = 8)) := fun z => by rw [beq_eq_false_iff_ne] at e1; exact e1 z.1
    go_wp2_with fail
    refine (swaps_c fn _).mono ?_
    rintro e w' ⟨rfl, rfl⟩
    cases hs : swapsF fn
    ·have HR : Hid (twoD d fn a b = namedD d (kyB fn a b)) := by
      show _ = _
      rw [HT.out]; unfold twoN
      rw [HSV.out, if_neg (show ¬ 0 < sv by have := HZ.out; omega), if_neg hno, hs, if_neg (by simp)]
     clear HT HZ hno
     go_wp2_with fail
     refine (EN.out a b ha hb).mono ?_
     rintro e w1 ⟨rfl, S1, h1, p1⟩
     go_wp2_with fail
     go_ret
     rw [HR.out]
     exact ⟨rfl, S1, h1.mono (Nat.le_succ _), p1⟩
    ·rcases boolTF (decide (b < a)) with hl | hl
     ·have HR : Hid (twoD d fn a b = namedD d (kyB fn a b)) := by
       show _ = _
       rw [HT.out]; unfold twoN
       rw [HSV.out, if_neg (show ¬ 0 < sv by have := HZ.out; omega), if_neg hno, if_neg (by intro z; exact absurd z.2 (of_decide_eq_false hl))]
      clear HT HZ hno
      go_wp2_with fail
      refine (EN.out a b ha hb).mono ?_
      rintro e w1 ⟨rfl, S1, h1, p1⟩
      go_wp2_with fail
      go_ret
      rw [HR.out]
      exact ⟨rfl, S1, h1.mono (Nat.le_succ _), p1⟩
     ·have HR : Hid (twoD d fn a b = namedD d (kyB fn b a)) := by
       show _ = _
       rw [HT.out]; unfold twoN
       rw [HSV.out, if_neg (show ¬ 0 < sv by have := HZ.out; omega), if_neg hno, if_pos ⟨hs, of_decide_eq_true hl⟩]
      clear HT HZ hno
      go_wp2_with fail
      refine (EN.out b a hb ha).mono ?_
      rintro e w1 ⟨rfl, S1, h1, p1⟩
      go_wp2_with fail
      go_ret
      rw [HR.out]
      exact ⟨rfl, S1, h1.mono (Nat.le_succ _), p1⟩
   ·rcases boolTF (fn == 2) with e2 | e2
    ·rcases boolTF (fn == 8) with e3 | e3
     ·have hno : ¬ (a = b ∧ (fn = 2 ∨ fn = 8)) := fun z => by
       rw [beq_eq_false_iff_ne] at e2 e3
       exact z.2.elim e2 e3
      go_wp2_with fail
      refine (swaps_c fn _).mono ?_
      rintro e w' ⟨rfl, rfl⟩
      cases hs : swapsF fn
      ·have HR : Hid (twoD d fn a b = namedD d (kyB fn a b)) := by
        show _ = _
        rw [HT.out]; unfold twoN
        rw [HSV.out, if_neg (show ¬ 0 < sv by have := HZ.out; omega), if_neg hno, hs, if_neg (by simp)]
       clear HT HZ hno
       go_wp2_with fail
       refine (EN.out a b ha hb).mono ?_
       rintro e w1 ⟨rfl, S1, h1, p1⟩
       go_wp2_with fail
       go_ret
       rw [HR.out]
       exact ⟨rfl, S1, h1.mono (Nat.le_succ _), p1⟩
      ·rcases boolTF (decide (b < a)) with hl | hl
       ·have HR : Hid (twoD d fn a b = namedD d (kyB fn a b)) := by
         show _ = _
         rw [HT.out]; unfold twoN
         rw [HSV.out, if_neg (show ¬ 0 < sv by have := HZ.out; omega), if_neg hno, if_neg (by intro z; exact absurd z.2 (of_decide_eq_false hl))]
        clear HT HZ hno
        go_wp2_with fail
        refine (EN.out a b ha hb).mono ?_
        rintro e w1 ⟨rfl, S1, h1, p1⟩
        go_wp2_with fail
        go_ret
        rw [HR.out]
        exact ⟨rfl, S1, h1.mono (Nat.le_succ _), p1⟩
       ·have HR : Hid (twoD d fn a b = namedD d (kyB fn b a)) := by
         show _ = _
         rw [HT.out]; unfold twoN
         rw [HSV.out, if_neg (show ¬ 0 < sv by have := HZ.out; omega), if_neg hno, if_pos ⟨hs, of_decide_eq_true hl⟩]
        clear HT HZ hno
        go_wp2_with fail
        refine (EN.out b a hb ha).mono ?_
        rintro e w1 ⟨rfl, S1, h1, p1⟩
        go_wp2_with fail
        go_ret
        rw [HR.out]
        exact ⟨rfl, S1, h1.mono (Nat.le_succ _), p1⟩
     ·have hyes : a = b ∧ (fn = 2 ∨ fn = 8) := ⟨beq_iff_eq.1 e1, .inr (beq_iff_eq.1 e3)⟩
      have HR : Hid (twoD d fn a b = constD d 0) := by
       show _ = _
       rw [HT.out]; unfold twoN
       rw [HSV.out, if_neg (show ¬ 0 < sv by have := HZ.out; omega), if_pos hyes]
      clear HT HZ hyes
      go_wp2_with fail
      refine EZ.out.mono ?_
      rintro e w1 ⟨rfl, S1, h1, p1⟩
      go_wp2_with fail
      go_ret
      rw [HR.out]
      exact ⟨rfl, S1, h1, p1⟩
    ·have hyes : a = b ∧ (fn = 2 ∨ fn = 8) := ⟨beq_iff_eq.1 e1, .inl (beq_iff_eq.1 e2)⟩
     have HR : Hid (twoD d fn a b = constD d 0) := by
      show _ = _
      rw [HT.out]; unfold twoN
      rw [HSV.out, if_neg (show ¬ 0 < sv by have := HZ.out; omega), if_pos hyes]
     clear HT HZ hyes
     go_wp2_with fail
     refine EZ.out.mono ?_
     rintro e w1 ⟨rfl, S1, h1, p1⟩
     go_wp2_with fail
     go_ret
     rw [HR.out]
     exact ⟨rfl, S1, h1, p1⟩
  ·have HR : Hid (twoD d fn a b = (sameD d fn a b, d)) := by
    show _ = _
    rw [HT.out]; unfold twoN
    rw [if_pos (of_decide_eq_true hz)]
   clear HT
   generalize sameD d fn a b = sv at *
   go_wp2_with fail
   go_ret
   rw [HR.out]
   exact ⟨rfl, S, H.out.mono (by omega), Stp.refl _ _⟩
 | some m =>
  cases em : d.num b with
  | none =>
   have HT : Hid (twoD d fn a b = twoN d fn a b) := by show _ = _; unfold twoD; rw [en, em]
   rw [en] at hla
   rw [em] at hlb
   simp only [Option.isSome_none, Option.getD_none, Option.isSome_some, Option.getD_some] at hla hlb
   clear en em
   go_enter Tryd.func56, Tryd.ntmps56
   go_wp2_with fail
   refine ES.out.mono ?_
   rintro e w' ⟨rfl, rfl⟩
   rcases boolTF (decide (0 < sameD d fn a b)) with hz | hz
   ·have HZ : Hid (¬ 0 < sameD d fn a b) := of_decide_eq_false hz
    generalize hsv : sameD d fn a b = sv at *
    have HSV := Lib.hid hsv
    clear hsv
    rcases boolTF (a == b) with e1 | e1
    ·have hno : ¬ (a = b ∧ (fn = 2 ∨ fn = 8)) := fun z => by rw [beq_eq_false_iff_ne] at e1; exact e1 z.1
     go_wp2_with fail
     refine (swaps_c fn _).mono ?_
     rintro e w' ⟨rfl, rfl⟩
     cases hs : swapsF fn
     ·have HR : Hid (twoD d fn a b = namedD d (kyB fn a b)) := by
       show _ = _
       rw [HT.out]; unfold twoN
       rw [HSV.out, if_neg (show ¬ 0 < sv by have := HZ.out; omega), if_neg hno, hs, if_neg (by simp)]
      clear HT HZ hno
      go_wp2_with fail
      refine (EN.out a b ha hb).mono ?_
      rintro e w1 ⟨rfl, S1, h1, p1⟩
      go_wp2_with fail
      go_ret
      rw [HR.out]
      exact ⟨rfl, S1, h1.mono (Nat.le_succ _), p1⟩
     ·rcases boolTF (decide (b < a)) with hl | hl
      ·have HR : Hid (twoD d fn a b = namedD d (kyB fn a b)) := by
        show _ = _
        rw [HT.out]; unfold twoN
        rw [HSV.out, if_neg (show ¬ 0 < sv by have := HZ.out; omega), if_neg hno, if_neg (by intro z; exact absurd z.2 (of_decide_eq_false hl))]
       clear HT HZ hno
       go_wp2_with fail
       refine (EN.out a b ha hb).mono ?_
       rintro e w1 ⟨rfl, S1, h1, p1⟩
       go_wp2_with fail
       go_ret
       rw [HR.out]
       exact ⟨rfl, S1, h1.mono (Nat.le_succ _), p1⟩
      ·have HR : Hid (twoD d fn a b = namedD d (kyB fn b a)) := by
        show _ = _
        rw [HT.out]; unfold twoN
        rw [HSV.out, if_neg (show ¬ 0 < sv by have := HZ.out; omega), if_neg hno, if_pos ⟨hs, of_decide_eq_true hl⟩]
       clear HT HZ hno
       go_wp2_with fail
       refine (EN.out b a hb ha).mono ?_
       rintro e w1 ⟨rfl, S1, h1, p1⟩
       go_wp2_with fail
       go_ret
       rw [HR.out]
       exact ⟨rfl, S1, h1.mono (Nat.le_succ _), p1⟩
    ·rcases boolTF (fn == 2) with e2 | e2
     ·rcases boolTF (fn == 8) with e3 | e3
      ·have hno : ¬ (a = b ∧ (fn = 2 ∨ fn = 8)) := fun z => by
        rw [beq_eq_false_iff_ne] at e2 e3
        exact z.2.elim e2 e3
       go_wp2_with fail
       refine (swaps_c fn _).mono ?_
       rintro e w' ⟨rfl, rfl⟩
       cases hs : swapsF fn
       ·have HR : Hid (twoD d fn a b = namedD d (kyB fn a b)) := by
         show _ = _
         rw [HT.out]; unfold twoN
         rw [HSV.out, if_neg (show ¬ 0 < sv by have := HZ.out; omega), if_neg hno, hs, if_neg (by simp)]
        clear HT HZ hno
        go_wp2_with fail
        refine (EN.out a b ha hb).mono ?_
        rintro e w1 ⟨rfl, S1, h1, p1⟩
        go_wp2_with fail
        go_ret
        rw [HR.out]
        exact ⟨rfl, S1, h1.mono (Nat.le_succ _), p1⟩
       ·rcases boolTF (decide (b < a)) with hl | hl
        ·have HR : Hid (twoD d fn a b = namedD d (kyB fn a b)) := by
          show _ = _
          rw [HT.out]; unfold twoN
          rw [HSV.out, if_neg (show ¬ 0 < sv by have := HZ.out; omega), if_neg hno, if_neg (by intro z; exact absurd z.2 (of_decide_eq_false hl))]
         clear HT HZ hno
         go_wp2_with fail
         refine (EN.out a b ha hb).mono ?_
         rintro e w1 ⟨rfl, S1, h1, p1⟩
         go_wp2_with fail
         go_ret
         rw [HR.out]
         exact ⟨rfl, S1, h1.mono (Nat.le_succ _), p1⟩
        ·have HR : Hid (twoD d fn a b = namedD d (kyB fn b a)) := by
          show _ = _
          rw [HT.out]; unfold twoN
          rw [HSV.out, if_neg (show ¬ 0 < sv by have := HZ.out; omega), if_neg hno, if_pos ⟨hs, of_decide_eq_true hl⟩]
         clear HT HZ hno
         go_wp2_with fail
         refine (EN.out b a hb ha).mono ?_
         rintro e w1 ⟨rfl, S1, h1, p1⟩
         go_wp2_with fail
         go_ret
         rw [HR.out]
         exact ⟨rfl, S1, h1.mono (Nat.le_succ _), p1⟩
      ·have hyes : a = b ∧ (fn = 2 ∨ fn = 8) := ⟨beq_iff_eq.1 e1, .inr (beq_iff_eq.1 e3)⟩
       have HR : Hid (twoD d fn a b = constD d 0) := by
        show _ = _
        rw [HT.out]; unfold twoN
        rw [HSV.out, if_neg (show ¬ 0 < sv by have := HZ.out; omega), if_pos hyes]
       clear HT HZ hyes
       go_wp2_with fail
       refine EZ.out.mono ?_
       rintro e w1 ⟨rfl, S1, h1, p1⟩
       go_wp2_with fail
       go_ret
       rw [HR.out]
       exact ⟨rfl, S1, h1, p1⟩
     ·have hyes : a = b ∧ (fn = 2 ∨ fn = 8) := ⟨beq_iff_eq.1 e1, .inl (beq_iff_eq.1 e2)⟩
      have HR : Hid (twoD d fn a b = constD d 0) := by
       show _ = _
       rw [HT.out]; unfold twoN
       rw [HSV.out, if_neg (show ¬ 0 < sv by have := HZ.out; omega), if_pos hyes]
      clear HT HZ hyes
      go_wp2_with fail
      refine EZ.out.mono ?_
      rintro e w1 ⟨rfl, S1, h1, p1⟩
      go_wp2_with fail
      go_ret
      rw [HR.out]
      exact ⟨rfl, S1, h1, p1⟩
   ·have HR : Hid (twoD d fn a b = (sameD d fn a b, d)) := by
     show _ = _
     rw [HT.out]; unfold twoN
     rw [if_pos (of_decide_eq_true hz)]
    clear HT
    generalize sameD d fn a b = sv at *
    go_wp2_with fail
    go_ret
    rw [HR.out]
    exact ⟨rfl, S, H.out.mono (by omega), Stp.refl _ _⟩
  | some n =>
   have hm := (HB.out.num a m en).2
   have hn := (HB.out.num b n em).2
   have HT : Hid (twoD d fn a b = constD d (fnF fn m n)) := by show _ = _; unfold twoD; rw [en, em]
   rw [en] at hla
   rw [em] at hlb
   simp only [Option.isSome_some, Option.getD_some] at hla hlb
   rw [HT.out]
   clear en em HT
   go_enter Tryd.func56, Tryd.ntmps56
   go_wp2_with fail
   refine (fn_c fn m n _ hm.1 hm.2 hn.1 hn.2).mono ?_
   rintro e w' ⟨rfl, rfl⟩
   go_wp2_with fail
   refine (EC.out _ (fnF_bd _ _ _ hm.1 hm.2 hn.1 hn.2)).mono ?_
   rintro e w1 ⟨rfl, S1, h1, p1⟩
   go_wp2_with fail
   go_ret
   exact ⟨rfl, S1, h1, p1⟩
end Go.Proofs.YtkhfddodmjnecaaDoor
