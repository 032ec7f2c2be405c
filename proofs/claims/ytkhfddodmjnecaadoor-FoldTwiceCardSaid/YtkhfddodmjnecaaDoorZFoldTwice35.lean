/-
 fold's desk: the value of a number; a function of two values that is one of them.
-/
import Derived.Test.YtkhfddodmjnecaaDoorZFoldTwice34
set_option linter.all false
namespace Go.Proofs.YtkhfddodmjnecaaDoor
open Go.ChangeShapes Go.WideShapes Go.ChangeAt Go.RowKit Go.Maps
set_option maxHeartbeats 16000000
set_option maxRecDepth 100000
set_option linter.unusedVariables false

theorem kyW_of {x : Ky} (h1 : I64 x.op) (h2 : I64 x.fn) (h3 : I64 x.a) (h4 : I64 x.b) (h5 : I64 x.obj) (h6 : I64 x.off) (h7 : I64 x.size) (h8 : 0 ≤ x.num ∧ x.num < 4294967296) (h9 : I64 x.mem) : KyW x := fun l hl => by
 unfold I64 at *
 simp only [keyCs, List.mem_cons, List.not_mem_nil, or_false] at hl
 rcases hl with rfl | rfl | rfl | rfl | rfl | rfl | rfl | rfl | rfl
 case inr.inr.inr.inr.inr.inr.inr.inl => exact WalkArith.wf_u32 (by omega)
 all_goals exact WalkArith.wf_i64 (by omega)
theorem i64_nat {x : Int} (h : -1000000000000 ≤ x ∧ x ≤ 1000000000000) : I64 x := ⟨by omega, by omega⟩
theorem boolTF (b : Bool) : b = false ∨ b = true := by cases b <;> simp
theorem i64_lit {x : Int} (k : Int) (e : x = k) (h : -1000000000000 ≤ k ∧ k ≤ 1000000000000 := by decide) : I64 x := i64_nat (e ▸ h)
theorem const_c (w : World) (S : Nat → Prop) (q : Dkb) (c : Nat) (R : Int) (d : Dk) (n : Int) (h : DkM w S q c R d) (hc : c + 3 ≤ 1000000000) (hn : 0 ≤ n ∧ n < 4294967296) :
  Calls Tryd.prog 55 #[.pointer (some ⟨q.bd, 0, none⟩), .int .u32 n] w (DkQ S q (c + 3) R (.int .i64 (constD d n).1) (constD d n).2 w) := by
 have EN := Lib.hid (named_c w S q c R d (kyC n) h (by omega) (kyW_of (i64_lit 1 rfl) (i64_lit 0 rfl) (i64_lit 0 rfl) (i64_lit 0 rfl) (i64_lit 0 rfl) (i64_lit 0 rfl) (i64_lit 0 rfl) hn (i64_lit 0 rfl)))
 have HV := Lib.hid (h.B.named (kyC n))
 have HD : Hid (constD d n = ((namedD d (kyC n)).1, setNum (namedD d (kyC n)).2 (namedD d (kyC n)).1 n)) := rfl
 rw [HD.out]
 clear h HD
 generalize namedD d (kyC n) = nd at *
 obtain ⟨v, d1⟩ := nd
 unfold keyV kyC at EN
 dsimp only at EN HV ⊢
 go_enter Tryd.func55, Tryd.ntmps55
 go_wp2_with fail
 refine EN.out.mono ?_
 rintro e w1 ⟨rfl, S1, h1, p1⟩
 have H1 := Lib.hid h1
 have HP1 := Lib.hid p1
 have hbd := h1.bd
 clear h1 p1
 obtain ⟨y0, y1, y2, y3, y4, y5, l0⟩ := cl6 H1.out.st
 obtain ⟨vf, hx⟩ := H1.out
 have HX := Lib.hid hx
 clear hx
 obtain ⟨-, hv1, hv2⟩ := HV.out
 dsimp only at hv1 hv2
 have hwv : KyI.W v := WalkArith.wf_i64 (by omega)
 have hcm : c + 2 < maxLen := by unfold maxLen; omega
 go_wp2_with (at_mapUpdate; refine MapH.put HX.out.mn Tryd.underlying77 v (.int .u32 n) hwv hcm rfl _ _ _ rfl rfl rfl rfl ?_; intro w2 hm2 hg2)
 obtain ⟨hx2, px⟩ := HX.out.setNum ⟨hv1, hv2⟩ hn hg2 (hm2.ext fun y => by split <;> rfl)
 have HX2 := Lib.hid hx2
 have HPX := Lib.hid px
 clear hm2 hg2 hx2 px
 go_wp2_with fail
 go_ret
 exact ⟨rfl, S1, ⟨vf, HX2.out⟩, HP1.out.trans HPX.out⟩
def sameF (si : Bool) (m : Int) (too : Bool) (n fn a b : Int) : Int := if (si && ((m == 0) && ((fn == 1) || ((fn == 2) || ((fn == 7) || ((fn == 8) || ((fn == 9) || (fn == 10)))))))) = true then a else if (si && ((m == 1) && ((fn == 3) || (fn == 4)))) = true then a else if (too && ((n == 0) && ((fn == 1) || ((fn == 7) || (fn == 8))))) = true then b else if (too && ((n == 1) && (fn == 3))) = true then b else if ((a == b) && ((fn == 6) || (fn == 7))) = true then a else 0
theorem sameF_eq (d : Dk) (fn a b : Int) : sameF (d.num b).isSome ((d.num b).getD 0) (d.num a).isSome ((d.num a).getD 0) fn a b = sameD d fn a b := by
 unfold sameF sameD
 cases d.num b <;> cases d.num a <;> simp
theorem same_d (w : World) (S : Nat → Prop) (q : Dkb) (c : Nat) (R : Int) (d : Dk) (fn a b : Int) (h : DkM w S q c R d) (hc : c ≤ 1000000000) (ha : 1 ≤ a ∧ a ≤ d.vs) (hb : 1 ≤ b ∧ b ≤ d.vs) :
  Calls Tryd.prog 79 #[.pointer (some ⟨q.bd, 0, none⟩), .int .i64 fn, .int .i64 a, .int .i64 b] w fun e w' => e = .returned (.int .i64 (sameD d fn a b)) ∧ w' = w := by
 have hbd := h.bd
 obtain ⟨vf, h⟩ := h
 have hla := h.lookNum (v := a) ⟨by omega, by omega⟩
 have hlb := h.lookNum (v := b) ⟨by omega, by omega⟩
 obtain ⟨y0, y1, y2, y3, y4, y5, l0⟩ := cl6 h.st
 have HF := Lib.hid (sameF_eq d fn a b)
 rw [← HF.out]
 clear HF h
 generalize (d.num b).isSome = si at *
 generalize (d.num b).getD 0 = m at *
 generalize (d.num a).isSome = too at *
 generalize (d.num a).getD 0 = n at *
 cases si <;> cases too
 ·go_enter Tryd.func79, Tryd.ntmps79
  go_upto_region 11 with (fail)
  go_cut [107] from 108 to 118 (fun x wx => x = .bool ((a == b) && ((fn == 6) || (fn == 7))) ∧ w = wx)
  case first =>
   rcases boolTF ((a == b)) with i0 | i0
   ·go_wp2_with fail
    go_meet
    case rel => exact ⟨by simp [i0], rfl⟩
   ·rcases boolTF ((fn == 6)) with k6 | k6
    ·rcases boolTF ((fn == 7)) with k7 | k7
     ·go_wp2_with fail
      go_meet
      case rel => exact ⟨by simp [i0, k6, k7], rfl⟩
     ·go_wp2_with fail
      go_meet
      case rel => exact ⟨by simp [i0, k6, k7], rfl⟩
    ·go_wp2_with fail
     go_meet
     case rel => exact ⟨by simp [i0, k6], rfl⟩
  case rest =>
   obtain ⟨rfl, rfl⟩ := hcut
   generalize hc107 : ((a == b) && ((fn == 6) || (fn == 7))) = z107 at *
   cases z107
   ·have HR : Hid (sameF false m false n fn a b = 0) := by
     show _ = _
     unfold sameF; simp only [hc107, Bool.true_and, Bool.false_and, Bool.false_eq_true, if_false]
    go_wp2_with fail
    go_ret
    exact ⟨by rw [HR.out]; rfl, rfl⟩
   ·have HR : Hid (sameF false m false n fn a b = a) := by
     show _ = _
     unfold sameF; simp only [hc107, Bool.true_and, Bool.false_and, Bool.false_eq_true, if_false, if_true]
    go_wp2_with fail
    go_ret
    exact ⟨by rw [HR.out]; rfl, rfl⟩
 ·go_enter Tryd.func79, Tryd.ntmps79
  go_upto_region 7 with (fail)
  go_cut [77] from 78 to 94 (fun x wx => x = .bool ((n == 0) && ((fn == 1) || ((fn == 7) || (fn == 8)))) ∧ w = wx)
  case first =>
   rcases boolTF ((n == 0)) with i1 | i1
   ·go_wp2_with fail
    go_meet
    case rel => exact ⟨by simp [i1], rfl⟩
   ·rcases boolTF ((fn == 1)) with k1 | k1
    ·rcases boolTF ((fn == 7)) with k7 | k7
     ·rcases boolTF ((fn == 8)) with k8 | k8
      ·go_wp2_with fail
       go_meet
       case rel => exact ⟨by simp [i1, k1, k7, k8], rfl⟩
      ·go_wp2_with fail
       go_meet
       case rel => exact ⟨by simp [i1, k1, k7, k8], rfl⟩
     ·go_wp2_with fail
      go_meet
      case rel => exact ⟨by simp [i1, k1, k7], rfl⟩
    ·go_wp2_with fail
     go_meet
     case rel => exact ⟨by simp [i1, k1], rfl⟩
  case rest =>
   obtain ⟨rfl, rfl⟩ := hcut
   generalize hc77 : ((n == 0) && ((fn == 1) || ((fn == 7) || (fn == 8)))) = z77 at *
   cases z77
   ·go_upto_region 9 with (fail)
    go_cut [96] from 97 to 105 (fun x wx => x = .bool ((n == 1) && (fn == 3)) ∧ w = wx)
    case first =>
     rcases boolTF ((n == 1)) with i1 | i1
     ·go_wp2_with fail
      go_meet
      case rel => exact ⟨by simp [i1], rfl⟩
     ·rcases boolTF ((fn == 3)) with k3 | k3
      ·go_wp2_with fail
       go_meet
       case rel => exact ⟨by simp [i1, k3], rfl⟩
      ·go_wp2_with fail
       go_meet
       case rel => exact ⟨by simp [i1, k3], rfl⟩
    case rest =>
     obtain ⟨rfl, rfl⟩ := hcut
     generalize hc96 : ((n == 1) && (fn == 3)) = z96 at *
     cases z96
     ·go_upto_region 11 with (fail)
      go_cut [107] from 108 to 118 (fun x wx => x = .bool ((a == b) && ((fn == 6) || (fn == 7))) ∧ w = wx)
      case first =>
       rcases boolTF ((a == b)) with i0 | i0
       ·go_wp2_with fail
        go_meet
        case rel => exact ⟨by simp [i0], rfl⟩
       ·rcases boolTF ((fn == 6)) with k6 | k6
        ·rcases boolTF ((fn == 7)) with k7 | k7
         ·go_wp2_with fail
          go_meet
          case rel => exact ⟨by simp [i0, k6, k7], rfl⟩
         ·go_wp2_with fail
          go_meet
          case rel => exact ⟨by simp [i0, k6, k7], rfl⟩
        ·go_wp2_with fail
         go_meet
         case rel => exact ⟨by simp [i0, k6], rfl⟩
      case rest =>
       obtain ⟨rfl, rfl⟩ := hcut
       generalize hc107 : ((a == b) && ((fn == 6) || (fn == 7))) = z107 at *
       cases z107
       ·have HR : Hid (sameF false m true n fn a b = 0) := by
         show _ = _
         unfold sameF; simp only [hc77, hc96, hc107, Bool.true_and, Bool.false_and, Bool.false_eq_true, if_false]
        go_wp2_with fail
        go_ret
        exact ⟨by rw [HR.out]; rfl, rfl⟩
       ·have HR : Hid (sameF false m true n fn a b = a) := by
         show _ = _
         unfold sameF; simp only [hc77, hc96, hc107, Bool.true_and, Bool.false_and, Bool.false_eq_true, if_false, if_true]
        go_wp2_with fail
        go_ret
        exact ⟨by rw [HR.out]; rfl, rfl⟩
     ·have HR : Hid (sameF false m true n fn a b = b) := by
       show _ = _
       unfold sameF; simp only [hc77, hc96, Bool.true_and, Bool.false_and, Bool.false_eq_true, if_false, if_true]
      go_wp2_with fail
      go_ret
      exact ⟨by rw [HR.out]; rfl, rfl⟩
   ·have HR : Hid (sameF false m true n fn a b = b) := by
     show _ = _
     unfold sameF; simp only [hc77, Bool.true_and, Bool.false_and, Bool.false_eq_true, if_false, if_true]
    go_wp2_with fail
    go_ret
    exact ⟨by rw [HR.out]; rfl, rfl⟩
 ·go_enter Tryd.func79, Tryd.ntmps79
  go_upto_region 3 with (fail)
  go_cut [31] from 32 to 60 (fun x wx => x = .bool ((m == 0) && ((fn == 1) || ((fn == 2) || ((fn == 7) || ((fn == 8) || ((fn == 9) || (fn == 10))))))) ∧ w = wx)
  case first =>
   rcases boolTF ((m == 0)) with i1 | i1
   ·go_wp2_with fail
    go_meet
    case rel => exact ⟨by simp [i1], rfl⟩
   ·rcases boolTF ((fn == 1)) with k1 | k1
    ·rcases boolTF ((fn == 2)) with k2 | k2
     ·rcases boolTF ((fn == 7)) with k7 | k7
      ·rcases boolTF ((fn == 8)) with k8 | k8
       ·rcases boolTF ((fn == 9)) with k9 | k9
        ·rcases boolTF ((fn == 10)) with k10 | k10
         ·go_wp2_with fail
          go_meet
          case rel => exact ⟨by simp [i1, k1, k2, k7, k8, k9, k10], rfl⟩
         ·go_wp2_with fail
          go_meet
          case rel => exact ⟨by simp [i1, k1, k2, k7, k8, k9, k10], rfl⟩
        ·go_wp2_with fail
         go_meet
         case rel => exact ⟨by simp [i1, k1, k2, k7, k8, k9], rfl⟩
       ·go_wp2_with fail
        go_meet
        case rel => exact ⟨by simp [i1, k1, k2, k7, k8], rfl⟩
      ·go_wp2_with fail
       go_meet
       case rel => exact ⟨by simp [i1, k1, k2, k7], rfl⟩
     ·go_wp2_with fail
      go_meet
      case rel => exact ⟨by simp [i1, k1, k2], rfl⟩
    ·go_wp2_with fail
     go_meet
     case rel => exact ⟨by simp [i1, k1], rfl⟩
  case rest =>
   obtain ⟨rfl, rfl⟩ := hcut
   generalize hc31 : ((m == 0) && ((fn == 1) || ((fn == 2) || ((fn == 7) || ((fn == 8) || ((fn == 9) || (fn == 10))))))) = z31 at *
   cases z31
   ·go_upto_region 5 with (fail)
    go_cut [62] from 63 to 75 (fun x wx => x = .bool ((m == 1) && ((fn == 3) || (fn == 4))) ∧ w = wx)
    case first =>
     rcases boolTF ((m == 1)) with i1 | i1
     ·go_wp2_with fail
      go_meet
      case rel => exact ⟨by simp [i1], rfl⟩
     ·rcases boolTF ((fn == 3)) with k3 | k3
      ·rcases boolTF ((fn == 4)) with k4 | k4
       ·go_wp2_with fail
        go_meet
        case rel => exact ⟨by simp [i1, k3, k4], rfl⟩
       ·go_wp2_with fail
        go_meet
        case rel => exact ⟨by simp [i1, k3, k4], rfl⟩
      ·go_wp2_with fail
       go_meet
       case rel => exact ⟨by simp [i1, k3], rfl⟩
    case rest =>
     obtain ⟨rfl, rfl⟩ := hcut
     generalize hc62 : ((m == 1) && ((fn == 3) || (fn == 4))) = z62 at *
     cases z62
     ·go_upto_region 11 with (fail)
      go_cut [107] from 108 to 118 (fun x wx => x = .bool ((a == b) && ((fn == 6) || (fn == 7))) ∧ w = wx)
      case first =>
       rcases boolTF ((a == b)) with i0 | i0
       ·go_wp2_with fail
        go_meet
        case rel => exact ⟨by simp [i0], rfl⟩
       ·rcases boolTF ((fn == 6)) with k6 | k6
        ·rcases boolTF ((fn == 7)) with k7 | k7
         ·go_wp2_with fail
          go_meet
          case rel => exact ⟨by simp [i0, k6, k7], rfl⟩
         ·go_wp2_with fail
          go_meet
          case rel => exact ⟨by simp [i0, k6, k7], rfl⟩
        ·go_wp2_with fail
         go_meet
         case rel => exact ⟨by simp [i0, k6], rfl⟩
      case rest =>
       obtain ⟨rfl, rfl⟩ := hcut
       generalize hc107 : ((a == b) && ((fn == 6) || (fn == 7))) = z107 at *
       cases z107
       ·have HR : Hid (sameF true m false n fn a b = 0) := by
         show _ = _
         unfold sameF; simp only [hc31, hc62, hc107, Bool.true_and, Bool.false_and, Bool.false_eq_true, if_false]
        go_wp2_with fail
        go_ret
        exact ⟨by rw [HR.out]; rfl, rfl⟩
       ·have HR : Hid (sameF true m false n fn a b = a) := by
         show _ = _
         unfold sameF; simp only [hc31, hc62, hc107, Bool.true_and, Bool.false_and, Bool.false_eq_true, if_false, if_true]
        go_wp2_with fail
        go_ret
        exact ⟨by rw [HR.out]; rfl, rfl⟩
     ·have HR : Hid (sameF true m false n fn a b = a) := by
       show _ = _
       unfold sameF; simp only [hc31, hc62, Bool.true_and, Bool.false_and, Bool.false_eq_true, if_false, if_true]
      go_wp2_with fail
      go_ret
      exact ⟨by rw [HR.out]; rfl, rfl⟩
   ·have HR : Hid (sameF true m false n fn a b = a) := by
     show _ = _
     unfold sameF; simp only [hc31, Bool.true_and, Bool.false_and, Bool.false_eq_true, if_false, if_true]
    go_wp2_with fail
    go_ret
    exact ⟨by rw [HR.out]; rfl, rfl⟩
 ·go_enter Tryd.func79, Tryd.ntmps79
  go_upto_region 3 with (fail)
  go_cut [31] from 32 to 60 (fun x wx => x = .bool ((m == 0) && ((fn == 1) || ((fn == 2) || ((fn == 7) || ((fn == 8) || ((fn == 9) || (fn == 10))))))) ∧ w = wx)
  case first =>
   rcases boolTF ((m == 0)) with i1 | i1
   ·go_wp2_with fail
    go_meet
    case rel => exact ⟨by simp [i1], rfl⟩
   ·rcases boolTF ((fn == 1)) with k1 | k1
    ·rcases boolTF ((fn == 2)) with k2 | k2
     ·rcases boolTF ((fn == 7)) with k7 | k7
      ·rcases boolTF ((fn == 8)) with k8 | k8
       ·rcases boolTF ((fn == 9)) with k9 | k9
        ·rcases boolTF ((fn == 10)) with k10 | k10
         ·go_wp2_with fail
          go_meet
          case rel => exact ⟨by simp [i1, k1, k2, k7, k8, k9, k10], rfl⟩
         ·go_wp2_with fail
          go_meet
          case rel => exact ⟨by simp [i1, k1, k2, k7, k8, k9, k10], rfl⟩
        ·go_wp2_with fail
         go_meet
         case rel => exact ⟨by simp [i1, k1, k2, k7, k8, k9], rfl⟩
       ·go_wp2_with fail
        go_meet
        case rel => exact ⟨by simp [i1, k1, k2, k7, k8], rfl⟩
      ·go_wp2_with fail
       go_meet
       case rel => exact ⟨by simp [i1, k1, k2, k7], rfl⟩
     ·go_wp2_with fail
      go_meet
      case rel => exact ⟨by simp [i1, k1, k2], rfl⟩
    ·go_wp2_with fail
     go_meet
     case rel => exact ⟨by simp [i1, k1], rfl⟩
  case rest =>
   obtain ⟨rfl, rfl⟩ := hcut
   generalize hc31 : ((m == 0) && ((fn == 1) || ((fn == 2) || ((fn == 7) || ((fn == 8) || ((fn == 9) || (fn == 10))))))) = z31 at *
   cases z31
   ·go_upto_region 5 with (fail)
    go_cut [62] from 63 to 75 (fun x wx => x = .bool ((m == 1) && ((fn == 3) || (fn == 4))) ∧ w = wx)
    case first =>
     rcases boolTF ((m == 1)) with i1 | i1
     ·go_wp2_with fail
      go_meet
      case rel => exact ⟨by simp [i1], rfl⟩
     ·rcases boolTF ((fn == 3)) with k3 | k3
      ·rcases boolTF ((fn == 4)) with k4 | k4
       ·go_wp2_with fail
        go_meet
        case rel => exact ⟨by simp [i1, k3, k4], rfl⟩
       ·go_wp2_with fail
        go_meet
        case rel => exact ⟨by simp [i1, k3, k4], rfl⟩
      ·go_wp2_with fail
       go_meet
       case rel => exact ⟨by simp [i1, k3], rfl⟩
    case rest =>
     obtain ⟨rfl, rfl⟩ := hcut
     generalize hc62 : ((m == 1) && ((fn == 3) || (fn == 4))) = z62 at *
     cases z62
     ·go_upto_region 7 with (fail)
      go_cut [77] from 78 to 94 (fun x wx => x = .bool ((n == 0) && ((fn == 1) || ((fn == 7) || (fn == 8)))) ∧ w = wx)
      case first =>
       rcases boolTF ((n == 0)) with i1 | i1
       ·go_wp2_with fail
        go_meet
        case rel => exact ⟨by simp [i1], rfl⟩
       ·rcases boolTF ((fn == 1)) with k1 | k1
        ·rcases boolTF ((fn == 7)) with k7 | k7
         ·rcases boolTF ((fn == 8)) with k8 | k8
          ·go_wp2_with fail
           go_meet
           case rel => exact ⟨by simp [i1, k1, k7, k8], rfl⟩
          ·go_wp2_with fail
           go_meet
           case rel => exact ⟨by simp [i1, k1, k7, k8], rfl⟩
         ·go_wp2_with fail
          go_meet
          case rel => exact ⟨by simp [i1, k1, k7], rfl⟩
        ·go_wp2_with fail
         go_meet
         case rel => exact ⟨by simp [i1, k1], rfl⟩
      case rest =>
       obtain ⟨rfl, rfl⟩ := hcut
       generalize hc77 : ((n == 0) && ((fn == 1) || ((fn == 7) || (fn == 8)))) = z77 at *
       cases z77
       ·go_upto_region 9 with (fail)
        go_cut [96] from 97 to 105 (fun x wx => x = .bool ((n == 1) && (fn == 3)) ∧ w = wx)
        case first =>
         rcases boolTF ((n == 1)) with i1 | i1
         ·go_wp2_with fail
          go_meet
          case rel => exact ⟨by simp [i1], rfl⟩
         ·rcases boolTF ((fn == 3)) with k3 | k3
          ·go_wp2_with fail
           go_meet
           case rel => exact ⟨by simp [i1, k3], rfl⟩
          ·go_wp2_with fail
           go_meet
           case rel => exact ⟨by simp [i1, k3], rfl⟩
        case rest =>
         obtain ⟨rfl, rfl⟩ := hcut
         generalize hc96 : ((n == 1) && (fn == 3)) = z96 at *
         cases z96
         ·go_upto_region 11 with (fail)
          go_cut [107] from 108 to 118 (fun x wx => x = .bool ((a == b) && ((fn == 6) || (fn == 7))) ∧ w = wx)
          case first =>
           rcases boolTF ((a == b)) with i0 | i0
           ·go_wp2_with fail
            go_meet
            case rel => exact ⟨by simp [i0], rfl⟩
           ·rcases boolTF ((fn == 6)) with k6 | k6
            ·rcases boolTF ((fn == 7)) with k7 | k7
             ·go_wp2_with fail
              go_meet
              case rel => exact ⟨by simp [i0, k6, k7], rfl⟩
             ·go_wp2_with fail
              go_meet
              case rel => exact ⟨by simp [i0, k6, k7], rfl⟩
            ·go_wp2_with fail
             go_meet
             case rel => exact ⟨by simp [i0, k6], rfl⟩
          case rest =>
           obtain ⟨rfl, rfl⟩ := hcut
           generalize hc107 : ((a == b) && ((fn == 6) || (fn == 7))) = z107 at *
           cases z107
           ·have HR : Hid (sameF true m true n fn a b = 0) := by
             show _ = _
             unfold sameF; simp only [hc31, hc62, hc77, hc96, hc107, Bool.true_and, Bool.false_and, Bool.false_eq_true, if_false]
            go_wp2_with fail
            go_ret
            exact ⟨by rw [HR.out]; rfl, rfl⟩
           ·have HR : Hid (sameF true m true n fn a b = a) := by
             show _ = _
             unfold sameF; simp only [hc31, hc62, hc77, hc96, hc107, Bool.true_and, Bool.false_and, Bool.false_eq_true, if_false, if_true]
            go_wp2_with fail
            go_ret
            exact ⟨by rw [HR.out]; rfl, rfl⟩
         ·have HR : Hid (sameF true m true n fn a b = b) := by
           show _ = _
           unfold sameF; simp only [hc31, hc62, hc77, hc96, Bool.true_and, Bool.false_and, Bool.false_eq_true, if_false, if_true]
          go_wp2_with fail
          go_ret
          exact ⟨by rw [HR.out]; rfl, rfl⟩
       ·have HR : Hid (sameF true m true n fn a b = b) := by
         show _ = _
         unfold sameF; simp only [hc31, hc62, hc77, Bool.true_and, Bool.false_and, Bool.false_eq_true, if_false, if_true]
        go_wp2_with fail
        go_ret
        exact ⟨by rw [HR.out]; rfl, rfl⟩
     ·have HR : Hid (sameF true m true n fn a b = a) := by
       show _ = _
       unfold sameF; simp only [hc31, hc62, Bool.true_and, Bool.false_and, Bool.false_eq_true, if_false, if_true]
      go_wp2_with fail
      go_ret
      exact ⟨by rw [HR.out]; rfl, rfl⟩
   ·have HR : Hid (sameF true m true n fn a b = a) := by
     show _ = _
     unfold sameF; simp only [hc31, Bool.true_and, Bool.false_and, Bool.false_eq_true, if_false, if_true]
    go_wp2_with fail
    go_ret
    exact ⟨by rw [HR.out]; rfl, rfl⟩
end Go.Proofs.YtkhfddodmjnecaaDoor
