/-
 What both rows have (rushlightref17.meet).; Tables of rows of the document in memory.
-/
import Derived.Test.YtkhfddodmjnecaaZFoldConsts44

set_option linter.all false
namespace Go.Proofs.Ytkhfddodmjnecaa
open Go.ChangeShapes Go.WideShapes Go.ChangeAt Go.RowKit
set_option maxHeartbeats 4000000
set_option maxRecDepth 100000
set_option linter.unusedVariables false

def meetO (o : Option Ro) (t : Ro) : Ro := match o with
 | none => t
 | some a => meetC a t
/-- met up to k -/
def mrgC (a t : Ro) (k : Nat) : Ro := (List.range a.length).map fun i => if i < k then (meetC a t).getD i none else a.getD i none
theorem mrgC_len (a t : Ro) (k : Nat) : (mrgC a t k).length = a.length := by simp [mrgC]
theorem mrgC_get (a t : Ro) (k i : Nat) (h : i < a.length) : (mrgC a t k).getD i none = if i < k then (meetC a t).getD i none else a.getD i none := by simp [mrgC, List.getD, h]
theorem mrgC_zero (a t : Ro) : mrgC a t 0 = a := ro_ext (mrgC_len _ _ _) fun i => by
 by_cases h : i < a.length
 ·rw [mrgC_get _ _ _ _ h, if_neg (Nat.not_lt_zero _)]
 ·have e1 : (mrgC a t 0)[i]? = none := List.getElem?_eq_none (by rw [mrgC_len]; omega)
  have e2 : a[i]? = none := List.getElem?_eq_none (by omega)
  rw [List.getD_eq_getElem?_getD, e1, List.getD_eq_getElem?_getD, e2]
theorem mrgC_all (a t : Ro) : mrgC a t a.length = meetC a t := ro_ext (by rw [mrgC_len, meetC_len]) fun i => by
 by_cases h : i < a.length
 ·rw [mrgC_get _ _ _ _ h, if_pos h]
 ·have e1 : (mrgC a t a.length)[i]? = none := List.getElem?_eq_none (by rw [mrgC_len]; omega)
  have e2 : (meetC a t)[i]? = none := List.getElem?_eq_none (by rw [meetC_len]; omega)
  rw [List.getD_eq_getElem?_getD, e1, List.getD_eq_getElem?_getD, e2]
theorem mrgC_on (a t : Ro) (k : Nat) (h : k < a.length) : mrgC a t (k + 1) = (mrgC a t k).set k ((meetC a t).getD k none) := ro_ext (by rw [List.length_set, mrgC_len, mrgC_len]) fun i => by
 by_cases hi : i < a.length
 ·rw [mrgC_get _ _ _ _ hi]
  by_cases e : i = k
  ·subst e
   rw [if_pos (by omega)]
   simp [List.getD, mrgC_len, hi]
  ·rw [show ((mrgC a t k).set k ((meetC a t).getD k none)).getD i none = (mrgC a t k).getD i none by simp [List.getD, List.getElem?_set, Ne.symm e], mrgC_get _ _ _ _ hi]
   by_cases e2 : i < k
   ·rw [if_pos e2, if_pos (by omega)]
   ·rw [if_neg e2, if_neg (by omega)]
 ·have e1 : (mrgC a t (k + 1))[i]? = none := List.getElem?_eq_none (by rw [mrgC_len]; omega)
  have e2 : ((mrgC a t k).set k ((meetC a t).getD k none))[i]? = none := List.getElem?_eq_none (by rw [List.length_set, mrgC_len]; omega)
  rw [List.getD_eq_getElem?_getD, e1, List.getD_eq_getElem?_getD, e2]
theorem set_same {t : Ro} {k : Nat} {o : Option Int} (h : t.getD k none = o) : t.set k o = t := ro_ext (by simp) fun i => by
 by_cases e : k = i
 ·subst e
  by_cases hl : k < t.length
  ·rw [show (t.set k o).getD k none = o by simp [List.getD, hl], h]
  ·have e1 : (t.set k o)[k]? = none := List.getElem?_eq_none (by simp; omega)
   have e2 : t[k]? = none := List.getElem?_eq_none (by omega)
   rw [List.getD_eq_getElem?_getD, e1, List.getD_eq_getElem?_getD, e2]
 ·simp [List.getD, List.getElem?_set, e]
/-- what is taken away, and what stays -/
theorem mrgC_go {a t : Ro} {k : Nat} (h : k < a.length) (hn : (t.getD k none).isSome = false ∨ (t.getD k none).getD 0 ≠ ((mrgC a t k).getD k none).getD 0) : mrgC a t (k + 1) = (mrgC a t k).set k none := by
 rw [mrgC_on _ _ _ h]
 congr 1
 rw [mrgC_get _ _ _ _ h, if_neg (Nat.lt_irrefl _)] at hn
 rw [meetC_get]
 cases ha : a.getD k none with
 | none => split <;> rfl
 | some x =>
  rw [ha] at hn
  cases ht : t.getD k none with
  | none => rw [if_neg (by simp)]
  | some y =>
   rw [ht] at hn
   simp only [Option.isSome_some, Bool.true_eq_false, false_or, Option.getD_some] at hn
   rw [if_neg (by simp only [Option.some.injEq]; exact fun e => hn e.symm)]
theorem mrgC_stay {a t : Ro} {k : Nat} (h : k < a.length) (h1 : (t.getD k none).isSome = true) (h2 : (t.getD k none).getD 0 = ((mrgC a t k).getD k none).getD 0) : mrgC a t (k + 1) = mrgC a t k := by
 rw [mrgC_on _ _ _ h]
 refine set_same ?_
 rw [mrgC_get _ _ _ _ h, if_neg (Nat.lt_irrefl _)] at h2 ⊢
 rw [meetC_get]
 cases ha : a.getD k none with
 | none => split <;> rfl
 | some x =>
  rw [ha] at h2
  cases ht : t.getD k none with
  | none => rw [ht] at h1; cases h1
  | some y =>
   rw [ht] at h2
   simp only [Option.getD_some] at h2
   rw [h2, if_pos rfl]
theorem rmeet_c (va vb : Value) (o : Option Ro) (t : Ro) (w : World) (ha : RwV w va o) (hb : RwV w vb (some t)) (hl : t.length ≤ 1000) (hla : ∀ a, o = some a → a.length = t.length) :
  Calls Try.prog 82 #[va, vb] w fun e w' => ∃ v', e = .returned v' ∧ OwRw w' w.heap.size v' true (meetO o t) ∧ Below w.heap.size w w' := by
 have HCA : Hid (∀ W, Ext w W → Calls Try.prog 84 #[va] W fun e w' => ∃ v', e = .returned v' ∧ OwRw w' W.heap.size v' o.isSome (o.getD []) ∧ Below W.heap.size W w') := fun W hW => copied_c va o W (ha.ext hW) (by
  cases o with
  | none => simp
  | some a => rw [Option.getD_some, hla a rfl]; exact hl)
 have HCB : Hid (∀ W, Ext w W → Calls Try.prog 84 #[vb] W fun e w' => ∃ v', e = .returned v' ∧ OwRw w' W.heap.size v' true t ∧ Below W.heap.size W w') := fun W hW => copied_c vb (some t) W (hb.ext hW) hl
 have HLA := Lib.hid hla
 obtain ⟨vha, vna, rfl, -⟩ := ha
 obtain ⟨vh, vn, rfl, hh, hn⟩ := hb
 dsimp only [Option.getD_some, Option.isSome_some] at hh hn HCB ⊢
 obtain ⟨ah, ch, rfl, h1, h2, h3⟩ := hh
 obtain ⟨an, cn, rfl, n1, n2, n3⟩ := hn
 have hhl : (hasV t).length = t.length := by simp [hasV]
 have hnl : (numV t).length = t.length := by simp [numV]
 rw [hhl] at h1 h3 HCB ⊢
 rw [hnl] at n1 n3 HCB ⊢
 unfold maxLen at h2 n2
 have H3 := Lib.hid h3
 have N3 := Lib.hid n3
 clear h3 n3 hhl hnl hla
 have hA3 := heap3 w (.cells #[.bool o.isSome, vha, vna] 83) (.cells #[.bool true, .slice ah t.length ch, .slice an t.length cn] 83) (.cells #[.bool false, .slice none 0 0, .slice none 0 0] 83)
 obtain ⟨W0, hW0⟩ : ∃ W0, W0 = (((w.alloc (.cells #[.bool o.isSome, vha, vna] 83)).alloc (.cells #[.bool true, .slice ah t.length ch, .slice an t.length cn] 83)).alloc (.cells #[.bool false, .slice none 0 0, .slice none 0 0] 83)) := ⟨_, rfl⟩
 rw [← hW0] at hA3
 have hz : w.heap.size + 3 ≤ W0.heap.size := by rw [hW0]; simp
 have HA := Lib.hid hA3.1
 have HB := Lib.hid hA3.2.1
 have HR := Lib.hid hA3.2.2
 have HB0 : Hid (Below w.heap.size w W0) := by
  show Below _ _ _
  rw [hW0]; exact (below_alloc w _).alloc (by simp) _ |>.alloc (by simp; omega) _
 have HW0 := Lib.hid hW0.symm
 clear hA3 hW0
 cases o with
 | none =>
  dsimp only [Option.isSome_none] at *
  obtain ⟨b0, b1, b2, lb⟩ := cl3 HB.out
  obtain ⟨a0, a1, a2, la⟩ := cl3 HA.out
  go_enter Try.func82, Try.ntmps82
  go_wp2_with fail
  rw [HW0.out]
  clear HW0
  refine (HCB.out W0 (Ext.below HB0.out)).mono ?_
  rintro e w3 ⟨v', rfl, ho, hb3⟩
  have HR := Lib.hid ((hb3.block _ (by omega)).trans HR.out)
  have hz3 : w.heap.size + 3 ≤ w3.heap.size := by have := hb3.size; omega
  obtain ⟨r0, r1, r2, lr⟩ := cl3 HR.out
  have fr0 := frozen_of_heap HR.out 0
  have fr1 := frozen_of_heap HR.out 1
  have fr2 := frozen_of_heap HR.out 2
  have HO := Lib.hid (fun u1 u2 => ho.set3 (b := w.heap.size + 2) (u0 := .bool true) (u1 := u1) (u2 := u2) (by omega))
  obtain ⟨vh3, vn3, rfl, oo1, oo2⟩ := ho
  obtain ⟨p3, p4, rfl⟩ := ow_form oo1
  obtain ⟨p5, p6, rfl⟩ := ow_form oo2
  clear oo1 oo2
  have B3 := Lib.hid (HB0.out.trans (hb3.mono HB0.out.size))
  clear hb3 b0 b1 b2 lb a0 a1 a2 la
  go_wp2_with fail
  refine bodyPost_ret (v := .agg #[.bool true, .slice p3 t.length p4, .slice p5 t.length p6]) (by simp [results, Try.results82, go_sem, r0, r1, r2]) rfl ?_
  exact ⟨_, rfl, (HO.out _ _).base (by omega), ((B3.out.setCell (p := ⟨w.heap.size + 2, 0, none⟩) (by simp) _).setCell (p := ⟨w.heap.size + 2, 1, none⟩) (by simp) _).setCell (p := ⟨w.heap.size + 2, 2, none⟩) (by simp) _⟩
 | some a =>
  have hal := HLA.out a rfl
  dsimp only [Option.isSome_some, Option.getD_some] at *
  obtain ⟨b0, b1, b2, lb⟩ := cl3 HB.out
  obtain ⟨a0, a1, a2, la⟩ := cl3 HA.out
  clear HLA
  go_enter Try.func82, Try.ntmps82
  have HAL := Lib.hid hal
  clear hal
  go_wp2_with fail
  rw [HW0.out]
  clear HW0
  refine (HCA.out W0 (Ext.below HB0.out)).mono ?_
  rintro e w3 ⟨v', rfl, ⟨vh3, vn3, rfl, oh, on⟩, hb3⟩
  rw [HAL.out] at oh on
  have HR := Lib.hid ((hb3.block _ (by omega)).trans HR.out)
  have HB := Lib.hid ((hb3.block _ (by omega)).trans HB.out)
  have hz3 : w.heap.size + 3 ≤ w3.heap.size := by have := hb3.size; omega
  obtain ⟨ah3, ch3, rfl⟩ := ow_form oh
  obtain ⟨an3, cn3, rfl⟩ := ow_form on
  have M0 : Hid (BhM W0 W0.heap.size w3.heap.size t.length (w3.alloc (.cells #[.bool true, .slice ah3 t.length ch3, .slice an3 t.length cn3] 83)) (.slice ah3 t.length ch3) (.slice an3 t.length cn3) (hasV (mrgC a t 0)) (numV (mrgC a t 0))) := by
   rw [mrgC_zero]
   exact ⟨heap_alloc_new w3 _, own_below oh (below_alloc w3 _), own_below on (below_alloc w3 _), hb3.trans ((below_alloc w3 _).mono hb3.size), hb3.size⟩
  have B3 := Lib.hid HB0.out
  have HRW : Hid (∀ wr, Below W0.heap.size W0 wr → wr.heap[w.heap.size + 1]? = some (.cells #[.bool true, .slice ah t.length ch, .slice an t.length cn] 83) ∧ wr.heap[w.heap.size + 2]? = some (.cells #[.bool false, .slice none 0 0, .slice none 0 0] 83) ∧ Below w.heap.size w wr) := fun wr h => by
   have e1 := (hb3.block (w.heap.size + 1) (by omega)).symm.trans HB.out
   have e2 := (hb3.block (w.heap.size + 2) (by omega)).symm.trans HR.out
   exact ⟨(h.block _ (by omega)).trans e1, (h.block _ (by omega)).trans e2, HB0.out.trans (h.mono (by omega))⟩
  have HCV : Hid (∀ W, Ext w W → ∀ i, i < t.length → ∃ b o, ah = some ⟨b, o, none⟩ ∧ b < w.heap.size ∧ W.cell? ⟨b, o + i, none⟩ = some (.bool (t.getD i none).isSome)) := fun W hW i hi => by
   obtain ⟨b, o, e1, e2⟩ := H3.out i hi
   rw [show (hasV t)[i]? = some (.bool (t.getD i none).isSome) by simp [hasV, List.getD, hi]] at e2
   exact ⟨b, o, e1, World.block_lt_of_cell? _ _ e2, hW _ _ e2⟩
  have HNV : Hid (∀ W, Ext w W → ∀ i, i < t.length → ∃ b o, an = some ⟨b, o, none⟩ ∧ b < w.heap.size ∧ W.cell? ⟨b, o + i, none⟩ = some (.int .u32 ((t.getD i none).getD 0))) := fun W hW i hi => by
   obtain ⟨b, o, e1, e2⟩ := N3.out i hi
   rw [show (numV t)[i]? = some (.int .u32 ((t.getD i none).getD 0)) by simp [numV, List.getD, hi]] at e2
   exact ⟨b, o, e1, World.block_lt_of_cell? _ _ e2, hW _ _ e2⟩
  have hzz := hb3.size
  have hz0 := hz
  clear b0 b1 b2 lb a0 a1 a2 la HB HR oh on HCA HCB H3 N3 hb3 HB0 hz3 HA
  go_wp2_with fail
  generalize w3.alloc (.cells #[.bool true, .slice ah3 t.length ch3, .slice an3 t.length cn3] 83) = W4 at *
  generalize hb5 : w3.heap.size = b5 at *
  clear hb5
  go_loopw [6] (fun i wr => ∃ k : Nat, k ≤ t.length ∧ i = .int .i64 (k : Int) ∧ Hid (BhM W0 W0.heap.size b5 t.length wr (.slice ah3 t.length ch3) (.slice an3 t.length cn3) (hasV (mrgC a t k)) (numV (mrgC a t k)))) (fun i _ => t.length - (intOf i).toNat)
  case atStart => exact ⟨0, Nat.zero_le _, rfl, M0⟩
  case round =>
   clear M0
   obtain ⟨k, hk, rfl, M⟩ := hrel
   obtain ⟨hB6, hR6, b6⟩ := HRW.out wr M.out.bl
   obtain ⟨z0, z1, z2, lz⟩ := cl3 M.out.bx
   by_cases hlt : k < t.length
   ·obtain ⟨x0, x1, x2, lx⟩ := cl3 hB6
    have g1 : decide (k < t.length) = true := decide_eq_true hlt
    have g2 : decide ((k : Int) < (t.length : Int)) = true := decide_eq_true (by omega)
    obtain ⟨gh, c', e⟩ := own_slice M.out.oh (by omega)
    simp only [Value.slice.injEq] at e
    obtain ⟨rfl, -, rfl⟩ := e
    obtain ⟨gn, c', e⟩ := own_slice M.out.on (by omega)
    simp only [Value.slice.injEq] at e
    obtain ⟨rfl, -, rfl⟩ := e
    obtain ⟨m1, m2, m3, m4, m5⟩ := M.out.ne (by omega)
    obtain ⟨cgh, cgn, fgh, fgn, lgh, lgn⟩ := M.out.at hlt
    obtain ⟨bh, oh, rfl, lbh, ch0⟩ := HCV.out wr (Ext.below b6) k hlt
    obtain ⟨bn, on, rfl, lbn, cn0⟩ := HNV.out wr (Ext.below b6) k hlt
    have hka : k < a.length := by rw [HAL.out]; exact hlt
    have HGO := Lib.hid (mrgC_go (a := a) (t := t) hka)
    have HST := Lib.hid (mrgC_stay (a := a) (t := t) hka)
    rw [show (hasV (mrgC a t k))[k]? = some (.bool ((mrgC a t k).getD k none).isSome) by simp [hasV, List.getD, mrgC_len, hka]] at cgh
    rw [show (numV (mrgC a t k))[k]? = some (.int .u32 (((mrgC a t k).getD k none).getD 0)) by simp [numV, List.getD, mrgC_len, hka]] at cgn
    have HM : Hid (∀ W, Below wr.heap.size wr W → BhM W0 W0.heap.size b5 t.length ((W.setCell ⟨gh, k, none⟩ (.bool false)).setCell ⟨gn, k, none⟩ (.int .u32 0)) (.slice (some ⟨gh, 0, none⟩) t.length ch3) (.slice (some ⟨gn, 0, none⟩) t.length cn3) (hasV ((mrgC a t k).set k none)) (numV ((mrgC a t k).set k none))) := fun W hW => (M.out.below hW).set hlt none
    have HB7 : Hid (∀ W, Below wr.heap.size wr W → BhM W0 W0.heap.size b5 t.length W (.slice (some ⟨gh, 0, none⟩) t.length ch3) (.slice (some ⟨gn, 0, none⟩) t.length cn3) (hasV (mrgC a t k)) (numV (mrgC a t k))) := fun W hW => M.out.below hW
    have lhz : gh < wr.heap.size ∧ gn < wr.heap.size := ⟨lgh, lgn⟩
    have n1 : gh ≠ bh := by omega
    have n2 : gn ≠ bn := by omega
    have n3 : gh ≠ bn := by omega
    have n4 : gn ≠ bh := by omega
    have n5 : gh ≠ w.heap.size + 1 := by omega
    have n6 : gn ≠ w.heap.size + 1 := by omega
    clear hka hB6 hR6 b6 M
    generalize hs : (t.getD k none).isSome = S at *
    generalize hx : (t.getD k none).getD 0 = X at *
    generalize hy : ((mrgC a t k).getD k none).getD 0 = Y at *
    generalize ((mrgC a t k).getD k none).isSome = SY at *
    clear hs hx hy
    cases S
    ·have HT : Hid (mrgC a t (k + 1) = (mrgC a t k).set k none) := HGO.out (.inl rfl)
     clear HGO HST
     go_wp2_with fail
     go_quiet (fail)
     have HM8 := Lib.hid (HM.out _ (below_drewN2 wr nq))
     rw [← HT.out] at HM8
     clear HM HB7
     go_wp2_with fail
     go_roundw
     case rel => exact ⟨k + 1, hlt, by go_num, HM8⟩
     case measure => simp [intOf]; omega
    ·by_cases hxy : X = Y
     ·subst hxy
      have HT : Hid (mrgC a t (k + 1) = mrgC a t k) := HST.out rfl rfl
      clear HGO HST
      go_wp2_with fail
      go_quiet (fail)
      have HM8 := Lib.hid (HB7.out _ (below_drewN2 wr nq))
      rw [← HT.out] at HM8
      clear HM HB7
      go_wp2_with fail
      go_roundw
      case rel => exact ⟨k + 1, hlt, by go_num, HM8⟩
      case measure => simp [intOf]; omega
     ·have HT : Hid (mrgC a t (k + 1) = (mrgC a t k).set k none) := HGO.out (.inr hxy)
      have e1 : (X == Y) = false := beq_eq_false_iff_ne.2 hxy
      have e2 : (X != Y) = true := bne_iff_ne.2 hxy
      clear HGO HST hxy
      go_wp2_with fail
      go_quiet (fail)
      have HM8 := Lib.hid (HM.out _ (below_drewN2 wr nq))
      rw [← HT.out] at HM8
      clear HM HB7
      go_wp2_with fail
      go_roundw
      case rel => exact ⟨k + 1, hlt, by go_num, HM8⟩
      case measure => simp [intOf]; omega
   ·obtain rfl : k = t.length := by omega
    obtain ⟨r0, r1, r2, lr⟩ := cl3 hR6
    have fr0 := frozen_of_heap hR6 0
    have fr1 := frozen_of_heap hR6 1
    have fr2 := frozen_of_heap hR6 2
    have oh := M.out.oh
    have on := M.out.on
    have hml : (meetC a t).length = t.length := by rw [meetC_len]; exact HAL.out
    rw [← HAL.out, mrgC_all, HAL.out] at oh on
    have HO : Hid (OwRw wr W0.heap.size (.agg #[.bool true, .slice ah3 t.length ch3, .slice an3 t.length cn3]) true (meetC a t)) := ⟨_, _, rfl, by rw [hml]; exact oh, by rw [hml]; exact on⟩
    clear oh on hml
    have B8 := Lib.hid b6
    clear b6 hB6 hR6
    go_wp2_with fail
    refine bodyPost_ret (v := .agg #[.bool true, .slice ah3 t.length ch3, .slice an3 t.length cn3]) (by simp [results, Try.results82, go_sem, r0, r1, r2]) rfl ?_
    exact ⟨_, rfl, (HO.out.set3 (by omega)).base (by omega), ((B8.out.setCell (p := ⟨w.heap.size + 2, 0, none⟩) (by simp) _).setCell (p := ⟨w.heap.size + 2, 1, none⟩) (by simp) _).setCell (p := ⟨w.heap.size + 2, 2, none⟩) (by simp) _⟩
end Go.Proofs.Ytkhfddodmjnecaa

set_option linter.all false
namespace Go.Proofs.Ytkhfddodmjnecaa
open Go.ChangeShapes Go.WideShapes Go.ChangeAt Go.RowKit
set_option maxHeartbeats 4000000
set_option maxRecDepth 100000
set_option linter.unusedVariables false

/-- a row's cells -/
structure Dr where
 s : Bool
 h : Value
 n : Value
instance : Inhabited Dr := ⟨⟨false, .slice none 0 0, .slice none 0 0⟩⟩
def Dr.cells (d : Dr) : List Value := [.bool d.s, d.h, d.n]
def Dr.v (d : Dr) : Value := .agg #[.bool d.s, d.h, d.n]
/-- a row of one's own -/
structure DrO (w : World) (B : Nat) (d : Dr) (o : Option Ro) : Prop where
 s : d.s = o.isSome
 h : w.ownsRow B 4 1 d.h (o.getD []).length (hasV (o.getD []))
 n : w.ownsRow B 36 1 d.n (o.getD []).length (numV (o.getD []))
theorem DrO.below {w w' : World} {B : Nat} {d : Dr} {o : Option Ro} (h : DrO w B d o) (hb : Below w.heap.size w w') : DrO w' B d o := ⟨h.s, own_below h.h hb, own_below h.n hb⟩
theorem DrO.base {w : World} {B B' : Nat} {d : Dr} {o : Option Ro} (h : DrO w B d o) (hb : B' ≤ B) : DrO w B' d o := ⟨h.s, ow_base h.h hb, ow_base h.n hb⟩
theorem DrO.rd {w : World} {B : Nat} {d : Dr} {o : Option Ro} (h : DrO w B d o) : RwV w d.v o := by
 refine ⟨d.h, d.n, by rw [← h.s]; rfl, own_rdVs (B := B) (e := 4) ?_, own_rdVs (B := B) (e := 36) ?_⟩
 ·rw [show (hasV (o.getD [])).length = (o.getD []).length by simp [hasV]]; exact h.h
 ·rw [show (numV (o.getD [])).length = (o.getD []).length by simp [numV]]; exact h.n
/-- a row stays while a block of another type turns -/
theorem DrO.turn {w w' : World} {B : Nat} {d : Dr} {o : Option Ro} {row : Option Nat} (h : DrO w B d o) (hg : w.grownBy w' row) (hr : ∀ g, row = some g → ∃ cs ty, w.heap[g]? = some (.cells cs ty) ∧ ty ≠ 4 ∧ ty ≠ 36) : DrO w' B d o := by
 have key : ∀ {e : TypeId} {v : Value} {n : Nat} {xs : List Value}, w.ownsRow B e 1 v n xs → (e = 4 ∨ e = 36) → w'.ownsRow B e 1 v n xs := fun {e v n xs} hh he => by
  refine World.ownsRow.kept hh hg ?_
  by_cases hv : v.ownBlock = none
  ·exact .inl hv
  ·right
   intro e2
   cases hro : row with
   | none => exact hv (e2.trans hro)
   | some g =>
    obtain ⟨cs, ty, h1, h2, h3⟩ := hr g hro
    refine row_not hh h1 ?_ (e2.trans hro)
    rcases he with rfl | rfl
    ·exact Ne.symm h2
    ·exact Ne.symm h3
 exact ⟨h.s, key h.h (.inl rfl), key h.n (.inr rfl)⟩
structure TbD (w : World) (B : Nat) (v : Value) (ds : List Dr) (X : List (Option Ro)) : Prop where
 len : ds.length = X.length
 own : w.ownsRow B 83 3 v X.length (ds.flatMap Dr.cells)
 row : ∀ i, i < X.length → DrO w B (ds.getD i default) (X.getD i none)
theorem TbD.below {w w' : World} {B : Nat} {v : Value} {ds : List Dr} {X : List (Option Ro)} (h : TbD w B v ds X) (hb : Below w.heap.size w w') : TbD w' B v ds X := ⟨h.len, own_below h.own hb, fun i hi => (h.row i hi).below hb⟩
theorem TbD.base {w : World} {B B' : Nat} {v : Value} {ds : List Dr} {X : List (Option Ro)} (h : TbD w B v ds X) (hb : B' ≤ B) : TbD w B' v ds X := ⟨h.len, ow_base h.own hb, fun i hi => (h.row i hi).base hb⟩
theorem TbD.nil (w : World) (B : Nat) : TbD w B (.slice none 0 0) [] [] := ⟨rfl, own_nil w B _ _, fun i hi => absurd hi (Nat.not_lt_zero _)⟩
/-- a row's three cells -/
theorem TbD.at {w : World} {B g c : Nat} {n : Nat} {ds : List Dr} {X : List (Option Ro)} (h : TbD w B (.slice (some ⟨g, 0, none⟩) n c) ds X) {i : Nat} (hi : i < X.length) :
  w.cell? ⟨g, i * 3, none⟩ = some (.bool (ds.getD i default).s) ∧ w.cell? ⟨g, i * 3 + 1, none⟩ = some (ds.getD i default).h ∧ w.cell? ⟨g, i * 3 + 2, none⟩ = some (ds.getD i default).n := by
 have hl : i < ds.length := by rw [h.len]; exact hi
 have hn : n = X.length := by
  obtain ⟨-, ⟨e, -⟩ | ⟨g', cap, cur, e, -⟩⟩ := h.own
  ·cases e
  ·simp only [Value.slice.injEq] at e; exact e.2.1
 subst hn
 have f0 := flat_at Dr.cells 3 (fun _ => rfl) ds i 0 hl (by decide)
 have f1 := flat_at Dr.cells 3 (fun _ => rfl) ds i 1 hl (by decide)
 have f2 := flat_at Dr.cells 3 (fun _ => rfl) ds i 2 hl (by decide)
 exact ⟨(World.ownsRow.cellAt h.own (i * 3 + 0) (by omega)).trans f0, (World.ownsRow.cellAt h.own (i * 3 + 1) (by omega)).trans f1, (World.ownsRow.cellAt h.own (i * 3 + 2) (by omega)).trans f2⟩
theorem getD_appL {α : Type} (a : List α) (x d : α) (i : Nat) : (a ++ [x]).getD i d = if i < a.length then a.getD i d else if i = a.length then x else d := by
 by_cases h : i < a.length
 ·rw [if_pos h]; simp [List.getD, List.getElem?_append, h]
 ·rw [if_neg h]
  by_cases e : i = a.length
  ·rw [if_pos e, e]; simp [List.getD]
  ·rw [if_neg e]
   have : (a ++ [x])[i]? = none := List.getElem?_eq_none (by simp; omega)
   rw [List.getD_eq_getElem?_getD, this]; rfl
/-- one row more -/
theorem TbD.app {w w' : World} {B : Nat} {v v' : Value} {ds : List Dr} {X : List (Option Ro)} {d : Dr} {o : Option Ro} (h : TbD w B v ds X) (hd : DrO w B d o) (hg : w.grownBy w' v.ownBlock)
  (h1 : w'.ownsRow B 83 3 v' (X.length + 1) (ds.flatMap Dr.cells ++ Dr.cells d)) : TbD w' B v' (ds ++ [d]) (X ++ [o]) := by
 have hr : ∀ g, v.ownBlock = some g → ∃ cs ty, w.heap[g]? = some (.cells cs ty) ∧ ty ≠ 4 ∧ ty ≠ 36 := fun g hgv => by
  obtain ⟨-, ⟨rfl, -⟩ | ⟨g', cap, cur, rfl, -, hb, -⟩⟩ := h.own
  ·cases hgv
  ·cases hgv; exact ⟨_, _, hb, by decide, by decide⟩
 refine ⟨by simp [h.len], ?_, fun i hi => ?_⟩
 ·rw [List.length_append, List.flatMap_append]
  simpa using h1
 ·rw [getD_appL, getD_appL, h.len]
  rw [List.length_append, List.length_singleton] at hi
  by_cases e : i < X.length
  ·rw [if_pos e, if_pos e]; exact (h.row i e).turn hg hr
  ·rw [if_neg e, if_neg e, if_pos (by omega), if_pos (by omega)]; exact hd.turn hg hr
/-- a row is laid in the place of another one -/
theorem TbD.put {w : World} {B g c : Nat} {n : Nat} {ds : List Dr} {X : List (Option Ro)} {d : Dr} {o : Option Ro} (h : TbD w B (.slice (some ⟨g, 0, none⟩) n c) ds X) (hd : DrO w B d o) {i : Nat} (hi : i < X.length) :
  TbD (((w.setCell ⟨g, i * 3, none⟩ (.bool d.s)).setCell ⟨g, i * 3 + 1, none⟩ d.h).setCell ⟨g, i * 3 + 2, none⟩ d.n) B (.slice (some ⟨g, 0, none⟩) n c) (ds.set i d) (X.set i o) := by
 have hl : i < ds.length := by rw [h.len]; exact hi
 have hn : n = X.length := by
  obtain ⟨-, ⟨e, -⟩ | ⟨g', cap, cur, e, -⟩⟩ := h.own
  ·cases e
  ·simp only [Value.slice.injEq] at e; exact e.2.1
 subst hn
 obtain ⟨-, cs, hcs⟩ := own_heap h.own (by omega)
 have o1 := (World.ownsRow.stored h.own (i * 3) (.bool d.s)).1
 have o2 := (World.ownsRow.stored o1 (i * 3 + 1) d.h).1
 have o3 := (World.ownsRow.stored o2 (i * 3 + 2) d.n).1
 have hset : (((ds.flatMap Dr.cells).set (i * 3) (.bool d.s)).set (i * 3 + 1) d.h).set (i * 3 + 2) d.n = (ds.set i d).flatMap Dr.cells := by
  have q0 := flat_set Dr.cells 3 (fun _ => rfl) ds i 0 ⟨d.s, (ds[i]?.getD ⟨d.s, d.h, d.n⟩).h, (ds[i]?.getD ⟨d.s, d.h, d.n⟩).n⟩ (.bool d.s) hl (by decide) (by rw [List.getElem?_eq_getElem hl]; rfl)
  rw [Nat.add_zero] at q0
  rw [q0]
  have q1 := flat_set Dr.cells 3 (fun _ => rfl) (ds.set i ⟨d.s, (ds[i]?.getD ⟨d.s, d.h, d.n⟩).h, (ds[i]?.getD ⟨d.s, d.h, d.n⟩).n⟩) i 1 ⟨d.s, d.h, (ds[i]?.getD ⟨d.s, d.h, d.n⟩).n⟩ d.h (by simpa using hl) (by decide) (by simp [hl]; rfl)
  rw [q1, List.set_set]
  have q2 := flat_set Dr.cells 3 (fun _ => rfl) (ds.set i ⟨d.s, d.h, (ds[i]?.getD ⟨d.s, d.h, d.n⟩).n⟩) i 2 d d.n (by simpa using hl) (by decide) (by simp [hl]; rfl)
  rw [q2, List.set_set]
 rw [hset] at o3
 have keep : ∀ {j : Nat} {e : Dr} {q : Option Ro}, DrO w B e q → DrO (((w.setCell ⟨g, i * 3, none⟩ (.bool d.s)).setCell ⟨g, i * 3 + 1, none⟩ d.h).setCell ⟨g, i * 3 + 2, none⟩ d.n) B e q := fun {j e q} he => by
  have hg : w.grownBy (((w.setCell ⟨g, i * 3, none⟩ (.bool d.s)).setCell ⟨g, i * 3 + 1, none⟩ d.h).setCell ⟨g, i * 3 + 2, none⟩ d.n) (some g) := but_grownK (((But.setCell g (i * 3) w _).trans (But.setCell g (i * 3 + 1) _ _)).trans (But.setCell g (i * 3 + 2) _ _))
  exact he.turn hg (fun z hz => by cases hz; exact ⟨cs, _, hcs, by decide, by decide⟩)
 refine ⟨by simp [h.len], by rw [List.length_set]; exact o3, fun k hk => ?_⟩
 rw [List.length_set] at hk
 by_cases e : k = i
 ·subst e
  rw [show (ds.set k d).getD k default = d by simp [List.getD, hl], show (X.set k o).getD k none = o by simp [List.getD, hi]]
  exact keep (j := 0) hd
 ·rw [show (ds.set i d).getD k default = ds.getD k default by simp [List.getD, List.getElem?_set, Ne.symm e], show (X.set i o).getD k none = X.getD k none by simp [List.getD, List.getElem?_set, Ne.symm e]]
  exact keep (j := 0) (h.row k hk)
end Go.Proofs.Ytkhfddodmjnecaa
