/-
 Contract of slices.Reverse at lists of integers of the call's own.
-/
import Derived.Test.YtnnhobbabcfogaaDoorZDeadDrops10
set_option linter.all false
namespace Go.Proofs.YtnnhobbabcfogaaDoor
open Go.ChangeShapes Go.WideShapes Go.ChangeAt Go.RowKit
set_option maxHeartbeats 2000000
set_option maxRecDepth 20000

/-- the k first and the k last have changed places -/
structure RevR (l cur : List Int) (k : Nat) : Prop where
 len : cur.length = l.length
 le : 2 * k ≤ l.length
 get : ∀ t, t < l.length → cur.getD t 0 = if t < k ∨ l.length - k ≤ t then l.getD (l.length - 1 - t) 0 else l.getD t 0
theorem getD_setI (l : List Int) (i t : Nat) (x : Int) (h : i < l.length) : (l.set i x).getD t 0 = if i = t then x else l.getD t 0 := by
 by_cases e : i = t
 ·subst e; simp [List.getD, h]
 ·simp [List.getD, List.getElem?_set, e]
theorem RevR.start (l : List Int) : RevR l l 0 := ⟨rfl, by omega, fun t ht => by rw [if_neg (by omega)]⟩
theorem RevR.step {l cur : List Int} {k : Nat} (h : RevR l cur k) (hk : 2 * k + 1 < l.length) : RevR l ((cur.set k (cur.getD (l.length - 1 - k) 0)).set (l.length - 1 - k) (cur.getD k 0)) (k + 1) := by
 have hl := h.len
 refine ⟨by simpa using h.len, by omega, fun t ht => ?_⟩
 have hx := h.get k (by omega)
 have hy := h.get (l.length - 1 - k) (by omega)
 rw [if_neg (by omega)] at hx hy
 rw [getD_setI (cur.set k (cur.getD (l.length - 1 - k) 0)) (l.length - 1 - k) t _ (by rw [List.length_set]; omega), getD_setI cur k t _ (by omega), hx, hy, h.get t ht]
 by_cases e1 : l.length - 1 - k = t
 ·rw [if_pos e1, if_pos (by omega), ← e1, show l.length - 1 - (l.length - 1 - k) = k by omega]
 ·rw [if_neg e1]
  by_cases e2 : k = t
  ·rw [if_pos e2, if_pos (by omega), ← e2]
  ·rw [if_neg e2]
   by_cases e3 : t < k ∨ l.length - k ≤ t
   ·rw [if_pos e3, if_pos (by omega)]
   ·rw [if_neg e3, if_neg (by omega)]
theorem RevR.done {l cur : List Int} {k : Nat} (h : RevR l cur k) (hk : ¬ 2 * k + 1 < l.length) : cur = l.reverse := by
 apply List.ext_getElem
 ·simpa using h.len
 ·intro t h1 h2
  have hl := h.len
  have ht : t < l.length := by omega
  have := h.get t ht
  have e : (if t < k ∨ l.length - k ≤ t then l.getD (l.length - 1 - t) 0 else l.getD t 0) = l.getD (l.length - 1 - t) 0 := by
   split
   ·rfl
   ·have := h.le
    rw [show l.length - 1 - t = t by omega]
  rw [e] at this
  rw [List.getElem_reverse]
  simpa [List.getD, h1, ht, show l.length - 1 - t < l.length by omega] using this
theorem reverse_c (l : List Int) (g cp : Nat) (w : World) (B : Nat) (hv : OwnI w B (.slice (some ⟨g, 0, none⟩) l.length cp) l) (hn : l.length ≤ 1000000000) :
  Calls Tryd.prog 74 #[.slice (some ⟨g, 0, none⟩) l.length cp] w fun e w' => e = .returned (.tuple #[]) ∧ OwnI w' B (.slice (some ⟨g, 0, none⟩) l.length cp) l.reverse ∧ But g w w' := by
 have HV := Lib.hid hv
 obtain ⟨-, hcap, hcm, -, -, -⟩ := hv.cellAt
 unfold maxLen at hcm
 clear hv
 go_enter Tryd.func74, Tryd.ntmps74
 go_wp2_with fail
 go_loopw [2, 3] (fun i j wr => ∃ (k : Nat) (cur : List Int), i = .int .i64 (k : Int) ∧ j = .int .i64 ((l.length : Int) - 1 - k) ∧ Hid (RevR l cur k) ∧ Hid (OwnI wr B (.slice (some ⟨g, 0, none⟩) l.length cp) cur) ∧ Hid (But g w wr))
  (fun i _ _ => l.length - (intOf i).toNat)
 case atStart => exact ⟨0, l, rfl, by go_num, RevR.start l, HV, But.refl _ _⟩
 case round =>
  obtain ⟨k, cur, rfl, rfl, D, O, Hb⟩ := hrel
  by_cases hlt : 2 * k + 1 < l.length
  ·have hd : decide ((k : Int) < (l.length : Int) - 1 - k) = true := by simp; omega
   have D1 := D.out.step hlt
   have hj : (l.length : Int) - 1 - k = ((l.length - 1 - k : Nat) : Int) := by omega
   obtain ⟨-, -, -, -, hcells, hfr⟩ := O.out.cellAt
   have hx := hcells k (by omega)
   have hy := hcells (l.length - 1 - k) (by omega)
   have hfk := hfr k
   have hfj := hfr (l.length - 1 - k)
   generalize cur.getD k 0 = x at *
   generalize cur.getD (l.length - 1 - k) 0 = y at *
   have D1 := Lib.hid D1
   have hkj : k ≠ l.length - 1 - k := by omega
   clear hcells hfr D
   rw [hj] at hd ⊢
   have hjl : l.length - 1 - k < l.length := by omega
   obtain ⟨jj, hjj⟩ : ∃ jj, Hid (l.length - 1 - k = jj) := ⟨_, rfl⟩
   go_wp2_with fail
   refine wp_region_game (fun _ => False) (by kernel_rfl) ?_
   show wpE _ _ _ _ _ _ _ wr.drew
   replace O : Hid (OwnI wr.drew B (.slice (some ⟨g, 0, none⟩) l.length cp) cur) := O
   replace Hb : Hid (But g w wr.drew) := Hb.out.trans (But.below (Below.drew (Below.refl _ _)))
   replace hx : wr.drew.cell? ⟨g, k, none⟩ = _ := hx
   replace hy : wr.drew.cell? ⟨g, l.length - 1 - k, none⟩ = _ := hy
   replace hfk : wr.drew.frozen? ⟨g, k, none⟩ = _ := hfk
   replace hfj : wr.drew.frozen? ⟨g, l.length - 1 - k, none⟩ = _ := hfj
   generalize wr.drew = W at O Hb hx hy hfk hfj ⊢
   refine E_mob 0 _ rfl (by kernel_rfl) ?_
   simp only [List.getElem_toArray, List.getElem_cons_succ, List.getElem_cons_zero]
   go_big_quiet_step (fail)
   refine wpQuiet_nil ?_
   refine E_mob 1 _ rfl (by kernel_rfl) ?_
   simp only [List.getElem_toArray, List.getElem_cons_succ, List.getElem_cons_zero]
   go_big_quiet_step (fail)
   refine wpQuiet_nil ?_
   refine E_mob 2 _ rfl (by kernel_rfl) ?_
   simp only [List.getElem_toArray, List.getElem_cons_succ, List.getElem_cons_zero]
   go_big_quiet_step (fail)
   refine wpQuiet_nil ?_
   refine E_mob 3 _ rfl (by kernel_rfl) ?_
   simp only [List.getElem_toArray, List.getElem_cons_succ, List.getElem_cons_zero]
   go_big_quiet_step (fail)
   refine wpQuiet_nil ?_
   refine E_mob 4 _ rfl (by kernel_rfl) ?_
   simp only [List.getElem_toArray, List.getElem_cons_succ, List.getElem_cons_zero]
   go_big_quiet_step (fail)
   refine wpQuiet_nil ?_
   refine E_mob 5 _ rfl (by kernel_rfl) ?_
   simp only [List.getElem_toArray, List.getElem_cons_succ, List.getElem_cons_zero]
   go_big_quiet_step (fail)
   refine wpQuiet_nil ?_
   refine E_mob 6 _ rfl (by kernel_rfl) ?_
   simp only [List.getElem_toArray, List.getElem_cons_succ, List.getElem_cons_zero]
   go_big_quiet_step (fail)
   refine wpQuiet_nil ?_
   refine E_mob 8 _ rfl (by kernel_rfl) ?_
   simp only [List.getElem_toArray, List.getElem_cons_succ, List.getElem_cons_zero]
   go_big_quiet_step (fail)
   refine wpQuiet_nil ?_
   refine E_mob 9 _ rfl (by kernel_rfl) ?_
   simp only [List.getElem_toArray, List.getElem_cons_succ, List.getElem_cons_zero]
   go_big_quiet_step (fail)
   refine wpQuiet_nil ?_
   refine E_mob 10 _ rfl (by kernel_rfl) ?_
   simp only [List.getElem_toArray, List.getElem_cons_succ, List.getElem_cons_zero]
   go_big_quiet_step (fail)
   refine wpQuiet_nil ?_
   refine E_loud2 7 11 _ _ rfl rfl (by kernel_rfl) ?_ ?_
   ·simp only [List.getElem_toArray, List.getElem_cons_succ, List.getElem_cons_zero]
    go_wp2_with fail
    refine ⟨fun _ _ h => h.elim, ?_⟩
    refine E_loud1 11 _ rfl (by kernel_rfl) ?_
    simp only [List.getElem_toArray, List.getElem_cons_succ, List.getElem_cons_zero]
    go_wp2_with fail
    refine ⟨fun _ _ h => h.elim, ?_⟩
    refine E_mob 12 _ rfl (by kernel_rfl) ?_
    simp only [List.getElem_toArray, List.getElem_cons_succ, List.getElem_cons_zero]
    go_big_quiet_step (fail)
    refine wpQuiet_nil ?_
    refine E_loud1 13 _ rfl (by kernel_rfl) ?_
    simp only [List.getElem_toArray, List.getElem_cons_succ, List.getElem_cons_zero]
    go_wp2_with fail
    refine ⟨fun _ _ h => h.elim, ?_⟩
    refine E_mob 14 _ rfl (by kernel_rfl) ?_
    simp only [List.getElem_toArray, List.getElem_cons_succ, List.getElem_cons_zero]
    go_big_quiet_step (fail)
    refine wpQuiet_nil ?_
    refine E_loud1 15 _ rfl (by kernel_rfl) ?_
    simp only [List.getElem_toArray, List.getElem_cons_succ, List.getElem_cons_zero]
    go_wp2_with fail
    refine ⟨fun _ _ h => h.elim, ?_⟩
    refine E_done (by kernel_rfl) ?_ _
    have O1 : Hid (OwnI ((W.setCell ⟨g, k, none⟩ (.int .i64 y)).setCell ⟨g, l.length - 1 - k, none⟩ (.int .i64 x)) B (.slice (some ⟨g, 0, none⟩) l.length cp) ((cur.set k y).set (l.length - 1 - k) x)) := (O.out.set k y).set (l.length - 1 - k) x
    have B1 : Hid (But g w ((W.setCell ⟨g, k, none⟩ (.int .i64 y)).setCell ⟨g, l.length - 1 - k, none⟩ (.int .i64 x))) := (Hb.out.trans (But.setCell _ _ _ _)).trans (But.setCell _ _ _ _)
    clear O Hb hx hy hfk hfj
    go_wp2_with fail
    go_roundw
    case rel => exact ⟨k + 1, _, by go_num, by congr 1; omega, D1, O1, B1⟩
    case measure => simp [intOf]; omega
   ·simp only [List.getElem_toArray, List.getElem_cons_succ, List.getElem_cons_zero]
    go_wp2_with fail
    refine ⟨fun _ _ h => h.elim, ?_⟩
    refine E_loud1 7 _ rfl (by kernel_rfl) ?_
    simp only [List.getElem_toArray, List.getElem_cons_succ, List.getElem_cons_zero]
    go_wp2_with fail
    refine ⟨fun _ _ h => h.elim, ?_⟩
    refine E_mob 12 _ rfl (by kernel_rfl) ?_
    simp only [List.getElem_toArray, List.getElem_cons_succ, List.getElem_cons_zero]
    go_big_quiet_step (fail)
    refine wpQuiet_nil ?_
    refine E_loud1 13 _ rfl (by kernel_rfl) ?_
    simp only [List.getElem_toArray, List.getElem_cons_succ, List.getElem_cons_zero]
    go_wp2_with fail
    refine ⟨fun _ _ h => h.elim, ?_⟩
    refine E_mob 14 _ rfl (by kernel_rfl) ?_
    simp only [List.getElem_toArray, List.getElem_cons_succ, List.getElem_cons_zero]
    go_big_quiet_step (fail)
    refine wpQuiet_nil ?_
    refine E_loud1 15 _ rfl (by kernel_rfl) ?_
    simp only [List.getElem_toArray, List.getElem_cons_succ, List.getElem_cons_zero]
    go_wp2_with fail
    refine ⟨fun _ _ h => h.elim, ?_⟩
    refine E_done (by kernel_rfl) ?_ _
    have O1 : Hid (OwnI ((W.setCell ⟨g, k, none⟩ (.int .i64 y)).setCell ⟨g, l.length - 1 - k, none⟩ (.int .i64 x)) B (.slice (some ⟨g, 0, none⟩) l.length cp) ((cur.set k y).set (l.length - 1 - k) x)) := (O.out.set k y).set (l.length - 1 - k) x
    have B1 : Hid (But g w ((W.setCell ⟨g, k, none⟩ (.int .i64 y)).setCell ⟨g, l.length - 1 - k, none⟩ (.int .i64 x))) := (Hb.out.trans (But.setCell _ _ _ _)).trans (But.setCell _ _ _ _)
    clear O Hb hx hy hfk hfj
    go_wp2_with fail
    go_roundw
    case rel => exact ⟨k + 1, _, by go_num, by congr 1; omega, D1, O1, B1⟩
    case measure => simp [intOf]; omega
  ·have hd : decide ((k : Int) < (l.length : Int) - 1 - k) = false := by simp; omega
   have HR := Lib.hid (D.out.done hlt)
   go_wp2_with fail
   go_end0
   exact ⟨rfl, by rw [← HR.out]; exact O.out, Hb.out⟩
end Go.Proofs.YtnnhobbabcfogaaDoor
