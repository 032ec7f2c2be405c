/-
 Where a block leads in the end: the walk.
-/
import Derived.Test.YtnnhobbabcfogaaDoorZDeadDrops37
import Derived.Test.YtnnhobbabcfogaaDoorZDeadDrops01
import Derived.Test.YtnnhobbabcfogaaDoorZDeadDrops02
import Derived.Test.YtnnhobbabcfogaaDoorZDeadDrops26
import Derived.Test.YtnnhobbabcfogaaDoorZDeadDrops38
import Derived.WalkMore
import Derived.Carry
set_option linter.all false
namespace Go.Proofs.YtnnhobbabcfogaaDoor
open Go.ChangeShapes Go.WideShapes Go.ChangeAt Go.RowKit Go.Maps
set_option maxHeartbeats 2000000
set_option linter.unusedVariables false
set_option maxRecDepth 20000

theorem foldl_min_le : ∀ (l : List Int) (a : Int), l.foldl min a ≤ a ∧ ∀ x ∈ l, l.foldl min a ≤ x
 | [], a => ⟨Int.le_refl _, fun x hx => by cases hx⟩
 | y :: l, a => by
  obtain ⟨h1, h2⟩ := foldl_min_le l (min a y)
  refine ⟨Int.le_trans h1 (Int.min_le_left _ _), fun x hx => ?_⟩
  rcases List.mem_cons.1 hx with rfl | hx
  ·exact Int.le_trans h1 (Int.min_le_right _ _)
  ·exact h2 x hx
theorem foldl_min_mem : ∀ (l : List Int) (a : Int), l.foldl min a = a ∨ l.foldl min a ∈ l
 | [], a => .inl rfl
 | y :: l, a => by
  rcases foldl_min_mem l (min a y) with h | h
  ·rw [List.foldl_cons, h]
   rcases Int.le_total a y with k | k
   ·exact .inl (Int.min_eq_left k)
   ·right; rw [Int.min_eq_right k]; exact List.mem_cons_self ..
  ·exact .inr (List.mem_cons_of_mem _ h)
theorem minOf_spec (l : List Int) (h : l ≠ []) : Lib.minOf l ∈ l ∧ ∀ x ∈ l, Lib.minOf l ≤ x := by
 cases l with
 | nil => exact absurd rfl h
 | cons a l =>
  unfold Lib.minOf
  obtain ⟨h1, h2⟩ := foldl_min_le (a :: l) a
  refine ⟨?_, h2⟩
  rcases foldl_min_mem (a :: l) a with e | e
  ·rw [List.headD_cons, e]; exact List.mem_cons_self ..
  ·exact e
def wayS (p : Pr) (n k : Nat) : List Int := (List.range k).map fun i => (itS p n i : Int)
theorem wayS_succ (p : Pr) (n k : Nat) : wayS p n (k + 1) = wayS p n k ++ [(itS p n k : Int)] := by unfold wayS; rw [List.range_succ, List.map_append]; rfl
theorem wayS_len (p : Pr) (n k : Nat) : (wayS p n k).length = k := by simp [wayS]
def metF (p : Pr) (n : Nat) : Nat → Int → Option Int
 | 0 => fun _ => none
 | k + 1 => fun x => if x = (itS p n k : Int) then some (k : Int) else metF p n k x
theorem metF_some {p : Pr} {n : Nat} : ∀ {k : Nat} {x i : Int}, metF p n k x = some i → ∃ j : Nat, j < k ∧ i = (j : Int) ∧ x = (itS p n j : Int)
 | 0, x, i, h => by cases h
 | k + 1, x, i, h => by
  unfold metF at h
  split at h
  ·rename_i e
   simp only [Option.some.injEq] at h
   exact ⟨k, by omega, h.symm, e⟩
  ·obtain ⟨j, h1, h2, h3⟩ := metF_some h
   exact ⟨j, by omega, h2, h3⟩
theorem metF_none {p : Pr} {n : Nat} : ∀ {k : Nat} {x : Int}, metF p n k x = none → ∀ j, j < k → x ≠ (itS p n j : Int)
 | 0, x, h, j, hj => absurd hj (Nat.not_lt_zero j)
 | k + 1, x, h, j, hj => by
  unfold metF at h
  split at h
  ·cases h
  ·rename_i e
   by_cases hjk : j = k
   ·rw [hjk]; exact e
   ·exact metF_none h j (by omega)
theorem least_way {p : Pr} {n k j : Nat} (hk : k ≤ p.blks.length) (hj : j < k) (he : itS p n k = itS p n j) : Lib.minOf ((wayS p n k).drop j) = (endS p n : Int) := by
 have hne : (wayS p n k).drop j ≠ [] := by
  intro e
  have := congrArg List.length e
  simp [wayS_len] at this
  omega
 obtain ⟨h1, h2⟩ := minOf_spec _ hne
 have hmem : ∀ i, j ≤ i → i < k → (itS p n i : Int) ∈ (wayS p n k).drop j := fun i hi hik => by
  rw [List.mem_iff_getElem]
  exact ⟨i - j, by simp [wayS_len]; omega, by simp [wayS, show j + (i - j) = i by omega]⟩
 obtain ⟨i, hi, ei⟩ := List.getElem_of_mem h1
 have hil : j + i < k := by simp [wayS_len] at hi; omega
 have ei' : Lib.minOf ((wayS p n k).drop j) = (itS p n (j + i) : Int) := by rw [← ei]; simp [wayS]
 rw [ei', endS_cycle hj he hk (M := itS p n (j + i)) (fun i' a b => ?_) ⟨j + i, by omega, hil, rfl⟩]
 have := h2 _ (hmem i' a b)
 rw [ei'] at this
 omega
theorem RdI.sl' {w : World} {v : Value} {l : List Int} (h : RdI w v l) : ∃ a c, v = .slice a l.length c ∧ l.length ≤ c ∧ c ≤ maxLen := by
 obtain ⟨a, c, h1, h2, h3, -⟩ := h
 exact ⟨a, c, h1, h2, h3⟩
theorem OwnI.grown' {w w' : World} {B : Nat} {v : Value} {l : List Int} (h : OwnI w B v l) (hb : Below w.heap.size w w') : OwnI w' B v l := own_below h hb
theorem own_after {w3 w4 : World} {gm k : Nat} {v : Value} {l : List Int} {M : Int → Option Int} (ho : OwnI w3 (gm + 1) v l) (hm : MapI w3 gm k M) (hg : w3.grownBy w4 (some gm)) (hgl : gm < w3.heap.size) : Own w4 (gm + 1) w4 v l :=
 ⟨World.ownsRow.kept ho hg (.inr (fun e => MapI.ne (g := 0) hm ho e.symm)), Below.refl _ _, by have := hg.size; omega⟩
theorem own_ptr {w : World} {B n c : Nat} {a : Option Addr} {l : List Int} (h : OwnI w B (.slice a n c) l) (h0 : 0 < l.length ∨ 0 < n) : ∃ g, a = some ⟨g, 0, none⟩ := by
 obtain ⟨h1, ⟨h2, h3⟩ | ⟨g, cap, cur, h2, -⟩⟩ := h
 ·simp only [Value.slice.injEq] at h2
  omega
 ·simp only [Value.slice.injEq] at h2
  exact ⟨g, h2.1⟩
theorem MapI.block {w w' : World} {b n : Nat} {M : Int → Option Int} (h : MapI w b n M) (hb : w'.heap[b]? = w.heap[b]?) : MapI w' b n M := by
 obtain ⟨D, h1, h2, h3⟩ := h
 exact ⟨D, by obtain ⟨es, ck, r⟩ := h1; exact ⟨es, ck, by rw [hb]; exact r.1, r.2⟩, h2, h3⟩
theorem sfin_c (p : Pr) (v : Value) (n : Nat) (w : World) (hP : PrV w v p) (hJ : JmpOk p) (hn : n < p.blks.length) (hl : p.blks.length ≤ 1000000) :
  Calls Tryd.prog 51 #[v, .int .i64 (n : Int)] w fun e w' => e = .returned (.int .i64 (endS p n : Int)) ∧ Below w.heap.size w w' := by
 have HST : Hid (∀ (k : Nat) w', Ext w w' → k < p.blks.length → Calls Tryd.prog 67 #[v, .int .i64 (k : Int)] w' fun e w'' => e = .returned (.bool (stepB p k)) ∧ Below w'.heap.size w' w'') := fun k w' he hk => step_c p v k w' (hP.ext he) hk hl
 obtain ⟨nm, vo, vb, rfl, -, hvb⟩ := hP
 have hvb' := hvb
 obtain ⟨ab, cb, rfl, h1, h2, -⟩ := hvb'
 unfold maxLen at h2
 have HTO := Lib.hid (bk_to hvb)
 clear hvb
 have hmm := @run_makeMap Tryd.prog
 go_enter Tryd.func51, Tryd.ntmps51
 go_wp2_with fail
 go_step3
 go_wp2_with fail
 go_step3
 go_wp2_with fail
 clear hmm
 obtain ⟨W0, hW0⟩ : ∃ W0, W0 = w.alloc (.cells #[.string nm, .bool p.void, .int .i64 p.params, .int .i64 p.regs, vo, .slice ab p.blks.length cb] 37) := ⟨_, rfl⟩
 have M0 := Lib.hid (MapI.made W0)
 rw [← hW0]
 have hz0 : W0.heap.size = w.heap.size + 1 := by rw [hW0]; simp
 have BB0 : Hid (Below w.heap.size w W0) := by rw [hW0]; exact below_alloc w _
 have H00 := Lib.hid (heap_of_alloc w _ _ hW0)
 have l0w : w.heap.size < W0.heap.size := by omega
 clear hW0
 rw [← hz0]
 obtain ⟨W1, hW1⟩ : ∃ W1, W1 = W0.alloc (.map #[] 0) := ⟨_, rfl⟩
 rw [← hW1]
 have M0 : Hid (MapI W1 W0.heap.size 0 (metF p n 0)) := by rw [hW1]; exact M0.out
 have BB1 : Hid (Below W0.heap.size W0 W1) := by rw [hW1]; exact below_alloc W0 _
 have hz1 : W1.heap.size = W0.heap.size + 1 := by rw [hW1]; simp
 clear hW1
 generalize hgm : W0.heap.size = gm at *
 clear hgm
 have hzl : w.heap.size < gm := by omega
 have hzw : gm < W1.heap.size := by omega
 have hzw' : gm + 1 ≤ W1.heap.size := by omega
 clear hz0 hz1
 go_loopw [1, 6] (fun sn sv wr => ∃ k : Nat, sn = .int .i64 (itS p n k : Int) ∧ k ≤ p.blks.length ∧ Hid (OwnI wr (gm + 1) sv (wayS p n k)) ∧ Hid (MapI wr gm k (metF p n k)) ∧ Hid (Below w.heap.size w wr) ∧ gm < wr.heap.size ∧ Hid (wr.heap[w.heap.size]? = some (.cells #[.string nm, .bool p.void, .int .i64 p.params, .int .i64 p.regs, vo, .slice ab p.blks.length cb] 37 (0, 0))) ∧ Hid (∀ i j, i < j → j < k → itS p n i ≠ itS p n j)) (fun _ sv _ => match sv with | .slice _ m _ => p.blks.length + 1 - m | _ => 0)
 case atStart =>
  refine ⟨0, rfl, Nat.zero_le _, OwnI.nil _ _, M0, BB0.out.trans (BB1.out.mono (by omega)), by omega, ?_, fun i j h1 h2 => absurd h2 (Nat.not_lt_zero _)⟩
  exact (BB1.out.block _ (by omega)).trans H00.out
 case round =>
  clear M0 BB1 H00 hzw hzw'
  obtain ⟨k, rfl, hk, HO, HM, BB, hgl, H0, HD⟩ := hrel
  have hlq := hJ.it hn k
  obtain ⟨aw, cw, rfl, hw1, hw2⟩ := RdI.sl' HO.out.rd
  rw [wayS_len] at *
  obtain ⟨y0, y1, y2, y3, y4, y5, l0⟩ := cl6 H0.out
  go_wp2_with fail
  refine (HST.out (itS p n k) wr (Ext.below BB.out) hlq).mono ?_
  rintro e w3 ⟨rfl, hb3⟩
  have H0 := Lib.hid ((hb3.block _ l0).trans H0.out)
  have HO := Lib.hid (HO.out.grown' hb3)
  have HM := Lib.hid (HM.out.grow hb3)
  have BB := Lib.hid (BB.out.trans (hb3.mono BB.out.size))
  have hgl : gm < w3.heap.size := Nat.lt_of_lt_of_le hgl hb3.size
  clear y0 y1 y2 y3 y4 y5 hb3 l0
  obtain ⟨y0, y1, y2, y3, y4, y5, l0⟩ := cl6 H0.out
  have hlook := HM.out.look (itS p n k : Int) (wf_i64' _ (by omega) (by omega))
  cases hst : stepB p (itS p n k)
  ·have HR : Hid (endS p n = itS p n k) := endS_stop hk hst
   cases hm : metF p n k (itS p n k : Int)
   ·rw [hm] at hlook
    clear hm
    have Hst := Lib.hid hst
    clear hst
    simp only [Option.getD_none, Option.isSome_none] at hlook
    go_wp2_with fail
    rw [Exit.noGoto_ret]
    go_ret
    exact ⟨by rw [HR.out]; rfl, BB.out⟩
   ·rw [hm] at hlook
    clear hm
    simp only [Option.getD_some, Option.isSome_some] at hlook
    go_wp2_with fail
    refine (HST.out (itS p n k) w3 (Ext.below BB.out) hlq).mono ?_
    rintro e w4 ⟨rfl, hb4⟩
    rw [hst]
    have BB := Lib.hid (BB.out.trans (hb4.mono BB.out.size))
    clear hst
    go_wp2_with fail
    rw [Exit.noGoto_ret]
    go_ret
    exact ⟨by rw [HR.out]; rfl, BB.out⟩
  ·cases hm : metF p n k (itS p n k : Int)
   ·have hnn := Lib.hid (metF_none hm)
    rw [hm] at hlook
    clear hm
    simp only [Option.getD_none, Option.isSome_none] at hlook
    have HD2 : Hid (∀ i j, i < j → j < k + 1 → itS p n i ≠ itS p n j) := fun i j h1 h2 => by
     by_cases e : j = k
     ·subst e
      intro e2
      exact hnn.out i h1 (by rw [e2])
     ·exact HD.out i j h1 (by omega)
    have hk2 : k + 1 ≤ p.blks.length := way_len hJ hn HD2.out
    obtain ⟨b, o, rfl, c3⟩ := HTO.out (itS p n k) hlq
    have hbl : b < w.heap.size := World.block_lt_of_cell? w _ c3
    rw [itS_next hJ hn hst] at c3
    clear hst hnn
    have hms : Hid ((fun y => if y = (itS p n k : Int) then some (k : Int) else metF p n k y) = metF p n (k + 1)) := rfl
    have hws := Lib.hid (wayS_succ p n k)
    go_wp2_with (first | (at_mapUpdate; refine MapI.put HM.out (itS p n k : Int) (k : Int) (wf_i64' _ (by omega) (by omega)) (by unfold maxLen; omega) rfl _ _ _ rfl rfl rfl rfl ?_; intro w4 hs4 hg4; have O := own_after HO.out HM.out hg4 hgl; have BB4 := BB.out.grown hg4 (by omega) (fun q hq => by simp only [Option.some.injEq] at hq; omega); have H4 := (hg4.block _ l0 (by simp only [ne_eq, Option.some.injEq]; omega)).trans H0.out) | (at_builtin; refine app1 O rfl rfl rfl rfl (by first | rfl | simp) (by rw [wayS_len]; omega) ?_; intro v5 w5 O1; have BB5 := BB4.trans (O1.below.mono (by omega)); have H5 := Lib.hid ((O1.below.block _ (by omega)).trans H4); have x5 := (cl6 H5.out).2.2.2.2.2.1; have c5 := Ext.below BB5 _ _ c3))
    have HO5 : Hid (OwnI w5 (gm + 1) v5 (wayS p n (k + 1))) := by rw [hws.out]; exact O1.own
    have HM5 : Hid (MapI w5 gm (k + 1) (metF p n (k + 1))) := by rw [← hms.out]; exact hs4.block (O1.below.block _ (by omega))
    have HB5 := Lib.hid BB5
    have hg5 : gm < w5.heap.size := by have := O1.below.size; have := hg4.size; omega
    obtain ⟨a5, cc5, e5, -, -⟩ := RdI.sl' HO5.out.rd
    rw [wayS_len] at e5
    subst e5
    exact ⟨⟨k + 1, rfl, hk2, HO5, HM5, HB5, hg5, H5, HD2⟩, by simp; omega⟩
   ·rename_i i
    obtain ⟨j, hjk, rfl, hej⟩ := metF_some hm
    rw [hm] at hlook
    clear hm
    simp only [Option.getD_some, Option.isSome_some] at hlook
    have HLE : Hid (Lib.minOf ((wayS p n k).drop j) = (endS p n : Int)) := least_way hk hjk (by omega)
    obtain ⟨gw, rfl⟩ : ∃ gw, aw = some ⟨gw, 0, none⟩ := own_ptr HO.out (by omega)
    have hcw := (OwnI.cellAt HO.out).2.2.2.2.1
    have HCW := Lib.hid hcw
    clear hcw hej
    have Hst := Lib.hid hst
    clear hst
    have j1 : 0 ≤ (j : Int) := by omega
    have j2 : (j : Int) ≤ (k : Int) := by omega
    have j3 : (j : Int) < (cw : Int) := by omega
    have j4 : j < cw := by omega
    have j5 : j ≤ k := by omega
    unfold maxLen at hw2
    go_wp2_with fail
    refine (HST.out (itS p n k) w3 (Ext.below BB.out) hlq).mono ?_
    rintro e w4 ⟨rfl, hb4⟩
    rw [Hst.out]
    have BB := Lib.hid (BB.out.trans (hb4.mono BB.out.size))
    have HCW4 := Lib.hid (fun q hq => (hb4.cell (p := ⟨gw, q, none⟩) (own_lt HO.out rfl).2).trans (HCW.out q hq))
    clear hb4
    go_wp2_with fail
    refine (Tryd.slices_Min_int gw j (k - j) (cw - j) ((wayS p n k).drop j) w4 (by omega) (by simp [wayS_len]) (by omega) (fun q hq => by
     have hql : q < k - j := by simpa [wayS_len] using hq
     rw [HCW4.out (j + q) (by omega)]
     simp [List.getD])).mono ?_
    rintro e w5 ⟨rfl, rfl⟩
    rw [List.take_of_length_le (by simp [wayS_len]), HLE.out]
    go_wp2_with fail
    rw [Exit.noGoto_ret]
    go_ret
    exact ⟨rfl, BB.out⟩
end Go.Proofs.YtnnhobbabcfogaaDoor
