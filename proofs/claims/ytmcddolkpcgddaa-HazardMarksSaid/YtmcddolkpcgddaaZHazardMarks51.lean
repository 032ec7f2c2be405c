/-
 HazardMarks: the walk.
-/
import Derived.Test.YtmcddolkpcgddaaZHazardMarks50
import Derived.Test.YtmcddolkpcgddaaZHazardMarks13
import Derived.Test.YtmcddolkpcgddaaZHazardMarks14
set_option linter.all false
namespace Go.Proofs.Ytmcddolkpcgddaa
open Go.ChangeShapes Go.WideShapes Go.ChangeAt Go.RowKit
set_option maxHeartbeats 4000000
set_option linter.unusedVariables false
set_option maxRecDepth 100000
/-- the registers that are spilled, and a place -/
structure Mk22 where
 s : List Bool
 B : Int
 K : Int
structure MkOk22 (x : Mk22) : Prop where
 B : I64 x.B
 K : I64 x.K
def MkV22 (w : World) (v : Value) (x : Mk22) : Prop := ∃ vs, v = .agg #[vs, .int .i64 x.B, .int .i64 x.K] ∧ RdB w vs x.s
theorem marks_mem {P : Pr} {b q : Nat} {s : List Bool} {meet meet' : In → In → Bool} {X X' : List Nat} (hb : b < P.blks.length) (hq : q < (P.blks.getD b default).ins.length) (h2 : StillH (cutS P s) (loadsP P).length P X) (h1 : SoundH (cutS (markP P b q) s) (loadsP (markP P b q)).length (markP P b q) X')
  (hm : ∀ a i, meet' a i = true → meet a i = true) (hil : ∀ j, j < P.blks.length → (P.blks.getD j default).ins.length ≤ 1000) (i : Nat) (hi : i < P.blks.length) (z : Int) (h : z ∈ (hazL (cutS (markP P b q) s) (markP P b q) meet' X' i).map fun j : Nat => (j : Int)) :
  ∃ j : Nat, j ≤ 1001 ∧ z = (j : Int) ∧ ((if i = b ∧ q < j then j - 1 else j : Nat) : Int) ∈ (hazL (cutS P s) P meet X i).map fun j : Nat => (j : Int) := by
 obtain ⟨j, hj, rfl⟩ := List.mem_map.1 h
 unfold hazL at hj
 obtain ⟨hj1, hj2⟩ := List.mem_filter.1 hj
 have hj1 := List.mem_range.1 hj1
 rw [loadsP_mark P b q hb] at hj2 h1
 have hjl : j ≤ 1001 := by
  have h3 := markP_get P b q i hb
  by_cases e : i = b
  ·rw [if_pos e] at h3
   rw [h3] at hj1
   have h4 := markB_len (k := q) (P.blks.getD b default)
   have := hil b hb
   omega
  ·rw [if_neg e] at h3
   rw [h3] at hj1
   have := hil i hi
   omega
 obtain ⟨r1, r2⟩ := marks_haz (s := cutS P s) (meet := meet) (meet' := meet') (X := X) (X' := X') hb hq h2 h1 hj1 (fun a _ i _ h => hm a i h) hj2
 exact ⟨j, hjl, rfl, List.mem_map.2 ⟨_, by unfold hazL; exact List.mem_filter.2 ⟨List.mem_range.2 r1, r2⟩, rfl⟩⟩
theorem take_snoc22' {l : List Int} {i : Nat} (h : i < l.length) : l.take (i + 1) = l.take i ++ [l.getD i 0] := by
 rw [List.take_succ, List.getElem?_eq_getElem h]; simp [List.getD, h]
theorem any_take22 {l : List Int} {j : Nat} (h : j < l.length) (A : Int) : (l.take (j + 1)).any (fun y => y == A) = ((l.take j).any (fun y => y == A) || l.getD j 0 == A) := by
 rw [take_snoc22' h, List.any_append]; simp
theorem markP_len22 (p : Pr) (b k : Nat) : (markP p b k).blks.length = p.blks.length := List.length_set
theorem HazardMarks_w (m : Md) (v : Value) (n : Int) (x : Mk22) (vx : Value) (w : World) (hn : MdOk m) (hv : MdV w v m) (hx : MkOk22 x) (hvx : MkV22 w vx x) :
  Calls Try.prog 6 #[v, .int .i64 n, vx] w fun e w' => e = .returned (.bool true) ∧ Below w.heap.size w w' := by
 have HR : Hid (∀ w', Ext w w' → Calls Try.prog 8 #[v, .int .i64 n] w' fun e w'' => e = .returned (.bool (rightB m n)) ∧ Below w'.heap.size w' w'') := fun w' he => rightM_c m v n w' (hv.ext he)
 have HV := Lib.hid hv
 obtain ⟨s, B, K⟩ := x
 obtain ⟨vs, rfl, hs⟩ := hvx
 dsimp only at *
 have HSV := Lib.hid hs
 obtain ⟨vg, vd, vp, rfl, hvg, hvd, hvp⟩ := hv
 have hvp' := hvp
 obtain ⟨ap, cp, rfl, hp1, hp2, -⟩ := hvp'
 unfold maxLen at hp2
 have HPS := Lib.hid (RdPrs.at6 hvp).2
 have HN := Lib.hid hn
 obtain ⟨sa, sc, rfl, hs1, hs2, -⟩ := hs
 unfold maxLen at hs2
 clear hvg hvd hvp hn
 obtain ⟨W0, hW0⟩ : ∃ W0, W0 = allocs w [.cells #[vg, vd, .slice ap m.procs.length cp, .int .i64 m.main] 26, .cells #[.slice sa s.length sc, .int .i64 B, .int .i64 K] 48] := ⟨_, rfl⟩
 have B0 : Hid (Below w.heap.size w W0) := by rw [hW0]; exact allocs_below _ _
 have H0 : Hid (W0.heap[w.heap.size]? = some (.cells #[vg, vd, .slice ap m.procs.length cp, .int .i64 m.main] 26 (0, 0))) := by rw [hW0]; exact allocs_heap _ w 0 (by simp)
 have H1 : Hid (W0.heap[w.heap.size + 1]? = some (.cells #[.slice sa s.length sc, .int .i64 B, .int .i64 K] 48 (0, 0))) := by rw [hW0]; exact allocs_heap _ w 1 (by simp)
 unfold allocs at hW0
 simp only [List.foldl_cons, List.foldl_nil] at hW0
 have HW0 := Lib.hid hW0.symm
 clear hW0
 go_enter Try.func6, Try.ntmps6
 go_wp2_with fail
 rw [HW0.out]
 refine (HR.out W0 (Ext.below B0.out)).mono ?_
 rintro e w1 ⟨rfl, hb1⟩
 have H0 := Lib.hid ((hb1.block _ (Array.getElem?_eq_some_iff.1 H0.out).1).trans H0.out)
 have H1 := Lib.hid ((hb1.block _ (Array.getElem?_eq_some_iff.1 H1.out).1).trans H1.out)
 have BB := Lib.hid (B0.out.trans (hb1.mono B0.out.size))
 clear hb1 HR HW0 B0
 obtain ⟨y0, y1, y2, y3, l0⟩ := cl4 H0.out
 have m0 := cell_of_heap H1.out 0
 have m1 := cell_of_heap H1.out 1
 have m2 := cell_of_heap H1.out 2
 have l1 := (Array.getElem?_eq_some_iff.1 H1.out).1
 simp only [List.getElem?_toArray, List.getElem?_cons_zero, List.getElem?_cons_succ] at m0 m1 m2
 cases hr : rightB m n
 ·clear hr
  go_wp2_with fail
  refine (awake22_c _).mono ?_
  rintro e w3 ⟨rfl, hb3⟩
  have BB := Lib.hid (BB.out.trans (hb3.mono BB.out.size))
  clear hb3
  go_wp2_with fail
  go_ret
  exact ⟨rfl, BB.out⟩
 ·obtain ⟨hfw, k, rfl, h1, h40, hokm⟩ := rightB_is hr
  clear hr
  by_cases h60 : s.length > 60
  ·have g1 : decide (s.length > 60) = true := decide_eq_true h60
   have g2 : decide (60 < s.length) = true := decide_eq_true h60
   have g3 : decide ((s.length : Int) > 60) = true := decide_eq_true (by omega)
   have g4 : decide ((60 : Int) < (s.length : Int)) = true := decide_eq_true (by omega)
   go_wp2_with fail
   refine (awake22_c _).mono ?_
   rintro e w3 ⟨rfl, hb3⟩
   have BB := Lib.hid (BB.out.trans (hb3.mono BB.out.size))
   clear hb3
   go_wp2_with fail
   go_ret
   exact ⟨rfl, BB.out⟩
  ·have g1 : decide (s.length > 60) = false := decide_eq_false h60
   have g2 : decide (60 < s.length) = false := decide_eq_false h60
   have g3 : decide ((s.length : Int) > 60) = false := decide_eq_false (by omega)
   have g4 : decide ((60 : Int) < (s.length : Int)) = false := decide_eq_false (by omega)
   have g5 : decide ((k : Int) < (m.procs.length : Int)) = true := decide_eq_true (by omega)
   have g6 : decide (k < m.procs.length) = true := decide_eq_true h1
   obtain ⟨bp, op, tnm, tvo, tvb, hap, hto, htb, t0, t1, t2, t3, t4, t5⟩ := HPS.out k h1
   subst hap
   have hAP := Lib.hid (alP_of hfw hokm HN.out h1 h40)
   have hf := fun W (hW : Ext w W) => find_c m k s _ _ W (HV.out.ext hW) (HSV.out.ext hW) (hAP.out.fi h1)
   unfold FindQ at hf
   have HFND := Lib.hid hf
   have hM := fun (b q : Nat) (hb : b < (m.procs.getD k default).blks.length) (U : Value) W (hW : Ext w W) (hU : MdV W U (withM m k (markP (m.procs.getD k default) b q))) => find_c (withM m k (markP (m.procs.getD k default) b q)) k s U _ W hU (HSV.out.ext hW) (fi_mark hAP.out h1 hb)
   have he : ∀ b q, (withM m k (markP (m.procs.getD k default) b q)).procs.getD k default = markP (m.procs.getD k default) b q := fun b q => by rw [getD_with h1, if_pos rfl]
   unfold FindQ at hM
   simp only [he, markP_len22] at hM
   have HFNM := Lib.hid hM
   have HWI := Lib.hid (fun (q : Pr) (U : Value) W (hW : Ext w W) (hU : PrV W U q) => withm_c m q k _ U W (HV.out.ext hW) hU h1 (by have := hAP.out.procs; omega))
   clear hf hM he hokm hfw HPS HN h40
   generalize m.procs.getD k default = P at *
   have hnb : P.blks.length ≤ 40 := hAP.out.blks
   have HTO := Lib.hid hto
   have HBK := Lib.hid htb
   obtain ⟨ao, co, rfl, -⟩ := hto
   obtain ⟨ab, cb, rfl, hcb1, hcb2, -⟩ := htb
   unfold maxLen at hcb2
   have hE1 : Ext w w1 := Ext.below BB.out
   replace t0 := hE1 _ _ t0
   replace t1 := hE1 _ _ t1
   replace t2 := hE1 _ _ t2
   replace t3 := hE1 _ _ t3
   replace t4 := hE1 _ _ t4
   replace t5 := hE1 _ _ t5
   clear hE1
   go_wp2_with fail
   obtain ⟨W2, hW2⟩ : ∃ W2, W2 = w1.alloc (.cells #[.string tnm, .bool P.void, .int .i64 P.params, .int .i64 P.regs, .slice ao P.objs.length co, .slice ab P.blks.length cb] 32) := ⟨_, rfl⟩
   have H2 : Hid (W2.heap[w1.heap.size]? = some (.cells #[.string tnm, .bool P.void, .int .i64 P.params, .int .i64 P.regs, .slice ao P.objs.length co, .slice ab P.blks.length cb] 32)) := by rw [hW2]; exact heap_alloc_new w1 _
   have B2 : Hid (Below w1.heap.size w1 W2) := by rw [hW2]; exact below_alloc w1 _
   have H0 := Lib.hid ((B2.out.block _ l0).trans H0.out)
   have H1 := Lib.hid ((B2.out.block _ l1).trans H1.out)
   have BB := Lib.hid (BB.out.trans (B2.out.mono BB.out.size))
   rw [← hW2]
   clear hW2 t0 t1 t2 t3 t4 t5 y0 y1 y2 y3 l0 B2 m0 m1 m2 l1
   obtain ⟨y0, y1, y2, y3, l0⟩ := cl4 H0.out
   have m0 := cell_of_heap H1.out 0
   have m1 := cell_of_heap H1.out 1
   have m2 := cell_of_heap H1.out 2
   have l1 := (Array.getElem?_eq_some_iff.1 H1.out).1
   simp only [List.getElem?_toArray, List.getElem?_cons_zero, List.getElem?_cons_succ] at m0 m1 m2
   obtain ⟨z0, z1, z2, z3, z4, z5, lz⟩ := cl6 H2.out
   generalize w1.heap.size = b5 at *
   by_cases hB0 : B < 0
   ·have k1 : decide (B < 0) = true := decide_eq_true hB0
    go_wp2_with fail
    go_quiet (fail)
    go_wp2_with fail
    have BD : Hid (Below w.heap.size w (W2.drewN nq)) := BB.out.trans ⟨rfl, rfl, rfl, Nat.le_refl _, fun _ _ => rfl⟩
    refine (awake22_c _).mono ?_
    rintro e w3 ⟨rfl, hb3⟩
    have BB := Lib.hid (BD.out.trans (hb3.mono BB.out.size))
    clear hb3
    go_wp2_with fail
    go_ret
    exact ⟨rfl, BB.out⟩
   have k1 : decide (B < 0) = false := decide_eq_false hB0
   obtain ⟨b, rfl⟩ := Int.eq_ofNat_of_zero_le (Int.not_lt.1 hB0)
   by_cases hbl : P.blks.length ≤ b
   ·have k2 : decide ((b : Int) ≥ (P.blks.length : Int)) = true := decide_eq_true (by omega)
    have k3 : decide ((P.blks.length : Int) ≤ (b : Int)) = true := decide_eq_true (by omega)
    have k4 : decide (P.blks.length ≤ b) = true := decide_eq_true hbl
    go_wp2_with fail
    go_quiet (fail)
    go_wp2_with fail
    have BD : Hid (Below w.heap.size w (W2.drewN nq)) := BB.out.trans ⟨rfl, rfl, rfl, Nat.le_refl _, fun _ _ => rfl⟩
    refine (awake22_c _).mono ?_
    rintro e w3 ⟨rfl, hb3⟩
    have BB := Lib.hid (BD.out.trans (hb3.mono BB.out.size))
    clear hb3
    go_wp2_with fail
    go_ret
    exact ⟨rfl, BB.out⟩
   have k2 : decide ((b : Int) ≥ (P.blks.length : Int)) = false := decide_eq_false (by omega)
   have k3 : decide ((P.blks.length : Int) ≤ (b : Int)) = false := decide_eq_false (by omega)
   have k4 : decide (P.blks.length ≤ b) = false := decide_eq_false hbl
   have k5 : decide ((b : Int) < (P.blks.length : Int)) = true := decide_eq_true (by omega)
   have k6 : decide (b < P.blks.length) = true := decide_eq_true (by omega)
   have hbl' : b < P.blks.length := Nat.lt_of_not_le hbl
   obtain ⟨bb, ob, vi, hab, hvi, c0, c1, c2, c3, c4⟩ := (RdBks.at HBK.out).2 b hbl'
   subst hab
   replace c0 := Ext.below BB.out _ _ c0
   have lbb := World.block_lt_of_cell? _ _ c0
   have hL60 := (hAP.out.ins (P.blks.getD b default) (getD_mem22 hbl')).1
   obtain ⟨ai, ci, rfl, hi1, hi2, -⟩ := hvi
   unfold maxLen at hi2
   clear c1 c2 c3 c4
   obtain ⟨NL, hNL⟩ : ∃ NL, NL = (P.blks.getD b default).ins.length := ⟨_, rfl⟩
   rw [← hNL] at c0 hL60 hi1
   have HNL := Lib.hid hNL
   clear hNL
   by_cases hK0 : K < 0
   ·have q1 : decide (K < 0) = true := decide_eq_true hK0
    go_wp2_with fail
    go_quiet (fail)
    go_wp2_with fail
    have BD : Hid (Below w.heap.size w (W2.drewN nq)) := BB.out.trans ⟨rfl, rfl, rfl, Nat.le_refl _, fun _ _ => rfl⟩
    refine (awake22_c _).mono ?_
    rintro e w3 ⟨rfl, hb3⟩
    have BB := Lib.hid (BD.out.trans (hb3.mono BB.out.size))
    clear hb3
    go_wp2_with fail
    go_ret
    exact ⟨rfl, BB.out⟩
   have q1 : decide (K < 0) = false := decide_eq_false hK0
   obtain ⟨q, rfl⟩ := Int.eq_ofNat_of_zero_le (Int.not_lt.1 hK0)
   by_cases hql : NL ≤ q
   ·have q2 : decide ((q : Int) ≥ (NL : Int)) = true := decide_eq_true (by omega)
    have q3 : decide ((NL : Int) ≤ (q : Int)) = true := decide_eq_true (by omega)
    have q4 : decide (NL ≤ q) = true := decide_eq_true hql
    go_wp2_with fail
    go_quiet (fail)
    go_wp2_with fail
    have BD : Hid (Below w.heap.size w (W2.drewN nq)) := BB.out.trans ⟨rfl, rfl, rfl, Nat.le_refl _, fun _ _ => rfl⟩
    refine (awake22_c _).mono ?_
    rintro e w3 ⟨rfl, hb3⟩
    have BB := Lib.hid (BD.out.trans (hb3.mono BB.out.size))
    clear hb3
    go_wp2_with fail
    go_ret
    exact ⟨rfl, BB.out⟩
   have q2 : decide ((q : Int) ≥ (NL : Int)) = false := decide_eq_false (by omega)
   have q3 : decide ((NL : Int) ≤ (q : Int)) = false := decide_eq_false (by omega)
   have q4 : decide (NL ≤ q) = false := decide_eq_false hql
   have hql' : q < NL := Nat.lt_of_not_le hql
   have hqm : q < (P.blks.getD b default).ins.length := by rw [← HNL.out]; exact hql'
   have HQM := Lib.hid hqm
   clear hqm
   go_wp2_with fail
   go_quiet (fail)
   go_wp2_with fail
   have BD : Hid (Below w.heap.size w (W2.drewN nq)) := BB.out.trans ⟨rfl, rfl, rfl, Nat.le_refl _, fun _ _ => rfl⟩
   have BD2 : Hid (Below W2.heap.size W2 (W2.drewN nq)) := ⟨rfl, rfl, rfl, Nat.le_refl _, fun _ _ => rfl⟩
   refine (HFND.out _ (Ext.below BD.out)).mono ?_
   clear HFND
   rintro e w3 ⟨gP, ts, X, kv, xx, sp, rfl, hP, hS, hSt, hkl, hkT, hxe, hxc, hsp, hkp, hkN⟩
   have HP := Lib.hid hP
   have HKK := Lib.hid (show _ ∧ _ ∧ _ ∧ _ ∧ _ ∧ _ ∧ _ from ⟨hS, hSt, hkl, hkT, hxe, hxc, hsp⟩)
   have B3 : Hid (Below W2.heap.size W2 w3) := BD2.out.trans hP.below
   have BB := Lib.hid (BB.out.trans (B3.out.mono BB.out.size))
   have H0 := Lib.hid ((B3.out.block _ (Array.getElem?_eq_some_iff.1 H0.out).1).trans H0.out)
   have H1 := Lib.hid ((B3.out.block _ (Array.getElem?_eq_some_iff.1 H1.out).1).trans H1.out)
   have H2 := Lib.hid ((B3.out.block _ (Array.getElem?_eq_some_iff.1 H2.out).1).trans H2.out)
   clear hP hS hSt hkl hkT hxe hxc hsp hkp hkN BD BD2 B3 y0 y1 y2 y3 l0 m0 m1 m2 l1 z0 z1 z2 z3 z4 z5 lz c0 lbb
   obtain ⟨y0, y1, y2, y3, l0⟩ := cl4 H0.out
   have m0 := cell_of_heap H1.out 0
   have m1 := cell_of_heap H1.out 1
   have m2 := cell_of_heap H1.out 2
   have l1 := (Array.getElem?_eq_some_iff.1 H1.out).1
   simp only [List.getElem?_toArray, List.getElem?_cons_zero, List.getElem?_cons_succ] at m0 m1 m2
   obtain ⟨z0, z1, z2, z3, z4, z5, lz⟩ := cl6 H2.out
   go_wp2_with fail
   have HMK := Lib.hid (fun W (hW : Ext w W) => marked_c P (.agg #[.string tnm, .bool P.void, .int .i64 P.params, .int .i64 P.regs, .slice ao P.objs.length co, .slice (some ⟨bb, ob, none⟩) P.blks.length cb]) b q W ⟨tnm, _, _, rfl, HTO.out.ext hW, HBK.out.ext hW⟩ hbl' HQM.out (by omega) (fun j hj => Nat.le_trans (hAP.out.ins _ (getD_mem22 hj)).1 (by decide)))
   refine wp_region_game (fun z => z = w.heap.size ∨ z = w.heap.size + 1 ∨ z = b5) (by kernel_rfl) ?_
   show wpE _ _ _ _ _ _ _ w3.drew
   refine E_mob2s [0, 1, 2, 3, 4, 5, 6, 9, 10, 11] _ _ _ _ (by kernel_rfl) ?_
   simp only [List.map_cons, List.map_nil, List.getElem?_toArray, List.getElem?_cons_succ, List.getElem?_cons_zero, Option.getD_some, List.size_toArray, List.length_cons, List.length_nil, Nat.reduceAdd, Nat.reduceSub]
   repeat (go_big_quiet_step (fail))
   refine wpQuiet_nil ?_
   have hlt3 : ∀ z, (z = w.heap.size ∨ z = w.heap.size + 1 ∨ z = b5) → z < w3.heap.size := fun z hz => by rcases hz with rfl | rfl | rfl <;> assumption
   have BD : Hid (Below w3.heap.size w3 w3.drew) := Below.drew (Below.refl _ _)
   clear y0 y1 y2 y3 l0 m0 m1 m2 l1 z0 z1 z2 z3 z4 z5 lz
   refine E_loud1 7 _ rfl (by kernel_rfl) ?_
   simp only [List.getElem_toArray, List.getElem_cons_succ, List.getElem_cons_zero]
   go_wp2_with fail
   refine (HMK.out w3.drew (Ext.below (BB.out.trans (BD.out.mono BB.out.size)))).mono ?_
   clear HMK
   rintro e w4 ⟨U, rfl, hU, hb4⟩
   have HU := Lib.hid hU
   have B4 := Lib.hid (BD.out.trans hb4)
   have HK4 : Hid (Keep (fun z => z = w.heap.size ∨ z = w.heap.size + 1 ∨ z = b5) w3.drew w4) := keep_below hb4 hlt3
   clear hU hb4
   go_wp2_with fail
   refine ⟨HK4.out, ?_⟩
   clear HK4
   refine E_loud1 8 _ rfl (by kernel_rfl) ?_
   simp only [List.getElem_toArray, List.getElem_cons_succ, List.getElem_cons_zero]
   go_wp2_with fail
   refine (HWI.out (markP P b q) U w4 (Ext.below (BB.out.trans (B4.out.mono BB.out.size))) HU.out).mono ?_
   clear HWI
   rintro e w5 ⟨⟨vm, rfl, hvm⟩, hb5⟩
   have HVM := Lib.hid hvm
   have B5 := Lib.hid (B4.out.trans (hb5.mono B4.out.size))
   have HK5 : Hid (Keep (fun z => z = w.heap.size ∨ z = w.heap.size + 1 ∨ z = b5) w4 w5) := keep_below hb5 (fun z hz => Nat.lt_of_lt_of_le (hlt3 z hz) B4.out.size)
   clear hvm hb5
   go_wp2_with fail
   refine ⟨HK5.out, ?_⟩
   clear HK5
   refine E_loud1 12 _ rfl (by kernel_rfl) ?_
   simp only [List.getElem_toArray, List.getElem_cons_succ, List.getElem_cons_zero]
   go_wp2_with fail
   refine (HFNM.out b q hbl' vm w5 (Ext.below (BB.out.trans (B5.out.mono BB.out.size))) HVM.out).mono ?_
   clear HFNM
   rintro e w6 ⟨gQ, tu, X', kv', xx', sp', rfl, hP', hS', hSt', hkl', hkT', hxe', hxc', hsp', hkp', hkN'⟩
   have HP' := Lib.hid hP'
   have HKK' := Lib.hid (show _ ∧ _ ∧ _ ∧ _ ∧ _ ∧ _ from ⟨hS', hkl', hkT', hxe', hxc', hsp'⟩)
   have B6 := Lib.hid (B5.out.trans (hP'.below.mono B5.out.size))
   have HK6 : Hid (Keep (fun z => z = w.heap.size ∨ z = w.heap.size + 1 ∨ z = b5) w5 w6) := keep_below hP'.below (fun z hz => Nat.lt_of_lt_of_le (hlt3 z hz) B5.out.size)
   clear hP' hS' hSt' hkl' hkT' hxe' hxc' hsp' hkp' hkN'
   go_wp2_with fail
   refine ⟨HK6.out, ?_⟩
   clear HK6 hlt3
   refine E_mob2s [13, 14, 15, 16, 17] _ _ _ _ (by kernel_rfl) ?_
   simp only [List.map_cons, List.map_nil, List.getElem?_toArray, List.getElem?_cons_succ, List.getElem?_cons_zero, Option.getD_some, List.size_toArray, List.length_cons, List.length_nil, Nat.reduceAdd, Nat.reduceSub]
   repeat (go_big_quiet_step (fail))
   refine wpQuiet_nil ?_
   refine E_done (by kernel_rfl) ?_ _
   go_wp2_with fail
   have BB6 := Lib.hid (BB.out.trans (B6.out.mono BB.out.size))
   have m1 : w6.cell? ⟨w.heap.size + 1, 1, none⟩ = some (.int .i64 (b : Int)) := cell_of_heap ((B6.out.block _ (Array.getElem?_eq_some_iff.1 H1.out).1).trans H1.out) 1
   have m2 : w6.cell? ⟨w.heap.size + 1, 2, none⟩ = some (.int .i64 (q : Int)) := cell_of_heap ((B6.out.block _ (Array.getElem?_eq_some_iff.1 H1.out).1).trans H1.out) 2
   have HROW : Hid (∀ i, i < P.blks.length → ∃ RA RB : List Int, OwnI w3 (gP + 2) (ts.getD i undef) RA ∧ OwnI w6 (gQ + 2) (tu.getD i undef) RB ∧ ∀ z ∈ RB, ∃ j : Nat, j ≤ 1001 ∧ z = (j : Int) ∧ ((if i = b ∧ q < j then j - 1 else j : Nat) : Int) ∈ RA) := fun i hi => by
    obtain ⟨hS, hSt, hkl, hkT, hxe, hxc, hsp⟩ := HKK.out
    obtain ⟨hS', hkl', hkT', hxe', hxc', hsp'⟩ := HKK'.out
    refine ⟨_, _, ?_, ?_, marks_mem (meet := meetV kv xx sp) (meet' := meetV kv' xx' sp') (X := X) (X' := X') hbl' HQM.out hSt hS' (fun a c => meet_mark (T := P.objs.length + m.globs.length + 1) hbl' hAP.out.r0 hkl hkl' hxc (by rw [hkT] at hxe; exact hxe) (by rw [hkT'] at hxe'; exact hxe') hsp hsp' a c) (fun j hj => Nat.le_trans (hAP.out.ins _ (getD_mem22 hj)).1 (by decide)) i hi⟩
    ·have h := HP.out.row i hi
     have e : (((List.range P.blks.length).map fun b => (hazL (cutS P s) P (meetV kv xx sp) X b).map fun j : Nat => (j : Int)).getD i []) = (hazL (cutS P s) P (meetV kv xx sp) X i).map fun j : Nat => (j : Int) := by
      simp only [List.getD, List.getElem?_map, List.getElem?_range hi, Option.map_some, Option.getD_some]
     rw [e] at h
     exact h
    ·have h := HP'.out.row i hi
     have e : (((List.range P.blks.length).map fun c => (hazL (cutS (markP P b q) s) (markP P b q) (meetV kv' xx' sp') X' c).map fun j : Nat => (j : Int)).getD i []) = (hazL (cutS (markP P b q) s) (markP P b q) (meetV kv' xx' sp') X' i).map fun j : Nat => (j : Int) := by
      simp only [List.getD, List.getElem?_map, List.getElem?_range hi, Option.map_some, Option.getD_some]
     rw [e] at h
     exact h
   have HCA : Hid (∀ i, i < P.blks.length → w6.cell? ⟨gP, i, none⟩ = some (ts.getD i undef)) := fun i hi => Ext.below B6.out _ _ (HP.out.cell hi)
   have HCB : Hid (∀ i, i < P.blks.length → w6.cell? ⟨gQ, i, none⟩ = some (tu.getD i undef)) := fun i hi => HP'.out.cell hi
   have HE6 := Lib.hid (Ext.below B6.out)
   have l61 := World.block_lt_of_cell? _ _ m1
   clear HP HP' HKK HKK' HU HVM B4 B5 BD H0 H2 H1
   go_loopw [12] (fun ii wr => ∃ (i : Nat), i ≤ P.blks.length ∧ ii = .int .i64 (i : Int) ∧ w6 = wr) (fun ii _ => P.blks.length - (intOf ii).toNat)
   case atStart => exact ⟨0, Nat.zero_le _, rfl, rfl⟩
   case round =>
    obtain ⟨i, hi, rfl, rfl⟩ := hrel
    by_cases hlt : i < P.blks.length
    ·have u1 : decide (i < P.blks.length) = true := decide_eq_true hlt
     have u2 : decide ((i : Int) < (P.blks.length : Int)) = true := decide_eq_true (by omega)
     obtain ⟨RA, RB, hra, hrb, hmem⟩ := HROW.out i hlt
     have hca := HCA.out i hlt
     have hcb := HCB.out i hlt
     obtain ⟨aA, cA, eA, hA1, hA2, hA3⟩ := OwnI.rd hra
     obtain ⟨aB, cB, eB, hB1, hB2, hB3⟩ := OwnI.rd hrb
     rw [eA] at hca
     rw [eB] at hcb
     unfold maxLen at hA2 hB2
     have HRA : Hid (∀ j, j < RA.length → ∃ b o, aA = some ⟨b, o, none⟩ ∧ w6.cell? ⟨b, o + j * 1 + 0, none⟩ = some (.int .i64 (RA.getD j 0))) := fun j hj => by
      obtain ⟨b, o, e1, e2⟩ := hA3 j hj
      exact ⟨b, o, e1, HE6.out _ _ e2⟩
     have HRB := Lib.hid hB3
     have HMEM := Lib.hid hmem
     clear hra hrb hmem eA eB hA3 hB3
     go_wp2_with fail
     go_loopw [13] (fun ii wr => ∃ (kk : Nat), kk ≤ RB.length ∧ ii = .int .i64 (kk : Int) ∧ w6 = wr) (fun ii _ => RB.length - (intOf ii).toNat)
     case atStart => exact ⟨0, Nat.zero_le _, rfl, rfl⟩
     case round =>
      obtain ⟨kk, hkk, rfl, rfl⟩ := hrel
      by_cases hkl : kk < RB.length
      ·have r1 : decide (kk < RB.length) = true := decide_eq_true hkl
       have r2 : decide ((kk : Int) < (RB.length : Int)) = true := decide_eq_true (by omega)
       obtain ⟨br, or, har, hc⟩ := HRB.out kk hkl
       subst har
       simp only [Nat.mul_one, Nat.add_zero] at hc
       obtain ⟨jz, hjz, ez, hA⟩ := HMEM.out (RB.getD kk 0) (by simp [List.getD, hkl])
       rw [ez] at hc
       clear ez
       by_cases hib : i = b
       ·have s1 : decide ((i : Int) = (b : Int)) = true := decide_eq_true (by omega)
        have s2 : ((i : Int) == (b : Int)) = true := by simp; omega
        by_cases hqj : q < jz
        ·have s3 : decide ((jz : Int) > (q : Int)) = true := decide_eq_true (by omega)
         have s4 : decide ((q : Int) < (jz : Int)) = true := decide_eq_true (by omega)
         have s5 : decide (q < jz) = true := decide_eq_true hqj
         rw [if_pos ⟨hib, hqj⟩, show ((jz - 1 : Nat) : Int) = (jz : Int) - 1 by omega] at hA
         have HIB := Lib.hid hib
         clear hib
         go_wp2_with fail
         generalize ((jz : Int) - 1) = A at *
         have HHA := Lib.hid hA
         clear hA
         go_loopw [15, 16] (fun bo ii wr => ∃ (j : Nat), j ≤ RA.length ∧ bo = .bool ((RA.take j).any (fun y => y == A)) ∧ ii = .int .i64 (j : Int) ∧ w6 = wr) (fun _ ii _ => RA.length - (intOf ii).toNat)
         case atStart => exact ⟨0, Nat.zero_le _, rfl, rfl, rfl⟩
         case round =>
          obtain ⟨j, hjj, rfl, rfl, rfl⟩ := hrel
          by_cases hjl : j < RA.length
          ·have v1 : decide (j < RA.length) = true := decide_eq_true hjl
           have v2 : decide ((j : Int) < (RA.length : Int)) = true := decide_eq_true (by omega)
           have HAT := Lib.hid (any_take22 hjl A)
           obtain ⟨br, or, har, hc⟩ := HRA.out j hjl
           subst har
           simp only [Nat.mul_one, Nat.add_zero] at hc
           generalize RA.getD j 0 = G at *
           rcases bTF22 ((RA.take j).any (fun y => y == A)) with hw | hw
           ·rw [hw] at HAT ⊢
            rcases bTF22 (G == A) with hg | hg
            ·have v3 : decide (G = A) = false := decide_eq_false (by simpa using hg)
             rw [hg] at HAT
             go_wp2_with fail
             go_roundw
             case rel => exact ⟨j + 1, hjl, by rw [HAT.out]; rfl, by go_num, by first | trivial | rfl⟩
             case measure => simp [intOf]; omega
            ·have v3 : decide (G = A) = true := decide_eq_true (by simpa using hg)
             rw [hg] at HAT
             go_wp2_with fail
             go_roundw
             case rel => exact ⟨j + 1, hjl, by rw [HAT.out]; rfl, by go_num, by first | trivial | rfl⟩
             case measure => simp [intOf]; omega
           ·rw [hw] at HAT ⊢
            go_wp2_with fail
            go_roundw
            case rel => exact ⟨j + 1, hjl, by rw [HAT.out]; rfl, by go_num, by first | trivial | rfl⟩
            case measure => simp [intOf]; omega
          ·obtain rfl : j = RA.length := by omega
           have hw : (RA.take RA.length).any (fun y => y == A) = true := by
            rw [List.take_length, List.any_eq_true]
            exact ⟨A, HHA.out, by simp⟩
           rw [hw]
           clear hw
           go_wp2_with fail
           go_roundw
           case rel => exact ⟨kk + 1, hkl, by go_num, by first | trivial | rfl⟩
           case measure => simp [intOf]; omega
        ·have s3 : decide ((jz : Int) > (q : Int)) = false := decide_eq_false (by omega)
         have s4 : decide ((q : Int) < (jz : Int)) = false := decide_eq_false (by omega)
         have s5 : decide (q < jz) = false := decide_eq_false hqj
         rw [if_neg (fun h => hqj h.2)] at hA
         have HIB := Lib.hid hib
         clear hib
         go_wp2_with fail
         generalize ((jz : Int)) = A at *
         have HHA := Lib.hid hA
         clear hA
         go_loopw [15, 16] (fun bo ii wr => ∃ (j : Nat), j ≤ RA.length ∧ bo = .bool ((RA.take j).any (fun y => y == A)) ∧ ii = .int .i64 (j : Int) ∧ w6 = wr) (fun _ ii _ => RA.length - (intOf ii).toNat)
         case atStart => exact ⟨0, Nat.zero_le _, rfl, rfl, rfl⟩
         case round =>
          obtain ⟨j, hjj, rfl, rfl, rfl⟩ := hrel
          by_cases hjl : j < RA.length
          ·have v1 : decide (j < RA.length) = true := decide_eq_true hjl
           have v2 : decide ((j : Int) < (RA.length : Int)) = true := decide_eq_true (by omega)
           have HAT := Lib.hid (any_take22 hjl A)
           obtain ⟨br, or, har, hc⟩ := HRA.out j hjl
           subst har
           simp only [Nat.mul_one, Nat.add_zero] at hc
           generalize RA.getD j 0 = G at *
           rcases bTF22 ((RA.take j).any (fun y => y == A)) with hw | hw
           ·rw [hw] at HAT ⊢
            rcases bTF22 (G == A) with hg | hg
            ·have v3 : decide (G = A) = false := decide_eq_false (by simpa using hg)
             rw [hg] at HAT
             go_wp2_with fail
             go_roundw
             case rel => exact ⟨j + 1, hjl, by rw [HAT.out]; rfl, by go_num, by first | trivial | rfl⟩
             case measure => simp [intOf]; omega
            ·have v3 : decide (G = A) = true := decide_eq_true (by simpa using hg)
             rw [hg] at HAT
             go_wp2_with fail
             go_roundw
             case rel => exact ⟨j + 1, hjl, by rw [HAT.out]; rfl, by go_num, by first | trivial | rfl⟩
             case measure => simp [intOf]; omega
           ·rw [hw] at HAT ⊢
            go_wp2_with fail
            go_roundw
            case rel => exact ⟨j + 1, hjl, by rw [HAT.out]; rfl, by go_num, by first | trivial | rfl⟩
            case measure => simp [intOf]; omega
          ·obtain rfl : j = RA.length := by omega
           have hw : (RA.take RA.length).any (fun y => y == A) = true := by
            rw [List.take_length, List.any_eq_true]
            exact ⟨A, HHA.out, by simp⟩
           rw [hw]
           clear hw
           go_wp2_with fail
           go_roundw
           case rel => exact ⟨kk + 1, hkl, by go_num, by first | trivial | rfl⟩
           case measure => simp [intOf]; omega
       ·have s1 : decide ((i : Int) = (b : Int)) = false := decide_eq_false (by omega)
        have s2 : ((i : Int) == (b : Int)) = false := by simp; omega
        rw [if_neg (fun h => hib h.1)] at hA
        go_wp2_with fail
        generalize ((jz : Int)) = A at *
        have HHA := Lib.hid hA
        clear hA
        go_loopw [15, 16] (fun bo ii wr => ∃ (j : Nat), j ≤ RA.length ∧ bo = .bool ((RA.take j).any (fun y => y == A)) ∧ ii = .int .i64 (j : Int) ∧ w6 = wr) (fun _ ii _ => RA.length - (intOf ii).toNat)
        case atStart => exact ⟨0, Nat.zero_le _, rfl, rfl, rfl⟩
        case round =>
         obtain ⟨j, hjj, rfl, rfl, rfl⟩ := hrel
         by_cases hjl : j < RA.length
         ·have v1 : decide (j < RA.length) = true := decide_eq_true hjl
          have v2 : decide ((j : Int) < (RA.length : Int)) = true := decide_eq_true (by omega)
          have HAT := Lib.hid (any_take22 hjl A)
          obtain ⟨br, or, har, hc⟩ := HRA.out j hjl
          subst har
          simp only [Nat.mul_one, Nat.add_zero] at hc
          generalize RA.getD j 0 = G at *
          rcases bTF22 ((RA.take j).any (fun y => y == A)) with hw | hw
          ·rw [hw] at HAT ⊢
           rcases bTF22 (G == A) with hg | hg
           ·have v3 : decide (G = A) = false := decide_eq_false (by simpa using hg)
            rw [hg] at HAT
            go_wp2_with fail
            go_roundw
            case rel => exact ⟨j + 1, hjl, by rw [HAT.out]; rfl, by go_num, by first | trivial | rfl⟩
            case measure => simp [intOf]; omega
           ·have v3 : decide (G = A) = true := decide_eq_true (by simpa using hg)
            rw [hg] at HAT
            go_wp2_with fail
            go_roundw
            case rel => exact ⟨j + 1, hjl, by rw [HAT.out]; rfl, by go_num, by first | trivial | rfl⟩
            case measure => simp [intOf]; omega
          ·rw [hw] at HAT ⊢
           go_wp2_with fail
           go_roundw
           case rel => exact ⟨j + 1, hjl, by rw [HAT.out]; rfl, by go_num, by first | trivial | rfl⟩
           case measure => simp [intOf]; omega
         ·obtain rfl : j = RA.length := by omega
          have hw : (RA.take RA.length).any (fun y => y == A) = true := by
           rw [List.take_length, List.any_eq_true]
           exact ⟨A, HHA.out, by simp⟩
          rw [hw]
          clear hw
          go_wp2_with fail
          go_roundw
          case rel => exact ⟨kk + 1, hkl, by go_num, by first | trivial | rfl⟩
          case measure => simp [intOf]; omega
      ·obtain rfl : kk = RB.length := by omega
       go_wp2_with fail
       go_roundw
       case rel => exact ⟨i + 1, hlt, by go_num, by first | trivial | rfl⟩
       case measure => simp [intOf]; omega
    ·obtain rfl : i = P.blks.length := by omega
     go_wp2_with fail
     refine (awake22_c _).mono ?_
     rintro e w9 ⟨rfl, hb9⟩
     have BB9 := Lib.hid (BB6.out.trans (hb9.mono BB6.out.size))
     clear hb9
     go_wp2_with fail
     go_ret
     exact ⟨rfl, BB9.out⟩
end Go.Proofs.Ytmcddolkpcgddaa
