/-
 Contracts of ir.Proc, ir.Check and of the statements' Right.
-/
import Derived.Test.YtchoiankeohonaaGreatDoorZInlineAll21
import Derived.Test.YtchoiankeohonaaGreatDoorZInlineAll07
set_option linter.all false
namespace Go.Proofs.YtchoiankeohonaaGreatDoor
open Go.ChangeShapes Go.WideShapes Go.ChangeAt Go.RowKit
set_option maxHeartbeats 4000000
set_option maxRecDepth 20000

def procE (m : Md) (n : Int) : Int := if 0 ≤ n ∧ n < (m.procs.length : Int) then (if okP m (m.procs.getD n.toNat default) = true then 0 else 3) else 4
theorem procN_c (m : Md) (v : Value) (n : Int) (w : World) (h : MdV w v m) (hs : SzM m) :
  Calls Tryz.prog 18 #[v, .int .i64 n] w fun e w' => e = .returned (.int .i64 (procE m n)) ∧ Below w.heap.size w w' := by
 obtain ⟨vg, vd, vp, rfl, hvg, hvd, hvp⟩ := h
 have hvp' := hvp
 obtain ⟨ap, cp, rfl, hp1, hp2, -⟩ := hvp'
 have HVG := Lib.hid hvg
 have HVD := Lib.hid hvd
 have HVP := Lib.hid hvp
 have HPS := Lib.hid (RdPrs.at6 hvp).2
 obtain ⟨ag, cg, rfl, -⟩ := hvg
 obtain ⟨ad, cd, rfl, -⟩ := hvd
 clear hvp
 unfold maxLen at hp2
 obtain ⟨W0, hW0⟩ : ∃ W0, W0 = w.alloc (.cells #[.slice ag m.globs.length cg, .slice ad m.data.length cd, .slice ap m.procs.length cp, .int .i64 m.main] 26) := ⟨_, rfl⟩
 have hz0 : W0.heap.size = w.heap.size + 1 := by rw [hW0]; simp
 have HBX : Hid (∀ w', Below W0.heap.size W0 w' → ∀ j : Nat, j < 4 → w'.cell? ⟨w.heap.size, j, none⟩ = #[Value.slice ag m.globs.length cg, .slice ad m.data.length cd, .slice ap m.procs.length cp, .int .i64 m.main][j]?) := fun w' hb j _ => by
  rw [hb.cell (p := ⟨w.heap.size, j, none⟩) (by rw [hz0]; exact Nat.lt_succ_self _), hW0]
  exact cell_of_heap (heap_alloc_new w _) j
 have HE : Hid (∀ w', Below W0.heap.size W0 w' → Ext w w') := fun w' hb => (show Ext w W0 by rw [hW0]; exact Ext.alloc w _).trans (Ext.below hb)
 have HR : Hid (∀ w', Below W0.heap.size W0 w' → Below w.heap.size w w') := fun w' hb => (show Below w.heap.size w W0 by rw [hW0]; exact below_alloc w _).trans (hb.mono (by omega))
 have B0 : Hid (Below W0.heap.size W0 W0) := Below.refl _ _
 have hza : W0.heap.size ≤ w.heap.size + 1 := Nat.le_of_eq hz0
 have hl0 : w.heap.size < W0.heap.size := by omega
 have HW0 := Lib.hid hW0
 clear hW0 hz0
 have HF : Hid (procE m n = if 0 ≤ n ∧ n < (m.procs.length : Int) then (if okP m (m.procs.getD n.toNat default) = true then 0 else 3) else 4) := rfl
 by_cases h0 : 0 ≤ n
 ·have g0 : decide (n < 0) = false := decide_eq_false (by omega)
  obtain ⟨k, rfl⟩ := Int.eq_ofNat_of_zero_le h0
  by_cases h1 : k < m.procs.length
  ·have g1 : decide ((m.procs.length : Int) ≤ (k : Int)) = false := decide_eq_false (by omega)
   have g2 : decide (m.procs.length ≤ k) = false := decide_eq_false (by omega)
   rw [if_pos ⟨h0, by omega⟩, Int.toNat_natCast] at HF
   have hsp := hs.procs (m.procs.getD k default) (by simp [List.getD, h1])
   obtain ⟨bp, op, tnm, tvo, tvb, hap, hto, htb, t0, t1, t2, t3, t4, t5⟩ := HPS.out k h1
   subst hap
   generalize m.procs.getD k default = T at *
   have EP : Hid (∀ w', Ext w w' → Calls Tryz.prog 34 #[.agg #[.slice ag m.globs.length cg, .slice ad m.data.length cd, .slice (some ⟨bp, op, none⟩) m.procs.length cp, .int .i64 m.main, .string tnm, .bool T.void, .int .i64 T.params, .int .i64 T.regs, tvo, tvb]] w' fun e w'' => e = .returned (.bool (okP m T)) ∧ Below w'.heap.size w' w'') := fun w' he => proc_c m T _ w' ⟨_, _, _, _, _, _, rfl, HVG.out.ext he, HVD.out.ext he, HVP.out.ext he, hto.ext he, htb.ext he⟩ hsp
   have HTO := Lib.hid hto
   have HTB := Lib.hid htb
   obtain ⟨tao, tco, rfl, -⟩ := hto
   obtain ⟨tab, tcb, rfl, -⟩ := htb
   go_enter Tryz.func18, Tryz.ntmps18
   go_wp2_with fail
   rw [← HW0.out]
   obtain ⟨W1, hW1⟩ : ∃ W1, W1 = W0.drew := ⟨_, rfl⟩
   have B1 : Hid (Below W0.heap.size W0 W1) := by rw [hW1]; exact B0.out.drew
   have hE1 := HE.out W1 B1.out
   replace t0 := hE1 _ _ t0
   replace t1 := hE1 _ _ t1
   replace t2 := hE1 _ _ t2
   replace t3 := hE1 _ _ t3
   replace t4 := hE1 _ _ t4
   replace t5 := hE1 _ _ t5
   have hl1 : w.heap.size < W1.heap.size := by have := B1.out.size; omega
   have hbp : bp < W1.heap.size := World.block_lt_of_cell? W1 _ t1
   refine wp_region_game (fun b => b = w.heap.size ∨ b = bp) (by kernel_rfl) ?_
   show wpE _ _ _ _ _ _ _ W0.drew
   rw [← hW1]
   clear hW1 hE1
   have x0 := HBX.out W1 B1.out 0 (by decide)
   have x1 := HBX.out W1 B1.out 1 (by decide)
   have x2 := HBX.out W1 B1.out 2 (by decide)
   have x3 := HBX.out W1 B1.out 3 (by decide)
   simp at x0 x1 x2 x3
   refine E_mob2s [0, 1, 2, 3, 4, 5, 6] _ _ _ _ (by kernel_rfl) ?_
   simp only [List.map_cons, List.map_nil, List.getElem?_toArray, List.getElem?_cons_succ, List.getElem?_cons_zero, Option.getD_some, List.size_toArray, List.length_cons, List.length_nil, Nat.reduceAdd, Nat.reduceSub]
   repeat (go_big_quiet_step (fail))
   refine wpQuiet_nil ?_
   refine E_loud1 7 _ rfl (by kernel_rfl) ?_
   simp only [List.getElem_toArray, List.getElem_cons_succ, List.getElem_cons_zero]
   go_wp2_with fail
   refine (EP.out W1 (HE.out _ B1.out)).mono ?_
   rintro e w2 ⟨rfl, hb2⟩
   have hb2 := Lib.hid hb2
   have B2 : Hid (Below W0.heap.size W0 w2) := B1.out.trans (hb2.out.mono B1.out.size)
   cases hx : okP m T
   ·rw [hx, if_neg (by decide)] at HF
    clear hx
    go_wp2_with fail
    refine ⟨keep_below hb2.out (fun b hb => by rcases hb with rfl | rfl <;> assumption), ?_⟩
    refine E_mob2s [8, 9] _ _ _ _ (by kernel_rfl) ?_
    simp only [List.map_cons, List.map_nil, List.getElem?_toArray, List.getElem?_cons_succ, List.getElem?_cons_zero, Option.getD_some, List.size_toArray, List.length_cons, List.length_nil, Nat.reduceAdd, Nat.reduceSub]
    repeat (go_big_quiet_step (fail))
    refine wpQuiet_nil ?_
    refine E_done (by kernel_rfl) ?_ _
    go_wp2_with fail
    go_ret
    exact ⟨ret_i HF.out.symm, HR.out _ B2.out⟩
   ·rw [hx, if_pos rfl] at HF
    clear hx
    go_wp2_with fail
    refine ⟨keep_below hb2.out (fun b hb => by rcases hb with rfl | rfl <;> assumption), ?_⟩
    refine E_mob2s [8, 9] _ _ _ _ (by kernel_rfl) ?_
    simp only [List.map_cons, List.map_nil, List.getElem?_toArray, List.getElem?_cons_succ, List.getElem?_cons_zero, Option.getD_some, List.size_toArray, List.length_cons, List.length_nil, Nat.reduceAdd, Nat.reduceSub]
    repeat (go_big_quiet_step (fail))
    refine wpQuiet_nil ?_
    refine E_done (by kernel_rfl) ?_ _
    go_wp2_with fail
    go_ret
    exact ⟨ret_i HF.out.symm, HR.out _ B2.out⟩
  ·have g1 : decide ((m.procs.length : Int) ≤ (k : Int)) = true := decide_eq_true (by omega)
   have g2 : decide (m.procs.length ≤ k) = true := decide_eq_true (by omega)
   rw [if_neg (by omega)] at HF
   go_enter Tryz.func18, Tryz.ntmps18
   go_wp2_with fail
   rw [← HW0.out]
   go_ret
   exact ⟨ret_i HF.out.symm, HR.out _ B0.out⟩
 ·have g0 : decide (n < 0) = true := decide_eq_true (by omega)
  rw [if_neg (by omega)] at HF
  go_enter Tryz.func18, Tryz.ntmps18
  go_wp2_with fail
  rw [← HW0.out]
  go_ret
  exact ⟨ret_i HF.out.symm, HR.out _ B0.out⟩
theorem RdYs.at {w : World} {a : Option Addr} {n c : Nat} {l : List (List Int)} (h : RdYs w (.slice a n c) l) : n = l.length ∧ ∀ k, k < l.length → ∃ b o a' c', a = some ⟨b, o, none⟩ ∧ w.cell? ⟨b, o + k, none⟩ = some (.slice a' (l.getD k []).length c') ∧ RdY w (.slice a' (l.getD k []).length c') (l.getD k []) := by
 obtain ⟨a', c', e, h1, h2, hc⟩ := h
 simp only [Value.slice.injEq] at e
 obtain ⟨rfl, rfl, rfl⟩ := e
 refine ⟨rfl, fun k hk => ?_⟩
 obtain ⟨b, o, rfl, u, h0, hr⟩ := hc k hk
 have hr' := hr
 obtain ⟨a2, c2, rfl, -⟩ := hr'
 exact ⟨b, o, a2, c2, rfl, by simpa using h0, hr⟩
def okE (m : Md) : Int := if okM m = true then 0 else 3
theorem check_c (m : Md) (v : Value) (w : World) (h : MdV w v m) (hs : SzM m) :
  Calls Tryz.prog 7 #[v] w fun e w' => e = .returned (.int .i64 (okE m)) ∧ Below w.heap.size w w' := by
 have EN : Hid (∀ n w', Ext w w' → Calls Tryz.prog 18 #[v, .int .i64 n] w' fun e w'' => e = .returned (.int .i64 (procE m n)) ∧ Below w'.heap.size w' w'') := fun n w' he => procN_c m v n w' (h.ext he) hs
 obtain ⟨vg, vd, vp, rfl, hvg, hvd, hvp⟩ := h
 have ES : Hid (∀ w', Ext w w' → Calls Tryz.prog 17 #[vg] w' fun e w'' => e = .returned (.bool (m.globs.all slotF)) ∧ Below w'.heap.size w' w'') := fun w' he => slots_c m.globs vg w' (hvg.ext he)
 have hvp' := hvp
 obtain ⟨ap, cp, rfl, hp1, hp2, -⟩ := hvp'
 have HPS := Lib.hid (RdPrs.at6 hvp).2
 have hvg' := hvg
 obtain ⟨ag, cg, rfl, hg1, hg2, -⟩ := hvg'
 have hvd' := hvd
 obtain ⟨ad, cd, rfl, hd1, hd2, -⟩ := hvd'
 have HGS := Lib.hid (RdSls.at hvg).2
 have HDS := Lib.hid (RdYs.at hvd).2
 clear hvp hvg hvd
 unfold maxLen at hp2 hg2 hd2
 obtain ⟨W0, hW0⟩ : ∃ W0, W0 = w.alloc (.cells #[.slice ag m.globs.length cg, .slice ad m.data.length cd, .slice ap m.procs.length cp, .int .i64 m.main] 26) := ⟨_, rfl⟩
 have hz0 : W0.heap.size = w.heap.size + 1 := by rw [hW0]; simp
 have HBX : Hid (∀ w', Below W0.heap.size W0 w' → ∀ j : Nat, j < 4 → w'.cell? ⟨w.heap.size, j, none⟩ = #[Value.slice ag m.globs.length cg, .slice ad m.data.length cd, .slice ap m.procs.length cp, .int .i64 m.main][j]?) := fun w' hb j _ => by
  rw [hb.cell (p := ⟨w.heap.size, j, none⟩) (by rw [hz0]; exact Nat.lt_succ_self _), hW0]
  exact cell_of_heap (heap_alloc_new w _) j
 have HE : Hid (∀ w', Below W0.heap.size W0 w' → Ext w w') := fun w' hb => (show Ext w W0 by rw [hW0]; exact Ext.alloc w _).trans (Ext.below hb)
 have HR : Hid (∀ w', Below W0.heap.size W0 w' → Below w.heap.size w w') := fun w' hb => (show Below w.heap.size w W0 by rw [hW0]; exact below_alloc w _).trans (hb.mono (by omega))
 have B0 : Hid (Below W0.heap.size W0 W0) := Below.refl _ _
 have hza : W0.heap.size ≤ w.heap.size + 1 := Nat.le_of_eq hz0
 have hl0 : w.heap.size < W0.heap.size := by omega
 have HW0 := Lib.hid hW0
 clear hW0 hz0
 have HF : Hid (okE m = if okM m = true then 0 else 3) := rfl
 have HM : Hid (okM m = ((decide (m.data.length = m.globs.length) && (decide (m.globs.length ≤ 200) && (m.globs.all slotF && (decide (1 ≤ m.procs.length) && (decide (m.procs.length ≤ 200) && (decide (0 ≤ m.main) && decide (m.main < m.procs.length))))))) && (dataF m && (((m.procs.getD m.main.toNat default).params == 0 && !(m.procs.getD m.main.toNat default).void) && m.procs.all (okP m))))) := rfl
 have HNO : Hid (okM m = false → okE m = 3) := fun h => by rw [HF.out, h]; rfl
 have HYES : Hid (okM m = true → okE m = 0) := fun h => by rw [HF.out, h]; rfl
 clear HF
 go_enter Tryz.func7, Tryz.ntmps7
 go_upto_region 1 with (fail)
 rw [← HW0.out]
 have x0 := HBX.out W0 B0.out 0 (by decide)
 have x1 := HBX.out W0 B0.out 1 (by decide)
 have x2 := HBX.out W0 B0.out 2 (by decide)
 have x3 := HBX.out W0 B0.out 3 (by decide)
 simp at x0 x1 x2 x3
 by_cases k0 : m.data.length = m.globs.length
 ·have g0 : ((m.data.length : Int) != (m.globs.length : Int)) = false := by simp [k0]
  have d0 : decide (m.data.length = m.globs.length) = true := decide_eq_true k0
  have hdg : m.data.length ≤ m.globs.length := by omega
  clear k0
  by_cases k1 : m.globs.length ≤ 200
  ·have g1 : decide ((200 : Int) < (m.globs.length : Int)) = false := decide_eq_false (by omega)
   have d1 : decide (m.globs.length ≤ 200) = true := decide_eq_true k1
   go_wp2_with fail
   refine (ES.out W0 (HE.out _ B0.out)).mono ?_
   rintro e w1 ⟨rfl, hb1⟩
   have B1 : Hid (Below W0.heap.size W0 w1) := B0.out.trans hb1
   clear hb1 x0 x1 x2 x3
   have x0 := HBX.out w1 B1.out 0 (by decide)
   have x1 := HBX.out w1 B1.out 1 (by decide)
   have x2 := HBX.out w1 B1.out 2 (by decide)
   have x3 := HBX.out w1 B1.out 3 (by decide)
   simp at x0 x1 x2 x3
   cases d2 : m.globs.all slotF
   ·have HV : Hid (okE m = 3) := HNO.out (by rw [HM.out, d0, d1, d2]; rfl)
    clear HM d2
    go_wp2_with fail
    go_ret
    exact ⟨ret_i HV.out.symm, HR.out _ B1.out⟩
   ·by_cases k3 : 1 ≤ m.procs.length
    ·have g3 : decide ((m.procs.length : Int) < 1) = false := decide_eq_false (by omega)
     have d3 : decide (1 ≤ m.procs.length) = true := decide_eq_true k3
     by_cases k4 : m.procs.length ≤ 200
     ·have g4 : decide ((200 : Int) < (m.procs.length : Int)) = false := decide_eq_false (by omega)
      have d4 : decide (m.procs.length ≤ 200) = true := decide_eq_true k4
      by_cases k5 : 0 ≤ m.main
      ·have g5 : decide (m.main < 0) = false := decide_eq_false (by omega)
       have d5 : decide (0 ≤ m.main) = true := decide_eq_true k5
       by_cases k6 : m.main < (m.procs.length : Int)
       ·have g6 : decide ((m.procs.length : Int) ≤ m.main) = false := decide_eq_false (by omega)
        have d6 : decide (m.main < (m.procs.length : Int)) = true := decide_eq_true k6
        have HM2 : Hid (okM m = (dataF m && (((m.procs.getD m.main.toNat default).params == 0 && !(m.procs.getD m.main.toNat default).void) && m.procs.all (okP m)))) := by
         show _ = _
         rw [HM.out, d0, d1, d2, d3, d4, d5, d6]; rfl
        clear HM d0 d1 d2 d3 d4 d5 d6
        go_wp2_with fail
        clear x0 x1 x2 x3 g0 g1 g3 g4 g5 g6 ES
        go_loopw [54] (fun i wr => ∃ k : Nat, k ≤ m.data.length ∧ i = .int .i64 (k : Int) ∧ Hid (Below W0.heap.size W0 wr) ∧ Hid (∀ j, j < k → ((m.data.getD j []).length : Int) = (m.globs.getD j default).size)) (fun i _ => m.data.length - (intOf i).toNat)
        case atStart => exact ⟨0, Nat.zero_le _, rfl, B1, fun j hj => absurd hj (Nat.not_lt_zero j)⟩
        case round =>
         clear B1
         obtain ⟨k, hk, rfl, hB, HA⟩ := hrel
         have hzr := hB.out.size
         have hl0r : w.heap.size < wr.heap.size := by omega
         have x0 := HBX.out wr hB.out 0 (by decide)
         have x1 := HBX.out wr hB.out 1 (by decide)
         have x2 := HBX.out wr hB.out 2 (by decide)
         have x3 := HBX.out wr hB.out 3 (by decide)
         simp at x0 x1 x2 x3
         by_cases hlt : k < m.data.length
         ·obtain ⟨bd, od, a2, c2, rfl, q0, hy⟩ := HDS.out k hlt
          replace q0 := HE.out _ hB.out _ _ q0
          obtain ⟨bg, og, gnm, rfl, -, q1, -⟩ := HGS.out k (by omega)
          replace q1 := HE.out _ hB.out _ _ q1
          have HK : Hid (¬ ((m.data.getD k []).length : Int) = (m.globs.getD k default).size → dataF m = false) := fun h => by
           unfold dataF
           rw [List.all_eq_false]
           exact ⟨k, List.mem_range.2 hlt, by rw [decide_eq_false h]; decide⟩
          obtain ⟨ay, cy, e, hm1, hm2, -⟩ := hy
          simp only [Value.slice.injEq] at e
          obtain ⟨rfl, -, rfl⟩ := e
          unfold maxLen at hm2
          have HKY : Hid (((m.data.getD k []).length : Int) = (m.globs.getD k default).size → ∀ j, j < k + 1 → ((m.data.getD j []).length : Int) = (m.globs.getD j default).size) := fun h j hj => by
           rcases Nat.lt_or_ge j k with h2 | h2
           ·exact HA.out j h2
           ·obtain rfl : j = k := by omega
            exact h
          generalize m.data.getD k [] = D at q0 HK HKY hm2
          generalize (m.globs.getD k default).size = S at q1 HK HKY
          cases hx : ((D.length : Int) != S)
          ·have HA2 := Lib.hid (HKY.out (by simpa using hx))
           go_wp2_with fail
           go_roundw
           case rel => exact ⟨k + 1, by omega, by go_num, hB, HA2⟩
           case measure => simp [intOf]; omega
          ·have HV : Hid (okE m = 3) := HNO.out (by rw [HM2.out, HK.out (by simpa using hx)]; rfl)
           go_wp2_with fail
           go_ret
           exact ⟨ret_i HV.out.symm, HR.out _ hB.out⟩
         ·have HDF : Hid (dataF m = true) := by
           show _ = _
           unfold dataF
           rw [List.all_eq_true]
           intro j hj
           exact decide_eq_true (HA.out j (by have := List.mem_range.1 hj; omega))
          obtain ⟨mk, hmk⟩ : ∃ mk : Nat, m.main = (mk : Int) := ⟨m.main.toNat, by omega⟩
          have hml : mk < m.procs.length := by omega
          obtain ⟨bp, op, tnm, tvo, tvb, hap, ⟨tao, tco, rfl, -⟩, ⟨tab, tcb, rfl, -⟩, t0, t1, t2, t3, t4, t5⟩ := HPS.out mk hml
          subst hap
          rw [hmk, Int.toNat_natCast, HDF.out, Bool.true_and] at HM2
          rw [hmk] at x3
          generalize m.procs.getD mk default = T at *
          have hE1 := HE.out _ hB.out
          replace t0 := hE1 _ _ t0
          replace t1 := hE1 _ _ t1
          replace t2 := hE1 _ _ t2
          replace t3 := hE1 _ _ t3
          replace t4 := hE1 _ _ t4
          replace t5 := hE1 _ _ t5
          have Hmk := Lib.hid hmk
          clear hE1 hmk HDF HA HDS HGS k5 k6
          cases hx : (T.params != 0)
          ·have hx2 : (T.params == 0) = true := by simpa using hx
           cases hv : T.void
           ·have HM3 : Hid (okM m = m.procs.all (okP m)) := by show _ = _; rw [HM2.out, hx2, hv]; rfl
            rw [hv] at t1
            clear HM2 hx2 hv
            go_wp2_with fail
            have B3 : Hid (Below W0.heap.size W0 (wr.alloc (.cells #[.string tnm, .bool false, .int .i64 T.params, .int .i64 T.regs, .slice tao T.objs.length tco, .slice tab T.blks.length tcb] 35))) := hB.out.alloc hzr _
            generalize wr.alloc _ = W3 at B3 ⊢
            clear x0 x1 x2 x3 t0 t1 t2 t3 t4 t5 hx hB
            go_loopw [85] (fun i wr => ∃ k : Nat, k ≤ m.procs.length ∧ i = .int .i64 (k : Int) ∧ Hid (Below W0.heap.size W0 wr) ∧ Hid ((m.procs.take k).all (okP m) = true)) (fun i _ => m.procs.length - (intOf i).toNat)
            case atStart => exact ⟨0, Nat.zero_le _, rfl, B3, rfl⟩
            case round =>
             clear B3
             obtain ⟨n, hn, rfl, hC, HA⟩ := hrel
             have hzc := hC.out.size
             by_cases hln : n < m.procs.length
             ·have hY := allG_take (okP m) m.procs n hln HA.out
              have hZ := allG_no (okP m) m.procs n hln
              have EN1 := Lib.hid (EN.out (n : Int) wr (HE.out _ hC.out))
              have HPE : Hid (procE m (n : Int) = if okP m (m.procs.getD n default) = true then 0 else 3) := by
               show _ = _
               unfold procE
               rw [if_pos ⟨by omega, by omega⟩, Int.toNat_natCast]
              generalize m.procs.getD n default = U at *
              have x0 := HBX.out wr hC.out 0 (by decide)
              have x1 := HBX.out wr hC.out 1 (by decide)
              have x2 := HBX.out wr hC.out 2 (by decide)
              have x3 := HBX.out wr hC.out 3 (by decide)
              simp at x0 x1 x2 x3
              cases hu : okP m U
              ·rw [hu, if_neg (by decide)] at HPE
               rw [HPE.out] at EN1
               have HV : Hid (okE m = 3) := HNO.out (by rw [HM3.out]; exact hZ hu)
               clear hY hZ hu
               go_wp2_with fail
               refine EN1.out.mono ?_
               rintro e w5 ⟨rfl, hb5⟩
               have C5 : Hid (Below W0.heap.size W0 w5) := hC.out.trans (hb5.mono hzc)
               go_wp2_with fail
               go_ret
               exact ⟨ret_i HV.out.symm, HR.out _ C5.out⟩
              ·rw [hu, if_pos rfl] at HPE
               rw [HPE.out] at EN1
               have HA2 := Lib.hid (hY hu)
               clear hY hZ hu
               go_wp2_with fail
               refine EN1.out.mono ?_
               rintro e w5 ⟨rfl, hb5⟩
               have C5 : Hid (Below W0.heap.size W0 w5) := hC.out.trans (hb5.mono hzc)
               clear x0 x1 x2 x3 hb5
               go_wp2_with fail
               go_roundw
               case rel => exact ⟨n + 1, by omega, by go_num, C5, HA2⟩
               case measure => simp [intOf]; omega
             ·have HV : Hid (okE m = 0) := HYES.out (by rw [HM3.out]; have := HA.out; rwa [List.take_of_length_le (by omega)] at this)
              go_wp2_with fail
              go_ret
              exact ⟨ret_i HV.out.symm, HR.out _ hC.out⟩
           ·have HV : Hid (okE m = 3) := HNO.out (by rw [HM2.out, hv]; simp)
            rw [hv] at t1
            clear HM2 hx2 hv
            go_wp2_with fail
            go_ret
            exact ⟨ret_i HV.out.symm, HR.out _ (hB.out.alloc hzr _)⟩
          ·have hx2 : (T.params == 0) = false := by simpa using hx
           have HV : Hid (okE m = 3) := HNO.out (by rw [HM2.out, hx2]; rfl)
           clear HM2 hx2
           go_wp2_with fail
           go_ret
           exact ⟨ret_i HV.out.symm, HR.out _ (hB.out.alloc hzr _)⟩
       ·have g6 : decide ((m.procs.length : Int) ≤ m.main) = true := decide_eq_true (by omega)
        have HV : Hid (okE m = 3) := HNO.out (by rw [HM.out, d0, d1, d2, d3, d4, d5, decide_eq_false k6]; rfl)
        clear HM d2
        go_wp2_with fail
        go_ret
        exact ⟨ret_i HV.out.symm, HR.out _ B1.out⟩
      ·have g5 : decide (m.main < 0) = true := decide_eq_true (by omega)
       have HV : Hid (okE m = 3) := HNO.out (by rw [HM.out, d0, d1, d2, d3, d4, decide_eq_false k5]; rfl)
       clear HM d2
       go_wp2_with fail
       go_ret
       exact ⟨ret_i HV.out.symm, HR.out _ B1.out⟩
     ·have g4 : decide ((200 : Int) < (m.procs.length : Int)) = true := decide_eq_true (by omega)
      have HV : Hid (okE m = 3) := HNO.out (by rw [HM.out, d0, d1, d2, d3, decide_eq_false k4]; rfl)
      clear HM d2
      go_wp2_with fail
      go_ret
      exact ⟨ret_i HV.out.symm, HR.out _ B1.out⟩
    ·have g3 : decide ((m.procs.length : Int) < 1) = true := decide_eq_true (by omega)
     have HV : Hid (okE m = 3) := HNO.out (by rw [HM.out, d0, d1, d2, decide_eq_false k3]; rfl)
     clear HM d2
     go_wp2_with fail
     go_ret
     exact ⟨ret_i HV.out.symm, HR.out _ B1.out⟩
  ·have g1 : decide ((200 : Int) < (m.globs.length : Int)) = true := decide_eq_true (by omega)
   have HV : Hid (okE m = 3) := HNO.out (by rw [HM.out, d0, decide_eq_false k1]; rfl)
   clear HM
   go_wp2_with fail
   go_ret
   exact ⟨ret_i HV.out.symm, HR.out _ B0.out⟩
 ·have g0 : ((m.data.length : Int) != (m.globs.length : Int)) = true := by rw [bne_iff_ne]; omega
  have HV : Hid (okE m = 3) := HNO.out (by rw [HM.out, decide_eq_false k0]; rfl)
  clear HM
  go_wp2_with fail
  go_ret
  exact ⟨ret_i HV.out.symm, HR.out _ B0.out⟩
end Go.Proofs.YtchoiankeohonaaGreatDoor
