/-
  The document's judgement of modules.
-/
import Derived.Test.YtnnhobbabcfogaaDoorR25
import Derived.Test.YtnnhobbabcfogaaDoorN2
set_option linter.all false
namespace Go.Proofs.YtnnhobbabcfogaaDoor
open Go.ChangeShapes Go.WideShapes Go.ChangeAt Go.RowKit
set_option maxHeartbeats 8000000
set_option linter.unusedVariables false
set_option maxRecDepth 100000

structure HeadM (m : Md) : Prop where
  dg : m.data.length = m.globs.length
  g2 : m.globs.length ≤ 200
  sl : m.globs.all slotF = true
  p1 : 1 ≤ m.procs.length
  p2 : m.procs.length ≤ 200
  m0 : 0 ≤ m.main
  m1 : m.main < m.procs.length
theorem okM_head {m : Md} (h : okM m = true) : HeadM m := by
  unfold okM okHeadM at h
  simp only [Bool.and_eq_true, decide_eq_true_eq] at h
  obtain ⟨⟨h1, h2, h3, h4, h5, h6, h7⟩, -⟩ := h
  exact ⟨h1, h2, h3, h4, h5, h6, h7⟩
theorem okM_no {m : Md} (h : HeadM m → False) : okM m = false := by
  cases e : okM m
  · rfl
  · exact (h (okM_head e)).elim
theorem okM_eq {m : Md} (h : HeadM m) : okM m = (dataF m && (((m.procs.getD m.main.toNat default).params == 0 && !(m.procs.getD m.main.toNat default).void) && m.procs.all (okP m))) := by
  have : okHeadM m = true := by
    unfold okHeadM
    simp only [Bool.and_eq_true, decide_eq_true_eq]
    exact ⟨h.dg, h.g2, h.sl, h.p1, h.p2, h.m0, h.m1⟩
  unfold okM
  rw [this, Bool.true_and]
theorem rcheck_c (m : Md) (v : Value) (w : World) (h : MdV w v m) (hs : SzM m) :
    Calls Tryd.prog 12 #[v] w fun e w' => e = .returned (.int .i64 (okE m)) ∧ Below w.heap.size w w' := by
  have EN : Hid (∀ n w', Ext w w' → Calls Tryd.prog 14 #[v, .int .i64 n] w' fun e w'' => e = .returned (.int .i64 (procE m n)) ∧ Below w'.heap.size w' w'') := fun n w' he => rprocN_c m v n w' (h.ext he) hs
  obtain ⟨vg, vd, vp, rfl, hvg, hvd, hvp⟩ := h
  have ES : Hid (∀ w', Ext w w' → Calls Tryd.prog 38 #[vg, .int .i64 200] w' fun e w'' => e = .returned (.bool (m.globs.all slotF && decide ((m.globs.length : Int) ≤ 200))) ∧ w' = w'') := fun w' he => rslots_c m.globs vg 200 w' (hvg.ext he)
  have hvp' := hvp
  obtain ⟨ap, cp, rfl, hp1, hp2, -⟩ := hvp'
  have HPS := Lib.hid (RdPrs.at6 hvp).2
  have hvg' := hvg
  obtain ⟨ag, cg, rfl, hg1, hg2, -⟩ := hvg'
  have hvd' := hvd
  obtain ⟨ad, cd, rfl, hd1, hd2, -⟩ := hvd'
  have HGS := Lib.hid (RdSls.at hvg).2
  have HDS := Lib.hid (RdYs.at hvd).2
  clear hvp hvg hvd
  unfold maxLen at hp2 hg2 hd2
  have HNO : Hid (okM m = false → okE m = 3) := fun h => by unfold okE; rw [h]; rfl
  have HYES : Hid (okM m = true → okE m = 0) := fun h => by unfold okE; rw [if_pos h]
  obtain ⟨E, hE⟩ : ∃ E, okE m = E := ⟨_, rfl⟩
  rw [hE] at HNO HYES ⊢
  clear hE
  go_enter Tryd.func12, Tryd.ntmps12
  go_upto_region 1 with (fail)
  obtain ⟨W0, hW0⟩ : ∃ W0, W0 = w.alloc (.cells #[.slice ag m.globs.length cg, .slice ad m.data.length cd, .slice ap m.procs.length cp, .int .i64 m.main] 26) := ⟨_, rfl⟩
  rw [← hW0]
  have HM : Hid (W0.heap[w.heap.size]? = some (.cells #[.slice ag m.globs.length cg, .slice ad m.data.length cd, .slice ap m.procs.length cp, .int .i64 m.main] 26 (0, 0))) := by rw [hW0]; exact heap_alloc_new w _
  have BW : Hid (Below w.heap.size w W0) := by rw [hW0]; exact below_alloc w _
  have lm0 : w.heap.size < W0.heap.size := by rw [hW0]; simp
  have B0 : Hid (Below W0.heap.size W0 W0) := Below.refl _ _
  have HR : Hid (∀ w', Below W0.heap.size W0 w' → Below w.heap.size w w') := fun w' hb => BW.out.trans (hb.mono BW.out.size)
  clear hW0 BW
  have x := fun j => cell_of_heap ((B0.out.block _ lm0).trans HM.out) j
  have x0 := x 0
  have x1 := x 1
  have x2 := x 2
  have x3 := x 3
  simp only [List.getElem?_toArray, List.getElem?_cons_zero, List.getElem?_cons_succ] at x0 x1 x2 x3
  clear x
  have lm : w.heap.size < W0.heap.size := by have := B0.out.size; omega
  by_cases k1 : (m.data.length : Int) = (m.globs.length : Int)
  · have gk1 : ((m.data.length : Int) == (m.globs.length : Int)) = true := beq_iff_eq.2 k1
    have gn1 : ((m.data.length : Int) != (m.globs.length : Int)) = false := bne_eq_false_iff_eq.2 k1
    have kh1 := Lib.hid k1
    clear k1
    have hdg0 : (m.data.length : Int) = m.globs.length := kh1.out
    have hdg1 : m.data.length ≤ m.globs.length := by omega
    have hdg2 : m.globs.length ≤ m.data.length := by omega
    clear hdg0
    cases hsl : m.globs.all slotF
    · rw [hsl] at ES
      have HV2 : Hid (E = 3) := HNO.out (okM_no fun q => by have := q.sl; rw [hsl] at this; cases this)
      clear HNO HYES hsl
      go_wp2_with fail
      refine (ES.out _ (Ext.below (HR.out _ B0.out))).mono ?_
      rintro e w3 ⟨rfl, rfl⟩
      go_wp2_with fail
      go_ret
      exact ⟨ret_i HV2.out.symm, HR.out _ B0.out⟩
    · rw [hsl, Bool.true_and] at ES
      by_cases k2 : (m.globs.length : Int) ≤ 200
      · have gk2 : decide ((m.globs.length : Int) ≤ 200) = true := decide_eq_true k2
        have gl2 : decide (200 < (m.globs.length : Int)) = false := decide_eq_false (by omega)
        rw [decide_eq_true (‹(m.globs.length : Int) ≤ 200›)] at ES
        have hsl2 := hsl
        clear hsl
        go_wp2_with fail
        refine (ES.out _ (Ext.below (HR.out _ B0.out))).mono ?_
        rintro e w3 ⟨rfl, rfl⟩
        by_cases k3 : (m.procs.length : Int) < 1
        · have gk3 : decide ((m.procs.length : Int) < 1) = true := decide_eq_true k3
          have gl3 : decide (1 ≤ (m.procs.length : Int)) = false := decide_eq_false (by omega)
          have HV2 : Hid (E = 3) := HNO.out (okM_no fun q => by have := q.p1; omega)
          clear HNO HYES
          go_wp2_with fail
          go_ret
          exact ⟨ret_i HV2.out.symm, HR.out _ B0.out⟩
        · have gk3 : decide ((m.procs.length : Int) < 1) = false := decide_eq_false k3
          have gl3 : decide (1 ≤ (m.procs.length : Int)) = true := decide_eq_true (by omega)
          by_cases k4 : 200 < (m.procs.length : Int)
          · have gk4 : decide (200 < (m.procs.length : Int)) = true := decide_eq_true k4
            have gl4 : decide ((m.procs.length : Int) ≤ 200) = false := decide_eq_false (by omega)
            have HV2 : Hid (E = 3) := HNO.out (okM_no fun q => by have := q.p2; omega)
            clear HNO HYES
            go_wp2_with fail
            go_ret
            exact ⟨ret_i HV2.out.symm, HR.out _ B0.out⟩
          · have gk4 : decide (200 < (m.procs.length : Int)) = false := decide_eq_false k4
            have gl4 : decide ((m.procs.length : Int) ≤ 200) = true := decide_eq_true (by omega)
            by_cases k5 : m.main < 0
            · have gk5 : decide (m.main < 0) = true := decide_eq_true k5
              have gl5 : decide (0 ≤ m.main) = false := decide_eq_false (by omega)
              have HV2 : Hid (E = 3) := HNO.out (okM_no fun q => by have := q.m0; omega)
              clear HNO HYES
              go_wp2_with fail
              go_ret
              exact ⟨ret_i HV2.out.symm, HR.out _ B0.out⟩
            · have gk5 : decide (m.main < 0) = false := decide_eq_false k5
              have gl5 : decide (0 ≤ m.main) = true := decide_eq_true (by omega)
              by_cases k6 : m.main < (m.procs.length : Int)
              · have gk6 : decide (m.main < (m.procs.length : Int)) = true := decide_eq_true k6
                have gl6 : decide ((m.procs.length : Int) ≤ m.main) = false := decide_eq_false (by omega)
                have hHd : HeadM m := ⟨by omega, by omega, by assumption, by omega, by omega, by omega, by omega⟩
                have HMQ := Lib.hid (okM_eq hHd)
                obtain ⟨mk, hmk⟩ := Int.eq_ofNat_of_zero_le (show 0 ≤ m.main by omega)
                have hml : mk < m.procs.length := by omega
                rw [hmk, Int.toNat_natCast] at HMQ
                clear hHd ES
                rw [hmk] at HM
                have Hmk := Lib.hid hmk
                clear hmk
                go_wp2_with fail
                clear x0 x1 x2 x3
                go_loopw [3] (fun i wr => ∃ k : Nat, k ≤ m.data.length ∧ i = .int .i64 (k : Int) ∧ Hid (Below W0.heap.size W0 wr) ∧ Hid (∀ j, j < k → ((m.data.getD j []).length : Int) = (m.globs.getD j default).size)) (fun i _ => m.data.length - (intOf i).toNat)
                case atStart => exact ⟨0, Nat.zero_le _, rfl, B0, fun j hj => absurd hj (Nat.not_lt_zero j)⟩
                case round =>
                  clear B0
                  obtain ⟨wo, rfl⟩ : ∃ x, x = wr := ⟨wr, rfl⟩
                  obtain ⟨k, hk, rfl, hB, HA⟩ := hrel
                  have hzr := hB.out.size
                  have x := fun j => cell_of_heap ((hB.out.block _ lm0).trans HM.out) j
                  have x0 := x 0
                  have x1 := x 1
                  have x2 := x 2
                  have x3 := x 3
                  simp only [List.getElem?_toArray, List.getElem?_cons_zero, List.getElem?_cons_succ] at x0 x1 x2 x3
                  clear x
                  have lm : w.heap.size < wo.heap.size := by have := hB.out.size; omega
                  by_cases hlt : k < m.data.length
                  · obtain ⟨bd, od, a2, c2, rfl, q0, hy⟩ := HDS.out k hlt
                    obtain ⟨bg, og, gnm, rfl, -, q1, -⟩ := HGS.out k (by omega)
                    have hEr := Ext.below (HR.out _ hB.out)
                    replace q0 := hEr _ _ q0
                    replace q1 := hEr _ _ q1
                    have lbd : bd < wo.heap.size := World.block_lt_of_cell? wo _ q0
                    have lbg : bg < wo.heap.size := World.block_lt_of_cell? wo _ q1
                    have HK : Hid (¬ ((m.data.getD k []).length : Int) = (m.globs.getD k default).size → dataF m = false) := fun h => by
                      unfold dataF
                      rw [List.all_eq_false]
                      exact ⟨k, List.mem_range.2 hlt, by rw [decide_eq_false h]; decide⟩
                    obtain ⟨ay, cy, e, hm1, hm2, -⟩ := hy
                    simp only [Value.slice.injEq] at e
                    obtain ⟨rfl, -, rfl⟩ := e
                    unfold maxLen at hm2
                    have HKY : Hid (((m.data.getD k []).length : Int) = (m.globs.getD k default).size → ∀ j, j < k + 1 → ((m.data.getD j []).length : Int) = (m.globs.getD j default).size) := fun h j hj => by
                      rcases Nat.lt_or_ge j k with h2 | h2
                      · exact HA.out j h2
                      · obtain rfl : j = k := by omega
                        exact h
                    have hgN : k < m.globs.length := by omega
                    have gk0 : decide (m.globs.length ≤ k) = false := decide_eq_false (by omega)
                    generalize m.data.getD k [] = D at q0 HK HKY hm1 hm2
                    generalize (m.globs.getD k default).size = SZ at q1 HK HKY
                    clear hEr
                    go_wp2_with fail
                    refine wp_region_junk (fun _ => True) (by kernel_rfl) ?_
                    refine J_mobs [0, 1, 2, 3, 4, 5, 6, 7, 8, 9, 10, 11, 12] _ _ _ _ (by kernel_rfl) ?_
                    simp only [List.map_cons, List.map_nil, List.getElem?_toArray, List.getElem?_cons_succ, List.getElem?_cons_zero, Option.getD_some, List.size_toArray, List.length_cons, List.length_nil, Nat.reduceAdd, Nat.reduceSub]
                    repeat (go_big_quiet_step (fail))
                    refine wpQuiet_nil ?_
                    refine J_done (by kernel_rfl) (fun wk hk2 => ?_) _
                    have hB2 : Hid (Below W0.heap.size W0 wk) := hB.out.trans (hk2.mono hzr)
                    clear hk2
                    cases hx : ((D.length : Int) != SZ)
                    · have HA2 := Lib.hid (HKY.out (by simpa using hx))
                      clear x0 x1 x2 x3
                      clear q0 q1
                      go_wp2_with fail
                      go_roundw
                      case rel => exact ⟨k + 1, by omega, by go_num, hB2, HA2⟩
                      case measure => simp [intOf]; omega
                    · have HV2 : Hid (E = 3) := HNO.out (by rw [HMQ.out, HK.out (by simpa using hx)]; rfl)
                      clear x0 x1 x2 x3
                      clear q0 q1
                      go_wp2_with fail
                      go_ret
                      exact ⟨ret_i HV2.out.symm, HR.out _ hB2.out⟩
                  · have HDF : Hid (dataF m = true) := by
                      show _ = _
                      unfold dataF
                      rw [List.all_eq_true]
                      intro j hj
                      exact decide_eq_true (HA.out j (by have := List.mem_range.1 hj; omega))
                    obtain ⟨bp, op, tnm, tvo, tvb, hap, ⟨tao, tco, rfl, -⟩, ⟨tab, tcb, rfl, -⟩, t0, t1, t2, t3, t4, t5⟩ := HPS.out mk hml
                    subst hap
                    rw [HDF.out, Bool.true_and] at HMQ
                    generalize m.procs.getD mk default = T at *
                    have hEr := Ext.below (HR.out _ hB.out)
                    replace t1 := hEr _ _ t1
                    replace t2 := hEr _ _ t2
                    have lbp : bp < wo.heap.size := World.block_lt_of_cell? wo _ t1
                    clear hEr HDF HA HDS HGS t0 t3 t4 t5
                    cases hx : (T.params != 0)
                    · have hx2 : (T.params == 0) = true := by simpa using hx
                      cases hv : T.void
                      · have HM3 : Hid (okM m = m.procs.all (okP m)) := by show _ = _; rw [HMQ.out, hx2, hv]; rfl
                        rw [hv] at t1
                        clear HMQ hx2 hv
                        go_wp2_with fail
                        clear x0 x1 x2 x3
                        clear t1 t2
                        go_loopw [4] (fun i wr => ∃ k : Nat, k ≤ m.procs.length ∧ i = .int .i64 (k : Int) ∧ Hid (Below W0.heap.size W0 wr) ∧ Hid ((m.procs.take k).all (okP m) = true)) (fun i _ => m.procs.length - (intOf i).toNat)
                        case atStart => exact ⟨0, Nat.zero_le _, rfl, hB, rfl⟩
                        case round =>
                          clear hB
                          obtain ⟨n, hn, rfl, hC, HA⟩ := hrel
                          have hzc := hC.out.size
                          have x := fun j => cell_of_heap ((hC.out.block _ lm0).trans HM.out) j
                          have x0 := x 0
                          have x1 := x 1
                          have x2 := x 2
                          have x3 := x 3
                          simp only [List.getElem?_toArray, List.getElem?_cons_zero, List.getElem?_cons_succ] at x0 x1 x2 x3
                          clear x
                          have lm : w.heap.size < wr.heap.size := by have := hC.out.size; omega
                          by_cases hln : n < m.procs.length
                          · have hY := allG_take (okP m) m.procs n hln HA.out
                            have hZ := allG_no (okP m) m.procs n hln
                            have EN1 := Lib.hid (EN.out (n : Int) wr (Ext.below (HR.out _ hC.out)))
                            have HPE : Hid (procE m (n : Int) = if okP m (m.procs.getD n default) = true then 0 else 3) := by
                              show _ = _
                              unfold procE
                              rw [if_pos ⟨by omega, by omega⟩, Int.toNat_natCast]
                            generalize m.procs.getD n default = U at *
                            rw [Hmk.out] at EN1
                            cases hu : okP m U
                            · rw [hu, if_neg (by decide)] at HPE
                              rw [HPE.out] at EN1
                              have HV2 : Hid (E = 3) := HNO.out (by rw [HM3.out]; exact hZ hu)
                              clear hY hZ hu
                              go_wp2_with fail
                              refine EN1.out.mono ?_
                              rintro e w5 ⟨rfl, hb5⟩
                              have C5 : Hid (Below W0.heap.size W0 w5) := hC.out.trans (hb5.mono hzc)
                              go_wp2_with fail
                              go_ret
                              exact ⟨ret_i HV2.out.symm, HR.out _ C5.out⟩
                            · rw [hu, if_pos rfl] at HPE
                              rw [HPE.out] at EN1
                              have HA2 := Lib.hid (hY hu)
                              clear hY hZ hu
                              go_wp2_with fail
                              refine EN1.out.mono ?_
                              rintro e w5 ⟨rfl, hb5⟩
                              have C5 : Hid (Below W0.heap.size W0 w5) := hC.out.trans (hb5.mono hzc)
                              clear x0 x1 x2 x3
                              clear hb5
                              go_wp2_with fail
                              go_roundw
                              case rel => exact ⟨n + 1, by omega, by go_num, C5, HA2⟩
                              case measure => simp [intOf]; omega
                          · have HV2 : Hid (E = 0) := HYES.out (by rw [HM3.out]; have := HA.out; rwa [List.take_of_length_le (by omega)] at this)
                            go_wp2_with fail
                            go_ret
                            exact ⟨ret_i HV2.out.symm, HR.out _ hC.out⟩
                      · have HV2 : Hid (E = 3) := HNO.out (by rw [HMQ.out, hv]; simp)
                        rw [hv] at t1
                        clear HMQ hx2 hv
                        go_wp2_with fail
                        go_ret
                        exact ⟨ret_i HV2.out.symm, HR.out _ hB.out⟩
                    · have hx2 : (T.params == 0) = false := by simpa using hx
                      have HV2 : Hid (E = 3) := HNO.out (by rw [HMQ.out, hx2]; rfl)
                      clear HMQ hx2
                      go_wp2_with fail
                      go_ret
                      exact ⟨ret_i HV2.out.symm, HR.out _ hB.out⟩
              · have gk6 : decide (m.main < (m.procs.length : Int)) = false := decide_eq_false k6
                have gl6 : decide ((m.procs.length : Int) ≤ m.main) = true := decide_eq_true (by omega)
                have HV2 : Hid (E = 3) := HNO.out (okM_no fun q => by have := q.m1; omega)
                clear HNO HYES
                go_wp2_with fail
                go_ret
                exact ⟨ret_i HV2.out.symm, HR.out _ B0.out⟩
      · have gk2 : decide ((m.globs.length : Int) ≤ 200) = false := decide_eq_false k2
        have gl2 : decide (200 < (m.globs.length : Int)) = true := decide_eq_true (by omega)
        rw [decide_eq_false (‹¬ (m.globs.length : Int) ≤ 200›)] at ES
        have HV2 : Hid (E = 3) := HNO.out (okM_no fun q => by have := q.g2; omega)
        clear HNO HYES hsl
        go_wp2_with fail
        refine (ES.out _ (Ext.below (HR.out _ B0.out))).mono ?_
        rintro e w3 ⟨rfl, rfl⟩
        go_wp2_with fail
        go_ret
        exact ⟨ret_i HV2.out.symm, HR.out _ B0.out⟩
  · have gk1 : ((m.data.length : Int) == (m.globs.length : Int)) = false := beq_eq_false_iff_ne.2 k1
    have gn1 : ((m.data.length : Int) != (m.globs.length : Int)) = true := bne_iff_ne.2 k1
    have kh1 := Lib.hid k1
    clear k1
    have HV2 : Hid (E = 3) := HNO.out (okM_no fun q => by have := q.dg; have := kh1.out; omega)
    clear HNO HYES
    go_wp2_with fail
    go_ret
    exact ⟨ret_i HV2.out.symm, HR.out _ B0.out⟩
end Go.Proofs.YtnnhobbabcfogaaDoor
