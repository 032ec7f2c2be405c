/-
  The statement on single steps and failures: its walk.
-/
import Derived.Test.YtabmbhhodecmfaaGreatV31
import Derived.Test.YtabmbhhodecmfaaGreatN2
set_option linter.all false
namespace Go.Proofs.YtabmbhhodecmfaaGreat
open Go.ChangeShapes Go.WideShapes Go.ChangeAt Go.RowKit
set_option maxHeartbeats 4000000
set_option linter.unusedVariables false
set_option maxRecDepth 100000

/-- the two machines at a time, alike -/
structure Duo (k : VK) (q : WK) (w0 w : World) (vl vr vs : Value) (m : Dv) (ts : List Mt) (j : Nat) : Prop where
  M : Vm k w vl m ts
  M' : Wm q w vr vs m
  ok : Dok m
  st : m.steps ≤ (j : Int)
  B : Below w0.heap.size w0 w
theorem DeviceSteps_w (x : Cs) (v : Value) (l : List Bool) (vb : Value) (w : World) (hx : CsOk x) (hv : CsV w v x) (hl : True) (hvb : RdB w vb l) :
    Calls Tryz.prog 4 #[v, vb] w fun e w' => e = .returned (.bool true) ∧ Below w.heap.size w w' := by
  obtain ⟨vc, vd, vi, vf, rfl, hc, hd, hi, hf, ⟨ac, cc, rfl⟩, ⟨ad, cd, rfl⟩, ⟨ai, ci, rfl⟩, ⟨af, cf, rfl⟩⟩ := hv
  obtain ⟨C, D, I, F, n⟩ := x
  obtain ⟨oc, od, oi, on⟩ := hx
  dsimp only at *
  have HA := Lib.hid awake3_c
  have CF := Lib.hid (fun w => few_c C.length D.length I.length F.length n ac ad ai af cc cd ci cf w)
  have HC := Lib.hid hc
  have HD := Lib.hid hd
  have HI := Lib.hid hi
  have HF := Lib.hid hf
  have OC := Lib.hid oc
  have OD := Lib.hid od
  have OI := Lib.hid oi
  have ON := Lib.hid on
  clear hc hd hi hf oc od oi on
  have HL := Lib.hid hvb
  obtain ⟨ab, cb, rfl, -⟩ := hvb
  clear hl
  go_enter Tryz.func4, Tryz.ntmps4
  cases hfew : fewB C.length D.length I.length F.length n
  · rw [hfew] at CF
    go_wp2_with fail
    obtain ⟨W0, hW0⟩ : ∃ W0, W0 = w.alloc (.cells #[.slice ac C.length cc, .slice ad D.length cd, .slice ai I.length ci, .slice af F.length cf, .int .i64 n] 26) := ⟨_, rfl⟩
    have hh : W0.heap[w.heap.size]? = some (.cells #[.slice ac C.length cc, .slice ad D.length cd, .slice ai I.length ci, .slice af F.length cf, .int .i64 n] 26 (0, 0)) := by rw [hW0]; exact heap_alloc_new w _
    have B0 : Hid (Below w.heap.size w W0) := by rw [hW0]; exact vbelow1 w _
    rw [← hW0]
    clear hW0
    have l0 : w.heap.size < W0.heap.size := (Array.getElem?_eq_some_iff.1 hh).1
    refine (CF.out _).mono ?_
    rintro e w1 ⟨rfl, hb1⟩
    have hh := (hb1.block _ l0).trans hh
    have B1 := Lib.hid (B0.out.trans (hb1.mono B0.out.size))
    have l1 : w.heap.size < w1.heap.size := Nat.lt_of_lt_of_le l0 hb1.size
    clear B0 l0 hb1
    have i0 := cell_of_heap hh 0
    have i1 := cell_of_heap hh 1
    have i2 := cell_of_heap hh 2
    have i3 := cell_of_heap hh 3
    have i4 := cell_of_heap hh 4
    simp only [List.getElem?_toArray, List.getElem?_cons_zero, List.getElem?_cons_succ] at i0 i1 i2 i3 i4
    have HH := Lib.hid hh
    clear hh
    go_wp2_with (go_at_call 7; (with_reducible refine (HA.out _).mono ?_); rintro e w2 ⟨rfl, hb2⟩)
    go_ret
    exact ⟨rfl, B1.out.trans (hb2.mono B1.out.size)⟩
  · rw [hfew] at CF
    obtain ⟨b1, b2, b3, b4, b5⟩ := few_bd hfew
    clear hfew
    by_cases h400 : l.length ≤ 400
    · have g1 : decide ((400 : Int) < (l.length : Int)) = false := decide_eq_false (by omega)
      have g2 : decide (400 < l.length) = false := decide_eq_false (by omega)
      by_cases hcl : C.length ≤ 32768
      · have g3 : decide ((32768 : Int) < (C.length : Int)) = false := decide_eq_false (by omega)
        have g4 : decide (32768 < C.length) = false := decide_eq_false (by omega)
        by_cases hdl : D.length ≤ 65536
        · have g5 : decide ((65536 : Int) < (D.length : Int)) = false := decide_eq_false (by omega)
          have g6 : decide (65536 < D.length) = false := decide_eq_false (by omega)
          go_wp2_with fail
          obtain ⟨W0, hW0⟩ : ∃ W0, W0 = w.alloc (.cells #[.slice ac C.length cc, .slice ad D.length cd, .slice ai I.length ci, .slice af F.length cf, .int .i64 n] 26) := ⟨_, rfl⟩
          have hh : W0.heap[w.heap.size]? = some (.cells #[.slice ac C.length cc, .slice ad D.length cd, .slice ai I.length ci, .slice af F.length cf, .int .i64 n] 26 (0, 0)) := by rw [hW0]; exact heap_alloc_new w _
          have B0 : Hid (Below w.heap.size w W0) := by rw [hW0]; exact vbelow1 w _
          rw [← hW0]
          clear hW0
          have l0 : w.heap.size < W0.heap.size := (Array.getElem?_eq_some_iff.1 hh).1
          refine (CF.out _).mono ?_
          rintro e w1 ⟨rfl, hb1⟩
          have hh := (hb1.block _ l0).trans hh
          have B1 := Lib.hid (B0.out.trans (hb1.mono B0.out.size))
          have l1 : w.heap.size < w1.heap.size := Nat.lt_of_lt_of_le l0 hb1.size
          clear B0 l0 hb1
          have i0 := cell_of_heap hh 0
          have i1 := cell_of_heap hh 1
          have i2 := cell_of_heap hh 2
          have i3 := cell_of_heap hh 3
          have i4 := cell_of_heap hh 4
          simp only [List.getElem?_toArray, List.getElem?_cons_zero, List.getElem?_cons_succ] at i0 i1 i2 i3 i4
          have HH := Lib.hid hh
          clear hh
          go_wp2_with fail
          clear g3 g4 g5 g6
          by_cases hm : mayD C.length D.length
          · refine (vnew_yes _ _ _ C D I w1 (HC.out.keep B1.out) (HD.out.keep B1.out) (HI.out.keep B1.out) hm (by omega)).mono ?_
            rintro e w2 ⟨k, rfl, kB, kC, kI, M2, B2⟩
            have hmL := Lib.hid hm
            clear hm
            have hh := HH.out
            clear i0 i1 i2 i3 i4 HH
            have hh := (B2.block _ l1).trans hh
            have l2 : w.heap.size < w2.heap.size := Nat.lt_of_lt_of_le l1 B2.size
            have BW2 := Lib.hid (B1.out.trans (B2.mono B1.out.size))
            have kB := Lib.hid kB
            have kC := Lib.hid kC
            have kI := Lib.hid kI
            have M2 := Lib.hid M2
            clear B2
            have i0 := cell_of_heap hh 0
            have i1 := cell_of_heap hh 1
            have i2 := cell_of_heap hh 2
            have i3 := cell_of_heap hh 3
            have i4 := cell_of_heap hh 4
            simp only [List.getElem?_toArray, List.getElem?_cons_zero, List.getElem?_cons_succ] at i0 i1 i2 i3 i4
            have HH := Lib.hid hh
            clear hh
            go_wp2_with fail
            refine (rbegin_c w _ _ _ C D I w2 BW2.out HC.out HD.out HI.out (by omega) OD.out).mono ?_
            rintro e w3 ⟨q, vr, rfl, qw, qB, qC, qI, M3', B3⟩
            clear i0 i1 i2 i3 i4 HH
            have BW3 := Lib.hid (BW2.out.trans (B3.mono BW2.out.size))
            have M3 := Lib.hid (M2.out.grow B3)
            have lo := Lib.hid (M2.out.lo (q := q) (by omega) (by rw [qw, kB.out]; exact B1.out.size))
            have hkB : w.heap.size ≤ k.B := by rw [kB.out]; exact B1.out.size
            have hqB : w.heap.size ≤ q.B := by rw [qB]; omega
            have qC := Lib.hid qC
            have qI := Lib.hid qI
            have M3' := Lib.hid M3'
            have hl1 : 1 ≤ C.length ∧ C.length ≤ 32768 := ⟨hmL.out.1, hmL.out.2.1⟩
            have hl2 : 4 ≤ D.length ∧ D.length ≤ 65536 := ⟨hmL.out.2.2.1, hmL.out.2.2.2.1⟩
            have okk : Hid k.ok := ⟨by rw [kC.out]; exact OC.out, by rw [kC.out]; exact hl1, by rw [kI.out]; exact OI.out, by rw [kI.out]; omega⟩
            have okq : Hid q.ok := ⟨by rw [qC.out]; exact OC.out, by rw [qC.out]; exact hl1, by rw [qI.out]; exact OI.out, by rw [qI.out]; omega⟩
            have D0 : Hid (Duo k q w w3 (.slice none 0 0) vr (.slice none 0 0) (beginD D) (List.replicate C.length default) 0) := ⟨M3.out, M3'.out, beginD_ok OD.out hl2, by show (0 : Int) ≤ _; omega, BW3.out⟩
            clear B3 qw qB M3 M3' BW3 l1 l2 B1 M2 BW2 hmL
            go_wp2_with fail
            go_loopw [8] (fun i wr => ∃ (j : Nat) (vl vr vs : Value) (m : Dv) (ts : List Mt), i = .int .i64 (j : Int) ∧ j ≤ l.length ∧ Hid (Duo k q w wr vl vr vs m ts j)) (fun i _ => l.length - (intOf i).toNat)
            case atStart => exact ⟨0, _, _, _, _, _, rfl, Nat.zero_le _, D0⟩
            case round =>
              clear D0
              obtain ⟨j, vl, vr, vs, m, ts, rfl, hj, U⟩ := hrel
              by_cases hlt : j < l.length
              · obtain ⟨a', c', ev, -, -, hrow⟩ := HL.out
                simp only [Value.slice.injEq] at ev
                obtain ⟨rfl, -, rfl⟩ := ev
                obtain ⟨bb, ob, rfl, hx⟩ := hrow j hlt
                simp only [Nat.mul_one, Nat.add_zero] at hx
                have lb := World.block_lt_of_cell? w _ hx
                have hx := (U.out.B.cell (p := ⟨bb, ob + j, none⟩) lb).trans hx
                have lbb : bb < wr.heap.size := Nat.lt_of_lt_of_le lb U.out.B.size
                have gl : decide ((j : Int) < (l.length : Int)) = true := decide_eq_true (by omega)
                have gl' : decide (j < l.length) = true := decide_eq_true hlt
                have hst : m.steps ≤ 1000000 := by have := U.out.st; omega
                cases hbj : l.getD j false
                · rw [hbj] at hx
                  clear hbj hrow
                  go_wp2_with fail
                  refine (wfail_c U.out.M').mono ?_
                  rintro e w5 ⟨vr5, rfl, M5', C5⟩
                  have M5 := Lib.hid (U.out.M.chw U.out.M' lo.out C5)
                  have B5 := Lib.hid (U.out.B.trans ((U.out.M'.chwBelow C5).mono hqB))
                  have M5' := Lib.hid M5'
                  clear C5
                  go_wp2_with fail
                  refine (vfail_c M5.out).mono ?_
                  rintro e w6 ⟨rfl, M6, C6⟩
                  have B6 := Lib.hid (B5.out.trans ((M5.out.chvBelow C6).mono hkB))
                  have M6' := Lib.hid (M5'.out.chv M5.out lo.out C6)
                  have U6 : Hid (Duo k q w w6 vl vr5 vs (failD m) ts (j + 1)) := ⟨M6, M6'.out, (failD_ok U.out.ok).1, by have := U.out.st; rw [failD_steps]; omega, B6.out⟩
                  clear U M5 B5 M5' M6 C6 B6 M6' hx
                  go_wp2_with fail
                  exact ⟨⟨j + 1, _, _, _, _, _, rfl, by omega, U6⟩, by simp [intOf]; omega⟩
                · rw [hbj] at hx
                  clear hbj hrow
                  go_wp2_with fail
                  have CW := wstep_c U.out.M' okq.out U.out.ok hst
                  refine CW.mono ?_
                  rintro e w5 ⟨vs5, rfl, M5', C5⟩
                  rw [qC.out, qI.out] at M5'
                  have M5 := Lib.hid (U.out.M.chw U.out.M' lo.out C5)
                  have B5 := Lib.hid (U.out.B.trans ((U.out.M'.chwBelow C5).mono hqB))
                  have BD := Lib.hid (Below.drew (Below.refl w5.heap.size w5))
                  have M5 := Lib.hid (M5.out.grow BD.out)
                  have M5' := Lib.hid (M5'.grow BD.out)
                  have B5 := Lib.hid (B5.out.trans (BD.out.mono B5.out.size))
                  clear C5 CW hx
                  have d9 : w5.drew.cell? ⟨q.br, 9, none⟩ = some (.int .i64 (stepD C I m).state) := M5'.out.c 9 (by decide)
                  have lq : q.br < w5.drew.heap.size := M5'.out.brLt.2
                  go_wp2_with fail
                  refine wp_region_game (fun x => x = q.br) (by kernel_rfl) ?_
                  show wpE _ _ _ _ _ _ _ w5.drew
                  clear BD
                  generalize w5.drew = w5 at *
                  refine E_mob2s [0, 2, 3, 4, 5] _ _ _ _ (by kernel_rfl) ?_
                  simp only [List.map_cons, List.map_nil, List.getElem?_toArray, List.getElem?_cons_succ, List.getElem?_cons_zero, Option.getD_some, List.size_toArray, List.length_cons, List.length_nil, Nat.reduceAdd, Nat.reduceSub]
                  repeat (go_big_quiet_step (fail))
                  refine wpQuiet_nil ?_
                  refine E_loud1 1 _ rfl (by kernel_rfl) ?_
                  simp only [List.getElem_toArray, List.getElem_cons_succ, List.getElem_cons_zero]
                  go_wp2_with fail
                  have CV := vstep_c M5.out okk.out U.out.ok hst
                  refine CV.mono ?_
                  rintro e w6 ⟨vl6, ts6, rfl, M6, C6⟩
                  rw [kC.out, kI.out] at M6
                  rw [kC.out, kI.out]
                  have B6 := Lib.hid (B5.out.trans ((M5.out.chvBelow C6).mono hkB))
                  have M6' := Lib.hid (M5'.out.chv M5.out lo.out C6)
                  have HSO := stepD_ok OC.out OI.out U.out.ok
                  have U6 : Hid (Duo k q w w6 vl6 vr vs5 (stepD C I m) ts6 (j + 1)) := ⟨M6, M6'.out, HSO.1, by have := U.out.st; have := HSO.2.2.2.2; omega, B6.out⟩
                  have HK6 : Hid (Keep (fun x => x = q.br) w5 w6) := fun b o hb => by
                    cases hb
                    refine World.cell?_of_block (a := ⟨_, o, none⟩) (C6.keep q.br lq ?_ ?_ ?_ ?_)
                    · have := lo.out.bm; have := M5'.out.brLt.1; omega
                    · have := lo.out.bt; have := M5'.out.brLt.1; omega
                    · intro e; have := lo.out.vd _ e.symm; have := M5'.out.brLt.1; omega
                    · exact ne_own M5'.out.bx M5.out.ll (by decide) rfl
                  clear U M5 B5 M5' M6 C6 B6 M6' CV HSO d9
                  go_wp2_with fail
                  refine ⟨HK6.out, ?_⟩
                  refine E_mob2s [6] _ _ _ _ (by kernel_rfl) ?_
                  simp only [List.map_cons, List.map_nil, List.getElem?_toArray, List.getElem?_cons_succ, List.getElem?_cons_zero, Option.getD_some, List.size_toArray, List.length_cons, List.length_nil, Nat.reduceAdd, Nat.reduceSub]
                  repeat (go_big_quiet_step (fail))
                  refine wpQuiet_nil ?_
                  refine E_done (by kernel_rfl) ?_ _
                  go_wp2_with fail
                  exact ⟨⟨j + 1, _, _, _, _, _, rfl, by omega, U6⟩, by simp [intOf]; omega⟩
              · obtain rfl : j = l.length := by omega
                have gl : decide ((l.length : Int) < (l.length : Int)) = false := decide_eq_false (by omega)
                have gl' : decide (l.length < l.length) = false := decide_eq_false (by omega)
                go_wp2_with fail
                refine (HA.out _).mono ?_
                rintro e w6 ⟨rfl, B6⟩
                have BW6 := Lib.hid (U.out.B.trans (B6.mono U.out.B.size))
                have M6 := Lib.hid (U.out.M.grow B6)
                have M6' := Lib.hid (U.out.M'.grow B6)
                go_wp2_with fail
                refine (alike_c M6.out M6'.out U.out.ok (by have := U.out.st; omega) trivial).mono ?_
                rintro e w8 ⟨rfl, B8⟩
                have BW8 := Lib.hid (BW6.out.trans (B8.mono BW6.out.size))
                clear B6 B8
                go_wp2_with fail
                go_ret
                exact ⟨rfl, BW8.out⟩
          · refine (vnew_no _ _ _ C.length D.length ac ad cc cd w1 rfl rfl hm (by omega) (by omega)).mono ?_
            rintro e w2 ⟨rfl, rfl⟩
            clear hm
            go_wp2_with (go_at_call 7; (with_reducible refine (HA.out _).mono ?_); rintro e w2 ⟨rfl, hb2⟩)
            go_ret
            exact ⟨rfl, B1.out.trans (hb2.mono B1.out.size)⟩
        · have g5 : decide ((65536 : Int) < (D.length : Int)) = true := decide_eq_true (by omega)
          have g6 : decide (65536 < D.length) = true := decide_eq_true (by omega)
          go_wp2_with fail
          obtain ⟨W0, hW0⟩ : ∃ W0, W0 = w.alloc (.cells #[.slice ac C.length cc, .slice ad D.length cd, .slice ai I.length ci, .slice af F.length cf, .int .i64 n] 26) := ⟨_, rfl⟩
          have hh : W0.heap[w.heap.size]? = some (.cells #[.slice ac C.length cc, .slice ad D.length cd, .slice ai I.length ci, .slice af F.length cf, .int .i64 n] 26 (0, 0)) := by rw [hW0]; exact heap_alloc_new w _
          have B0 : Hid (Below w.heap.size w W0) := by rw [hW0]; exact vbelow1 w _
          rw [← hW0]
          clear hW0
          have l0 : w.heap.size < W0.heap.size := (Array.getElem?_eq_some_iff.1 hh).1
          refine (CF.out _).mono ?_
          rintro e w1 ⟨rfl, hb1⟩
          have hh := (hb1.block _ l0).trans hh
          have B1 := Lib.hid (B0.out.trans (hb1.mono B0.out.size))
          have l1 : w.heap.size < w1.heap.size := Nat.lt_of_lt_of_le l0 hb1.size
          clear B0 l0 hb1
          have i0 := cell_of_heap hh 0
          have i1 := cell_of_heap hh 1
          have i2 := cell_of_heap hh 2
          have i3 := cell_of_heap hh 3
          have i4 := cell_of_heap hh 4
          simp only [List.getElem?_toArray, List.getElem?_cons_zero, List.getElem?_cons_succ] at i0 i1 i2 i3 i4
          have HH := Lib.hid hh
          clear hh
          go_wp2_with (go_at_call 7; (with_reducible refine (HA.out _).mono ?_); rintro e w2 ⟨rfl, hb2⟩)
          go_ret
          exact ⟨rfl, B1.out.trans (hb2.mono B1.out.size)⟩
      · have g3 : decide ((32768 : Int) < (C.length : Int)) = true := decide_eq_true (by omega)
        have g4 : decide (32768 < C.length) = true := decide_eq_true (by omega)
        go_wp2_with fail
        obtain ⟨W0, hW0⟩ : ∃ W0, W0 = w.alloc (.cells #[.slice ac C.length cc, .slice ad D.length cd, .slice ai I.length ci, .slice af F.length cf, .int .i64 n] 26) := ⟨_, rfl⟩
        have hh : W0.heap[w.heap.size]? = some (.cells #[.slice ac C.length cc, .slice ad D.length cd, .slice ai I.length ci, .slice af F.length cf, .int .i64 n] 26 (0, 0)) := by rw [hW0]; exact heap_alloc_new w _
        have B0 : Hid (Below w.heap.size w W0) := by rw [hW0]; exact vbelow1 w _
        rw [← hW0]
        clear hW0
        have l0 : w.heap.size < W0.heap.size := (Array.getElem?_eq_some_iff.1 hh).1
        refine (CF.out _).mono ?_
        rintro e w1 ⟨rfl, hb1⟩
        have hh := (hb1.block _ l0).trans hh
        have B1 := Lib.hid (B0.out.trans (hb1.mono B0.out.size))
        have l1 : w.heap.size < w1.heap.size := Nat.lt_of_lt_of_le l0 hb1.size
        clear B0 l0 hb1
        have i0 := cell_of_heap hh 0
        have i1 := cell_of_heap hh 1
        have i2 := cell_of_heap hh 2
        have i3 := cell_of_heap hh 3
        have i4 := cell_of_heap hh 4
        simp only [List.getElem?_toArray, List.getElem?_cons_zero, List.getElem?_cons_succ] at i0 i1 i2 i3 i4
        have HH := Lib.hid hh
        clear hh
        go_wp2_with (go_at_call 7; (with_reducible refine (HA.out _).mono ?_); rintro e w2 ⟨rfl, hb2⟩)
        go_ret
        exact ⟨rfl, B1.out.trans (hb2.mono B1.out.size)⟩
    · have g1 : decide ((400 : Int) < (l.length : Int)) = true := decide_eq_true (by omega)
      have g2 : decide (400 < l.length) = true := decide_eq_true (by omega)
      go_wp2_with fail
      obtain ⟨W0, hW0⟩ : ∃ W0, W0 = w.alloc (.cells #[.slice ac C.length cc, .slice ad D.length cd, .slice ai I.length ci, .slice af F.length cf, .int .i64 n] 26) := ⟨_, rfl⟩
      have hh : W0.heap[w.heap.size]? = some (.cells #[.slice ac C.length cc, .slice ad D.length cd, .slice ai I.length ci, .slice af F.length cf, .int .i64 n] 26 (0, 0)) := by rw [hW0]; exact heap_alloc_new w _
      have B0 : Hid (Below w.heap.size w W0) := by rw [hW0]; exact vbelow1 w _
      rw [← hW0]
      clear hW0
      have l0 : w.heap.size < W0.heap.size := (Array.getElem?_eq_some_iff.1 hh).1
      refine (CF.out _).mono ?_
      rintro e w1 ⟨rfl, hb1⟩
      have hh := (hb1.block _ l0).trans hh
      have B1 := Lib.hid (B0.out.trans (hb1.mono B0.out.size))
      have l1 : w.heap.size < w1.heap.size := Nat.lt_of_lt_of_le l0 hb1.size
      clear B0 l0 hb1
      have i0 := cell_of_heap hh 0
      have i1 := cell_of_heap hh 1
      have i2 := cell_of_heap hh 2
      have i3 := cell_of_heap hh 3
      have i4 := cell_of_heap hh 4
      simp only [List.getElem?_toArray, List.getElem?_cons_zero, List.getElem?_cons_succ] at i0 i1 i2 i3 i4
      have HH := Lib.hid hh
      clear hh
      go_wp2_with (go_at_call 7; (with_reducible refine (HA.out _).mono ?_); rintro e w2 ⟨rfl, hb2⟩)
      go_ret
      exact ⟨rfl, B1.out.trans (hb2.mono B1.out.size)⟩
end Go.Proofs.YtabmbhhodecmfaaGreat
