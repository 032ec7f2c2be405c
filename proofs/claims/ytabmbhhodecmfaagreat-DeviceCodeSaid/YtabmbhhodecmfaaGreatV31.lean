/-
  The statement on runs: its walk.
-/
import Derived.Test.YtabmbhhodecmfaaGreatV27
import Derived.Test.YtabmbhhodecmfaaGreatV30
import Derived.Test.YtabmbhhodecmfaaGreatO5
import Derived.Test.YtabmbhhodecmfaaGreatN2
set_option linter.all false
namespace Go.Proofs.YtabmbhhodecmfaaGreat
open Go.ChangeShapes Go.WideShapes Go.ChangeAt Go.RowKit
set_option maxHeartbeats 4000000
set_option linter.unusedVariables false
set_option maxRecDepth 100000

theorem few_bd {nc nd ni nf : Nat} {n : Int} (h : fewB nc nd ni nf n = true) : nc ≤ 33000 ∧ nd ≤ 66000 ∧ ni ≤ 40 ∧ nf ≤ 100 ∧ n ≤ 400 := by
  unfold fewB at h
  simp only [Bool.and_eq_true, Bool.or_eq_true, decide_eq_true_eq] at h
  omega
theorem fv_grow {w w' : World} {fb : Nat} {v : Value} {L : List Int} (h : FV w fb v L) (hb : Below w.heap.size w w') : FV w' fb v L := by
  rcases h with h | ⟨o, c, e, h1, h2, h3⟩
  · exact .inl h
  · exact .inr ⟨o, c, e, h1, h2, fun j hj => (hb.cell (p := ⟨fb, o + j, none⟩) (World.block_lt_of_cell? w _ (h3 j hj))).trans (h3 j hj)⟩
/-- the failures are another block than a machine's -/
theorem fv_pick {w0 w : World} {v : Value} {L : List Int} (h : ∃ fb, FV w0 fb v L ∧ (L ≠ [] → fb < w0.heap.size)) (hb : Below w0.heap.size w0 w) : ∃ fb, FV w fb v L ∧ (fb < w0.heap.size ∨ fb = w.heap.size) := by
  obtain ⟨fb, h1, h2⟩ := h
  cases L with
  | nil =>
    rcases h1 with ⟨⟨a, c, rfl⟩, -⟩ | ⟨o, c, rfl, -⟩
    · exact ⟨w.heap.size, fv_nil _ _ _ _, .inr rfl⟩
    · exact ⟨w.heap.size, fv_nil _ _ _ _, .inr rfl⟩
  | cons x l => exact ⟨fb, fv_grow h1 hb, .inl (h2 (by simp))⟩
theorem Vm.picked {k : VK} {w w0 : World} {vl : Value} {m : Dv} {ts : List Mt} (h : Vm k w vl m ts) (h0 : w0.heap.size ≤ k.B) {fb : Nat} (hf : fb < w0.heap.size ∨ fb = w.heap.size) : fb ≠ k.bm ∧ fb ≠ k.bt ∧ some fb ≠ k.vd.ownBlock ∧ some fb ≠ vl.ownBlock := by
  rcases hf with hf | rfl
  · exact ⟨by have := h.bmLt.1; omega, by have := h.btLt.1; omega, fun e => by have := (own_lt h.dd e.symm).1; omega, fun e => by have := (own_lt h.ll e.symm).1; omega⟩
  · exact h.fresh
theorem Wm.picked {q : WK} {w w0 : World} {vr vl : Value} {m : Dv} (h : Wm q w vr vl m) (h0 : w0.heap.size ≤ q.B) {fb : Nat} (hf : fb < w0.heap.size ∨ fb = w.heap.size) : fb ≠ q.br ∧ some fb ≠ q.vd.ownBlock ∧ some fb ≠ vr.ownBlock ∧ some fb ≠ vl.ownBlock := by
  rcases hf with hf | rfl
  · exact ⟨by have := h.brLt.1; omega, fun e => by have := (own_lt h.dd e.symm).1; omega, fun e => by have := (own_lt h.rr e.symm).1; omega, fun e => by have := (own_lt h.ll e.symm).1; omega⟩
  · exact h.apart
theorem DeviceRuns_w (x : Cs) (v : Value) (w : World) (hx : CsOk x) (hv : CsV w v x) :
    Calls Tryz.prog 3 #[v] w fun e w' => e = .returned (.bool true) ∧ Below w.heap.size w w' := by
  obtain ⟨vc, vd, vi, vf, rfl, hc, hd, hi, hf, ⟨ac, cc, rfl⟩, ⟨ad, cd, rfl⟩, ⟨ai, ci, rfl⟩, ⟨af, cf, rfl⟩⟩ := hv
  obtain ⟨C, D, I, F, n⟩ := x
  obtain ⟨oc, od, oi, on⟩ := hx
  dsimp only at *
  have HA := Lib.hid awake3_c
  have CF := Lib.hid (fun w => few_c C.length D.length I.length F.length n ac ad ai af cc cd ci cf w)
  have HC := Lib.hid hc
  have HD := Lib.hid hd
  have HI := Lib.hid hi
  have HF := Lib.hid hf
  have OC := Lib.hid oc
  have OD := Lib.hid od
  have OI := Lib.hid oi
  have ON := Lib.hid on
  clear hc hd hi hf oc od oi on
  go_enter Tryz.func3, Tryz.ntmps3
  cases hfew : fewB C.length D.length I.length F.length n
  · rw [hfew] at CF
    go_wp2_with (first | (go_at_call 6; (with_reducible refine (CF.out _).mono ?_); rintro e w1 ⟨rfl, hb1⟩) | (go_at_call 7; (with_reducible refine (HA.out _).mono ?_); rintro e w2 ⟨rfl, hb2⟩))
    go_ret
    exact ⟨rfl, ((vbelow1 w _).trans (hb1.mono (by simp))).trans (hb2.mono (Nat.le_trans (by simp) hb1.size))⟩
  · rw [hfew] at CF
    obtain ⟨b1, b2, b3, b4, b5⟩ := few_bd hfew
    clear hfew
    go_wp2_with fail
    obtain ⟨W0, hW0⟩ : ∃ W0, W0 = w.alloc (.cells #[.slice ac C.length cc, .slice ad D.length cd, .slice ai I.length ci, .slice af F.length cf, .int .i64 n] 26) := ⟨_, rfl⟩
    have hh : W0.heap[w.heap.size]? = some (.cells #[.slice ac C.length cc, .slice ad D.length cd, .slice ai I.length ci, .slice af F.length cf, .int .i64 n] 26 (0, 0)) := by rw [hW0]; exact heap_alloc_new w _
    have B0 : Hid (Below w.heap.size w W0) := by rw [hW0]; exact vbelow1 w _
    rw [← hW0]
    clear hW0
    have l0 : w.heap.size < W0.heap.size := (Array.getElem?_eq_some_iff.1 hh).1
    refine (CF.out _).mono ?_
    rintro e w1 ⟨rfl, hb1⟩
    have hh := (hb1.block _ l0).trans hh
    have B1 := Lib.hid (B0.out.trans (hb1.mono B0.out.size))
    have l1 : w.heap.size < w1.heap.size := Nat.lt_of_lt_of_le l0 hb1.size
    clear B0 l0 hb1
    have i0 := cell_of_heap hh 0
    have i1 := cell_of_heap hh 1
    have i2 := cell_of_heap hh 2
    have i3 := cell_of_heap hh 3
    have i4 := cell_of_heap hh 4
    simp only [List.getElem?_toArray, List.getElem?_cons_zero, List.getElem?_cons_succ] at i0 i1 i2 i3 i4
    have HH := Lib.hid hh
    clear hh
    go_wp2_with fail
    by_cases hm : mayD C.length D.length
    · refine (vnew_yes _ _ _ C D I w1 (HC.out.keep B1.out) (HD.out.keep B1.out) (HI.out.keep B1.out) hm (by omega)).mono ?_
      rintro e w2 ⟨k, rfl, kB, kC, kI, M2, B2⟩
      have hmL := Lib.hid hm
      have hmd : (if mayD C.length D.length then (0 : Int) else 1) = 0 := if_pos hm
      have CM := fun w => rmay_c C.length D.length w (by omega) (by omega)
      rw [hmd] at CM
      have CM := Lib.hid CM
      clear hmd hm
      have hh := HH.out
      clear i0 i1 i2 i3 i4 HH
      have hh := (B2.block _ l1).trans hh
      have l2 : w.heap.size < w2.heap.size := Nat.lt_of_lt_of_le l1 B2.size
      have BW2 := Lib.hid (B1.out.trans (B2.mono B1.out.size))
      have kB := Lib.hid kB
      have kC := Lib.hid kC
      have kI := Lib.hid kI
      have M2 := Lib.hid M2
      clear B2
      have i0 := cell_of_heap hh 0
      have i1 := cell_of_heap hh 1
      have i2 := cell_of_heap hh 2
      have i3 := cell_of_heap hh 3
      have i4 := cell_of_heap hh 4
      simp only [List.getElem?_toArray, List.getElem?_cons_zero, List.getElem?_cons_succ] at i0 i1 i2 i3 i4
      have HH := Lib.hid hh
      clear hh
      go_wp2_with (go_at_call 9; (with_reducible refine (CM.out _).mono ?_); rintro e w9 ⟨rfl, rfl⟩)
      refine (rbegin_c w _ _ _ C D I w2 BW2.out HC.out HD.out HI.out (by omega) OD.out).mono ?_
      rintro e w3 ⟨q, vr, rfl, qw, qB, qC, qI, M3', B3⟩
      have hh := HH.out
      clear i0 i1 i2 i3 i4 HH
      have hh := (B3.block _ l2).trans hh
      have l3 : w.heap.size < w3.heap.size := Nat.lt_of_lt_of_le l2 B3.size
      have BW3 := Lib.hid (BW2.out.trans (B3.mono BW2.out.size))
      have M3 := Lib.hid (M2.out.grow B3)
      have lo := Lib.hid (M2.out.lo (q := q) (by omega) (by rw [qw, kB.out]; exact B1.out.size))
      have hkB : w.heap.size ≤ k.B := by rw [kB.out]; exact B1.out.size
      have hqB : w.heap.size ≤ q.B := by rw [qB]; omega
      have qB := Lib.hid qB
      have qC := Lib.hid qC
      have qI := Lib.hid qI
      have M3' := Lib.hid M3'
      have hl1 : 1 ≤ C.length ∧ C.length ≤ 32768 := ⟨hmL.out.1, hmL.out.2.1⟩
      have hl2 : 4 ≤ D.length ∧ D.length ≤ 65536 := ⟨hmL.out.2.2.1, hmL.out.2.2.2.1⟩
      have okm := Lib.hid (beginD_ok OD.out hl2)
      have okk : Hid k.ok := ⟨by rw [kC.out]; exact OC.out, by rw [kC.out]; exact hl1, by rw [kI.out]; exact OI.out, by rw [kI.out]; omega⟩
      have okq : Hid q.ok := ⟨by rw [qC.out]; exact OC.out, by rw [qC.out]; exact hl1, by rw [qI.out]; exact OI.out, by rw [qI.out]; omega⟩
      clear B3 qw
      have i0 := cell_of_heap hh 0
      have i1 := cell_of_heap hh 1
      have i2 := cell_of_heap hh 2
      have i3 := cell_of_heap hh 3
      have i4 := cell_of_heap hh 4
      simp only [List.getElem?_toArray, List.getElem?_cons_zero, List.getElem?_cons_succ] at i0 i1 i2 i3 i4
      have HH := Lib.hid hh
      clear hh
      go_wp2_with fail
      obtain ⟨fb, fv3, hfb⟩ := fv_pick HF.out BW3.out
      have CR := wrun_c M3'.out okq.out okm.out n (by omega) (by show (0 : Int) ≤ 1000000; decide) F fb _ fv3 (by omega) (M3'.out.picked hqB hfb)
      rw [qC.out, qI.out] at CR
      clear fv3 hfb
      refine CR.mono ?_
      rintro e w4 ⟨vr4, vs4, rfl, M4', C4⟩
      clear CR
      have hh := HH.out
      clear i0 i1 i2 i3 i4 HH
      have M4 := Lib.hid (M3.out.chw M3'.out lo.out C4)
      have B4 := M3'.out.chwBelow C4
      have hh := (B4.block _ (by rw [qB.out]; omega)).trans hh
      have l4 : w.heap.size < w4.heap.size := Nat.lt_of_lt_of_le l3 C4.size
      have BW4 := Lib.hid (BW3.out.trans (B4.mono hqB))
      have M4' := Lib.hid M4'
      have HRO := Lib.hid (runD_ok OC.out OI.out n 400 (by omega) ((n - (beginD D).steps).toNat + 1) F (beginD D) okm.out (by show (0 : Int) ≤ 400; decide))
      have HRO : Hid (Dok (runT C I n F (beginD D)) ∧ (runT C I n F (beginD D)).steps ≤ 400) := HRO
      clear C4 B4 M3 M3' BW3
      have i0 := cell_of_heap hh 0
      have i1 := cell_of_heap hh 1
      have i2 := cell_of_heap hh 2
      have i3 := cell_of_heap hh 3
      have i4 := cell_of_heap hh 4
      simp only [List.getElem?_toArray, List.getElem?_cons_zero, List.getElem?_cons_succ] at i0 i1 i2 i3 i4
      have HH := Lib.hid hh
      clear hh
      have BD := Lib.hid (Below.drew (Below.refl w4.heap.size w4))
      have M4 := Lib.hid (M4.out.grow BD.out)
      have M4' := Lib.hid (M4'.out.grow BD.out)
      have BW4 := Lib.hid (BW4.out.trans (BD.out.mono BW4.out.size))
      have i3 : w4.drew.cell? ⟨w.heap.size, 3, none⟩ = _ := i3
      have i4 : w4.drew.cell? ⟨w.heap.size, 4, none⟩ = _ := i4
      have l4 : w.heap.size < w4.drew.heap.size := l4
      go_wp2_with fail
      refine wp_region_game (fun x => x = w.heap.size ∨ x = q.br) (by kernel_rfl) ?_
      show wpE _ _ _ _ _ _ _ w4.drew
      clear i0 i1 i2 HH BD
      generalize w4.drew = w5 at *
      refine E_loud1 0 _ rfl (by kernel_rfl) ?_
      simp only [List.getElem_toArray, List.getElem_cons_succ, List.getElem_cons_zero]
      go_wp2_with fail
      refine (HA.out _).mono ?_
      rintro e w6 ⟨rfl, B6⟩
      have lq5 := M4'.out.brLt.2
      have M6 := Lib.hid (M4.out.grow B6)
      have M6' := Lib.hid (M4'.out.grow B6)
      have BW6 := Lib.hid (BW4.out.trans (B6.mono BW4.out.size))
      have i3 := (B6.cell (p := ⟨w.heap.size, 3, none⟩) l4).trans i3
      have i4 := (B6.cell (p := ⟨w.heap.size, 4, none⟩) l4).trans i4
      have l6 : w.heap.size < w6.heap.size := Nat.lt_of_lt_of_le l4 B6.size
      have HK6 : Hid (Keep (fun x => x = w.heap.size ∨ x = q.br) w5 w6) := vkeep B6 (fun x hx => by rcases hx with rfl | rfl <;> assumption)
      clear B6 M4 M4' BW4
      go_wp2_with fail
      refine ⟨HK6.out, ?_⟩
      clear HK6
      have d9 : w6.cell? ⟨q.br, 9, none⟩ = some (.int .i64 (runT C I n F (beginD D)).state) := M6'.out.c 9 (by decide)
      have lq := M6'.out.brLt.2
      refine E_mob2s [1, 2, 3, 4, 5, 6, 8, 9, 10, 11] _ _ _ _ (by kernel_rfl) ?_
      simp only [List.map_cons, List.map_nil, List.getElem?_toArray, List.getElem?_cons_succ, List.getElem?_cons_zero, Option.getD_some, List.size_toArray, List.length_cons, List.length_nil, Nat.reduceAdd, Nat.reduceSub]
      repeat (go_big_quiet_step (fail))
      refine wpQuiet_nil ?_
      refine E_loud1 7 _ rfl (by kernel_rfl) ?_
      simp only [List.getElem_toArray, List.getElem_cons_succ, List.getElem_cons_zero]
      go_wp2_with fail
      obtain ⟨fb, fv6, hfb⟩ := fv_pick HF.out BW6.out
      have CR := vrun_c M6.out okk.out okm.out n (by omega) (by show (0 : Int) ≤ 1000000; decide) F fb _ fv6 (by omega) (M6.out.picked hkB hfb)
      rw [kC.out, kI.out] at CR
      clear fv6 hfb
      refine CR.mono ?_
      rintro e w7 ⟨vl7, ts7, rfl, M7, C7⟩
      clear CR
      have M7' := Lib.hid (M6'.out.chv M6.out lo.out C7)
      have B7 := M6.out.chvBelow C7
      have BW7 := Lib.hid (BW6.out.trans (B7.mono hkB))
      have hkb2 : w.heap.size < k.B := by rw [kB.out]; omega
      have HK7 : Hid (Keep (fun x => x = w.heap.size ∨ x = q.br) w6 w7) := fun b o hb => by
        rcases hb with rfl | rfl
        · exact B7.cell (p := ⟨_, o, none⟩) hkb2
        · refine World.cell?_of_block (a := ⟨_, o, none⟩) (C7.keep q.br lq ?_ ?_ ?_ ?_)
          · have := lo.out.bm; have := M6'.out.brLt.1; omega
          · have := lo.out.bt; have := M6'.out.brLt.1; omega
          · intro e; have := lo.out.vd _ e.symm; have := M6'.out.brLt.1; omega
          · exact ne_own M6'.out.bx M6.out.ll (by decide) rfl
      have M7 := Lib.hid M7
      clear B7 C7 M6 M6' BW6 d9
      go_wp2_with fail
      refine ⟨HK7.out, ?_⟩
      clear HK7
      refine E_mob2s [12, 13, 14, 15, 16] _ _ _ _ (by kernel_rfl) ?_
      simp only [List.map_cons, List.map_nil, List.getElem?_toArray, List.getElem?_cons_succ, List.getElem?_cons_zero, Option.getD_some, List.size_toArray, List.length_cons, List.length_nil, Nat.reduceAdd, Nat.reduceSub]
      repeat (go_big_quiet_step (fail))
      refine wpQuiet_nil ?_
      refine E_loud1 17 _ rfl (by kernel_rfl) ?_
      simp only [List.getElem_toArray, List.getElem_cons_succ, List.getElem_cons_zero]
      go_wp2_with fail
      refine (alike_c M7.out M7'.out HRO.out.1 (by have := HRO.out.2; omega) trivial).mono ?_
      rintro e w8 ⟨rfl, B8⟩
      have BW8 := Lib.hid (BW7.out.trans (B8.mono BW7.out.size))
      have HK8 : Hid (Keep (fun x => x = w.heap.size ∨ x = q.br) w7 w8) := vkeep B8 (fun x hx => by
        rcases hx with rfl | rfl
        · have := M7.out.low; omega
        · exact M7'.out.brLt.2)
      clear B8 M7 M7' BW7
      go_wp2_with fail
      refine ⟨HK8.out, ?_⟩
      refine E_mob2s [18, 19] _ _ _ _ (by kernel_rfl) ?_
      simp only [List.map_cons, List.map_nil, List.getElem?_toArray, List.getElem?_cons_succ, List.getElem?_cons_zero, Option.getD_some, List.size_toArray, List.length_cons, List.length_nil, Nat.reduceAdd, Nat.reduceSub]
      repeat (go_big_quiet_step (fail))
      refine wpQuiet_nil ?_
      refine E_done (by kernel_rfl) ?_ _
      go_wp2_with fail
      go_ret
      exact ⟨rfl, BW8.out⟩
    · refine (vnew_no _ _ _ C.length D.length ac ad cc cd w1 rfl rfl hm (by omega) (by omega)).mono ?_
      rintro e w2 ⟨rfl, rfl⟩
      have hmd : (if mayD C.length D.length then (0 : Int) else 1) = 1 := if_neg hm
      have CM := fun w => rmay_c C.length D.length w (by omega) (by omega)
      rw [hmd] at CM
      have CM := Lib.hid CM
      have N1 := Lib.hid vstep_n
      have N2 := Lib.hid vrun_n
      have N3 := Lib.hid vlog_n
      have N4 := Lib.hid vstepsCn
      clear hmd hm
      go_wp2_with (first | (go_at_call 9; (with_reducible refine (CM.out _).mono ?_); rintro e w9 ⟨rfl, rfl⟩) | (go_at_call 7; (with_reducible refine (HA.out _).mono ?_); rintro e w8 ⟨rfl, hb2⟩; have i3 := (hb2.cell (p := ⟨w.heap.size, 3, none⟩) l1).trans i3; have i4 := (hb2.cell (p := ⟨w.heap.size, 4, none⟩) l1).trans i4; have l8 := Nat.lt_of_lt_of_le l1 hb2.size) | (go_at_call 10; (with_reducible refine (N1.out _).mono ?_); rintro e w9 ⟨rfl, rfl⟩) | (go_at_call 11; (with_reducible refine (N2.out _ _ _).mono ?_); rintro e w9 ⟨rfl, rfl⟩) | (go_at_call 12; (with_reducible refine (N3.out _).mono ?_); rintro e w9 ⟨rfl, rfl⟩) | (go_at_call 13; (with_reducible refine (N4.out _).mono ?_); rintro e w9 ⟨rfl, rfl⟩))
      go_ret
      exact ⟨rfl, B1.out.trans (hb2.mono B1.out.size)⟩
end Go.Proofs.YtabmbhhodecmfaaGreat
