/-
  The statement on code and inputs that are never written: its walk.
-/
import Derived.Test.YtabmbhhodecmfaaGreatV33
set_option linter.all false
namespace Go.Proofs.YtabmbhhodecmfaaGreat
open Go.ChangeShapes Go.WideShapes Go.ChangeAt Go.RowKit
set_option maxHeartbeats 4000000
set_option linter.unusedVariables false
set_option maxRecDepth 100000

theorem DeviceCode_w (x : Cs) (v : Value) (w : World) (hx : CsOk x) (hv : CsV w v x) :
    Calls Tryz.prog 5 #[v] w fun e w' => e = .returned (.bool true) ∧ Below w.heap.size w w' := by
  obtain ⟨vc, vd, vi, vf, rfl, hc, hd, hi, hf, ⟨ac, cc, rfl⟩, ⟨ad, cd, rfl⟩, ⟨ai, ci, rfl⟩, ⟨af, cf, rfl⟩⟩ := hv
  obtain ⟨C, D, I, F, n⟩ := x
  obtain ⟨oc, od, oi, on⟩ := hx
  dsimp only at *
  have HA := Lib.hid awake3_c
  have CF := Lib.hid (fun w => few_c C.length D.length I.length F.length n ac ad ai af cc cd ci cf w)
  have HC := Lib.hid hc
  have HD := Lib.hid hd
  have HI := Lib.hid hi
  have HF := Lib.hid hf
  have OC := Lib.hid oc
  have OD := Lib.hid od
  have OI := Lib.hid oi
  have ON := Lib.hid on
  clear hc hd hi hf oc od oi on
  go_enter Tryz.func5, Tryz.ntmps5
  cases hfew : fewB C.length D.length I.length F.length n
  · rw [hfew] at CF
    go_wp2_with fail
    obtain ⟨W0, hW0⟩ : ∃ W0, W0 = w.alloc (.cells #[.slice ac C.length cc, .slice ad D.length cd, .slice ai I.length ci, .slice af F.length cf, .int .i64 n] 26) := ⟨_, rfl⟩
    have hh : W0.heap[w.heap.size]? = some (.cells #[.slice ac C.length cc, .slice ad D.length cd, .slice ai I.length ci, .slice af F.length cf, .int .i64 n] 26 (0, 0)) := by rw [hW0]; exact heap_alloc_new w _
    have B0 : Hid (Below w.heap.size w W0) := by rw [hW0]; exact vbelow1 w _
    rw [← hW0]
    clear hW0
    have l0 : w.heap.size < W0.heap.size := (Array.getElem?_eq_some_iff.1 hh).1
    refine (CF.out _).mono ?_
    rintro e w1 ⟨rfl, hb1⟩
    have hh := (hb1.block _ l0).trans hh
    have B1 := Lib.hid (B0.out.trans (hb1.mono B0.out.size))
    have l1 : w.heap.size < w1.heap.size := Nat.lt_of_lt_of_le l0 hb1.size
    clear B0 l0 hb1
    have i0 := cell_of_heap hh 0
    have i1 := cell_of_heap hh 1
    have i2 := cell_of_heap hh 2
    have i3 := cell_of_heap hh 3
    have i4 := cell_of_heap hh 4
    simp only [List.getElem?_toArray, List.getElem?_cons_zero, List.getElem?_cons_succ] at i0 i1 i2 i3 i4
    have HH := Lib.hid hh
    clear hh
    go_wp2_with (go_at_call 7; (with_reducible refine (HA.out _).mono ?_); rintro e w2 ⟨rfl, hb2⟩)
    go_ret
    exact ⟨rfl, B1.out.trans (hb2.mono B1.out.size)⟩
  · rw [hfew] at CF
    obtain ⟨b1, b2, b3, b4, b5⟩ := few_bd hfew
    clear hfew
    go_wp2_with fail
    obtain ⟨W0, hW0⟩ : ∃ W0, W0 = w.alloc (.cells #[.slice ac C.length cc, .slice ad D.length cd, .slice ai I.length ci, .slice af F.length cf, .int .i64 n] 26) := ⟨_, rfl⟩
    have hh : W0.heap[w.heap.size]? = some (.cells #[.slice ac C.length cc, .slice ad D.length cd, .slice ai I.length ci, .slice af F.length cf, .int .i64 n] 26 (0, 0)) := by rw [hW0]; exact heap_alloc_new w _
    have B0 : Hid (Below w.heap.size w W0) := by rw [hW0]; exact vbelow1 w _
    rw [← hW0]
    clear hW0
    have l0 : w.heap.size < W0.heap.size := (Array.getElem?_eq_some_iff.1 hh).1
    refine (CF.out _).mono ?_
    rintro e w1 ⟨rfl, hb1⟩
    have hh := (hb1.block _ l0).trans hh
    have B1 := Lib.hid (B0.out.trans (hb1.mono B0.out.size))
    have l1 : w.heap.size < w1.heap.size := Nat.lt_of_lt_of_le l0 hb1.size
    clear B0 l0 hb1
    have i0 := cell_of_heap hh 0
    have i1 := cell_of_heap hh 1
    have i2 := cell_of_heap hh 2
    have i3 := cell_of_heap hh 3
    have i4 := cell_of_heap hh 4
    simp only [List.getElem?_toArray, List.getElem?_cons_zero, List.getElem?_cons_succ] at i0 i1 i2 i3 i4
    have HH := Lib.hid hh
    clear hh
    have hC1 := HC.out.keep B1.out
    have hD1 := HD.out.keep B1.out
    have hI1 := HI.out.keep B1.out
    have lenC : (C.map (Value.int .u32)).length = C.length * 1 := by simp
    have lenD : (D.map (Value.int .u8)).length = D.length * 1 := by simp
    have lenI : (I.map (Value.int .u32)).length = I.length * 1 := by simp
    have cl : C.length ≤ 1000000 := by omega
    have dl : D.length ≤ 1000000 := by omega
    have il : I.length ≤ 1000000 := by omega
    go_wp2_with (first | (at_builtin; refine appS 22 40 vinfoU32 Tryz.underlying22 rfl (by decide) (by decide) rfl rfl rfl rfl hC1 lenC cl (mapV_one _) ?_; intro vA wa OA Ba; obtain ⟨aA, cA, eA⟩ := vown_form OA; subst eA; have hD2 := hD1.keep Ba; have hI2 := hI1.keep Ba; have i1 := (Ba.cell (p := ⟨w.heap.size, 1, none⟩) l1).trans i1; have i2 := (Ba.cell (p := ⟨w.heap.size, 2, none⟩) l1).trans i2; have la := Nat.lt_of_lt_of_le l1 Ba.size) | (at_builtin; refine appS 23 5 vinfoU8 Tryz.underlying23 rfl (by decide) (by decide) rfl rfl rfl rfl hD2 lenD dl (mapV_one _) ?_; intro vD wb OD1 Bb; obtain ⟨aD, cD, eD⟩ := vown_form OD1; subst eD; have hI3 := hI2.keep Bb; have i2 := (Bb.cell (p := ⟨w.heap.size, 2, none⟩) la).trans i2; have lb := Nat.lt_of_lt_of_le la Bb.size) | (at_builtin; refine appS 22 40 vinfoU32 Tryz.underlying22 rfl (by decide) (by decide) rfl rfl rfl rfl hI3 lenI il (mapV_one _) ?_; intro vI wc OI1 Bc; obtain ⟨aI, cI, eI⟩ := vown_form OI1; subst eI))
    have hAc := own_below (own_below OA Bb) Bc
    have hDc := own_below OD1 Bc
    have lA : ∀ g, (Value.slice aA C.length cA).ownBlock = some g → g < wa.heap.size := fun g e => (own_lt OA e).2
    have lD : ∀ g, (Value.slice aD D.length cD).ownBlock = some g → g < wb.heap.size := fun g e => (own_lt OD1 e).2
    have lI : ∀ g, (Value.slice aI I.length cI).ownBlock = some g → g < wc.heap.size := fun g e => (own_lt OI1 e).2
    have BWc := Lib.hid (((B1.out.trans (Ba.mono B1.out.size)).trans (Bb.mono (Nat.le_trans B1.out.size Ba.size))).trans (Bc.mono (Nat.le_trans B1.out.size (Nat.le_trans Ba.size Bb.size))))
    have hhc := (Bc.block _ (Nat.lt_of_lt_of_le la Bb.size)).trans ((Bb.block _ la).trans ((Ba.block _ l1).trans HH.out))
    have hs := And.intro Ba.size (And.intro Bb.size Bc.size)
    by_cases hm : mayD C.length D.length
    · refine (vnew_yes _ _ _ C D I wc (src_own hAc) (src_own hDc) (src_own OI1) hm (by omega)).mono ?_
      rintro e w2 ⟨k, rfl, kB, kC, kI, M2, B2⟩
      have kB := Lib.hid kB
      have kC := Lib.hid kC
      have kI := Lib.hid kI
      have hmL := Lib.hid hm
      obtain ⟨bx, hbx⟩ : ∃ o, o = Obj.cells #[.slice ac C.length cc, .slice ad D.length cd, .slice ai I.length ci, .slice af F.length cf, .int .i64 n] 26 (0, 0) := ⟨_, rfl⟩
      rw [← hbx] at hhc
      have hbx := Lib.hid hbx
      obtain ⟨ts0, hts⟩ : ∃ t, t = List.replicate C.length (default : Mt) := ⟨_, rfl⟩
      rw [← hts] at M2
      obtain ⟨s0, hs0⟩ : ∃ s, s = w1.heap.size := ⟨_, rfl⟩
      obtain ⟨s1, hs1⟩ : ∃ s, s = wa.heap.size := ⟨_, rfl⟩
      obtain ⟨s2, hs2⟩ : ∃ s, s = wb.heap.size := ⟨_, rfl⟩
      have U : Hid (Cod k w w2 bx (beginD D) ts0 (.slice aA C.length cA) (.slice aD D.length cD) (.slice aI I.length cI) C.length D.length I.length s0 s1 s2) := by
        refine ⟨M2, BWc.out.trans (B2.mono BWc.out.size), (B2.block _ (by omega)).trans hhc, ⟨C, rfl, ?_⟩, ⟨D, rfl, ?_⟩, ⟨I, rfl, ?_⟩, ?_, ?_, ?_, by omega, by rw [kB.out]; omega⟩
        · rw [hs0]; exact own_below hAc B2
        · rw [hs1]; exact own_below hDc B2
        · rw [hs2]; exact own_below OI1 B2
        · rw [hs1]; exact lA
        · rw [hs2]; exact lD
        · rw [kB.out]; exact lI
      have hkB : w.heap.size < k.B := by rw [kB.out]; omega
      clear hm hC1 hD1 hI1 lenC lenD lenI cl dl il OA OD1 OI1 Ba Bb Bc hD2 hI2 hI3 i0 i1 i2 i3 i4 la lb hAc hDc lA lD lI BWc hhc hs B1 l1 HH M2 B2 hts hs0 hs1 hs2
      go_wp2_with fail
      go_loopw [8] (fun i wr => ∃ j : Nat, i = .int .i64 (j : Int) ∧ j ≤ C.length ∧ Hid (Cod k w wr bx (beginD D) ts0 (.slice aA C.length cA) (.slice aD D.length cD) (.slice aI I.length cI) C.length D.length I.length s0 s1 s2)) (fun i _ => C.length - (intOf i).toNat)
      case atStart => exact ⟨0, rfl, Nat.zero_le _, U⟩
      case round =>
        clear U
        obtain ⟨j, rfl, hj, U⟩ := hrel
        by_cases hlt : j < C.length
        · obtain ⟨gg, xx, rfl, -, cx, fx, lx⟩ := own_get U.out.A j hlt
          have g1 : decide ((j : Int) < ((C.length : Nat) : Int)) = true := decide_eq_true (by omega)
          have g2 : decide (j < C.length) = true := decide_eq_true hlt
          go_wp2_with fail
          exact ⟨⟨j + 1, rfl, by omega, Lib.hid (U.out.setA rfl j _)⟩, by simp [intOf]; omega⟩
        · obtain rfl : j = C.length := by omega
          have g1 : decide (((C.length : Nat) : Int) < ((C.length : Nat) : Int)) = false := decide_eq_false (by omega)
          have g2 : decide (C.length < C.length) = false := decide_eq_false (by omega)
          clear hlt
          go_wp2_with fail
          clear g1 g2
          go_loopw [9] (fun i wr => ∃ j : Nat, i = .int .i64 (j : Int) ∧ j ≤ D.length ∧ Hid (Cod k w wr bx (beginD D) ts0 (.slice aA C.length cA) (.slice aD D.length cD) (.slice aI I.length cI) C.length D.length I.length s0 s1 s2)) (fun i _ => D.length - (intOf i).toNat)
          case atStart => exact ⟨0, rfl, Nat.zero_le _, U⟩
          case round =>
            clear U
            obtain ⟨j, rfl, hj, U⟩ := hrel
            by_cases hlt : j < D.length
            · obtain ⟨gg, xx, rfl, -, cx, fx, lx⟩ := own_get U.out.D j hlt
              have g1 : decide ((j : Int) < ((D.length : Nat) : Int)) = true := decide_eq_true (by omega)
              have g2 : decide (j < D.length) = true := decide_eq_true hlt
              go_wp2_with fail
              exact ⟨⟨j + 1, rfl, by omega, Lib.hid (U.out.setD rfl j _)⟩, by simp [intOf]; omega⟩
            · obtain rfl : j = D.length := by omega
              have g1 : decide (((D.length : Nat) : Int) < ((D.length : Nat) : Int)) = false := decide_eq_false (by omega)
              have g2 : decide (D.length < D.length) = false := decide_eq_false (by omega)
              clear hlt
              go_wp2_with fail
              clear g1 g2
              go_loopw [10] (fun i wr => ∃ j : Nat, i = .int .i64 (j : Int) ∧ j ≤ I.length ∧ Hid (Cod k w wr bx (beginD D) ts0 (.slice aA C.length cA) (.slice aD D.length cD) (.slice aI I.length cI) C.length D.length I.length s0 s1 s2)) (fun i _ => I.length - (intOf i).toNat)
              case atStart => exact ⟨0, rfl, Nat.zero_le _, U⟩
              case round =>
                clear U
                obtain ⟨j, rfl, hj, U⟩ := hrel
                by_cases hlt : j < I.length
                · obtain ⟨gg, xx, rfl, -, cx, fx, lx⟩ := own_get U.out.I j hlt
                  have g1 : decide ((j : Int) < ((I.length : Nat) : Int)) = true := decide_eq_true (by omega)
                  have g2 : decide (j < I.length) = true := decide_eq_true hlt
                  go_wp2_with fail
                  exact ⟨⟨j + 1, rfl, by omega, Lib.hid (U.out.setI rfl j _)⟩, by simp [intOf]; omega⟩
                · obtain rfl : j = I.length := by omega
                  have g1 : decide (((I.length : Nat) : Int) < ((I.length : Nat) : Int)) = false := decide_eq_false (by omega)
                  have g2 : decide (I.length < I.length) = false := decide_eq_false (by omega)
                  clear hlt
                  go_wp2_with fail
                  clear g1 g2
                  have CDT : Calls Tryz.prog 20 #[.pointer (some ⟨k.bm, 0, none⟩)] wr fun e w' => ∃ v', e = .returned v' ∧ w'.ownsRow wr.heap.size 5 1 v' D.length (D.map (Value.int .u8)) ∧ Below wr.heap.size wr w' := vdata_c U.out.M (by show D.length ≤ 1000000; omega)
                  refine CDT.mono ?_
                  rintro e w5 ⟨vd5, rfl, O5, B5⟩
                  obtain ⟨a5, c5, e5⟩ := vown_form O5
                  subst e5
                  have lw4 : w.heap.size < wr.heap.size := (Array.getElem?_eq_some_iff.1 U.out.X).1
                  have M5 := Lib.hid (U.out.M.grow B5)
                  have M4 := Lib.hid U.out.M
                  have BW5 := Lib.hid (U.out.B.trans (B5.mono U.out.B.size))
                  have X5 : Hid (w5.heap[w.heap.size]? = some bx) := (B5.block _ lw4).trans U.out.X
                  obtain ⟨s4, hs4⟩ : ∃ s, s = wr.heap.size := ⟨_, rfl⟩
                  have O5 : Hid (∃ L : List Int, L.length = D.length ∧ w5.ownsRow s4 5 1 (.slice a5 D.length c5) D.length (L.map (Value.int .u8))) := ⟨D, rfl, by rw [hs4]; exact O5⟩
                  have HO : Hid (∀ {W : World} {b : Nat} {j : Nat} {x : Value}, Vm k W (.slice none 0 0) (beginD D) ts0 → s4 ≤ b → Vm k (W.setCell ⟨b, j, none⟩ x) (.slice none 0 0) (beginD D) ts0) := fun h hb => h.other M4.out (grown_set _ _ _ _) (by rw [← hs4]; exact hb)
                  have lw4 : w.heap.size < s4 := by rw [hs4]; exact lw4
                  clear U B5 M4 hs4
                  clear CDT
                  go_wp2_with fail
                  go_loopw [12] (fun i wr => ∃ j : Nat, i = .int .i64 (j : Int) ∧ j ≤ D.length ∧ Hid (Vm k wr (.slice none 0 0) (beginD D) ts0) ∧ Hid (Below w.heap.size w wr) ∧ Hid (wr.heap[w.heap.size]? = some bx) ∧ Hid (∃ L : List Int, L.length = D.length ∧ wr.ownsRow s4 5 1 (.slice a5 D.length c5) D.length (L.map (Value.int .u8)))) (fun i _ => D.length - (intOf i).toNat)
                  case atStart => exact ⟨0, rfl, Nat.zero_le _, M5, BW5, X5, O5⟩
                  case round =>
                    clear M5 BW5 X5 O5
                    obtain ⟨j, rfl, hj, M5, BW5, X5, O5⟩ := hrel
                    by_cases hlt : j < D.length
                    · obtain ⟨gg, xx, rfl, -, cx, fx, lx⟩ := own_get O5.out j hlt
                      have g1 : decide ((j : Int) < (D.length : Int)) = true := decide_eq_true (by omega)
                      have g2 : decide (j < D.length) = true := decide_eq_true hlt
                      have hgg : s4 ≤ gg := by obtain ⟨L, -, h2⟩ := O5.out; exact (own_lt h2 rfl).1
                      have O6 : ∀ y : Int, Hid (∃ L : List Int, L.length = D.length ∧ (wr.setCell ⟨gg, j, none⟩ (.int .u8 y)).ownsRow s4 5 1 (.slice (some ⟨gg, 0, none⟩) D.length c5) D.length (L.map (Value.int .u8))) := fun y => by
                        obtain ⟨L, h1, h2⟩ := O5.out
                        exact ⟨L.set j y, by simpa using h1, by rw [List.map_set]; exact (h2.stored j _).1⟩
                      have O6 := Lib.hid O6
                      have X6 : Hid (∀ x : Value, (wr.setCell ⟨gg, j, none⟩ x).heap[w.heap.size]? = some bx) := fun x => (heap_setCell_other wr ⟨gg, j, none⟩ _ _ (by show w.heap.size ≠ gg; omega)).trans X5.out
                      have B6 : Hid (∀ x : Value, Below w.heap.size w (wr.setCell ⟨gg, j, none⟩ x)) := fun x => below_set_hi BW5.out (by omega)
                      have M6 : Hid (∀ x : Value, Vm k (wr.setCell ⟨gg, j, none⟩ x) (.slice none 0 0) (beginD D) ts0) := fun x => HO.out M5.out hgg
                      go_wp2_with fail
                      exact ⟨⟨j + 1, rfl, by omega, M6.out _, B6.out _, X6.out _, O6.out _⟩, by simp [intOf]; omega⟩
                    · obtain rfl : j = D.length := by omega
                      have g1 : decide ((D.length : Int) < (D.length : Int)) = false := decide_eq_false (by omega)
                      have g2 : decide (D.length < D.length) = false := decide_eq_false (by omega)
                      have hh := X5.out
                      rw [hbx.out] at hh
                      have l3 : w.heap.size < wr.heap.size := (Array.getElem?_eq_some_iff.1 hh).1
                      clear O5 HO X5 hlt
                      have i0 := cell_of_heap hh 0
                      have i1 := cell_of_heap hh 1
                      have i2 := cell_of_heap hh 2
                      have i3 := cell_of_heap hh 3
                      have i4 := cell_of_heap hh 4
                      simp only [List.getElem?_toArray, List.getElem?_cons_zero, List.getElem?_cons_succ] at i0 i1 i2 i3 i4
                      have HH := Lib.hid hh
                      clear hh
                      go_wp2_with fail
                      refine (rbegin_c w _ _ _ C D I wr BW5.out HC.out HD.out HI.out (by omega) OD.out).mono ?_
                      rintro e w3 ⟨q, vr, rfl, qw, qB, qC, qI, M3', B3⟩
                      have hh := HH.out
                      clear i0 i1 i2 i3 i4 HH
                      have hh := (B3.block _ l3).trans hh
                      have l3 : w.heap.size < w3.heap.size := Nat.lt_of_lt_of_le l3 B3.size
                      have BW3 := Lib.hid (BW5.out.trans (B3.mono BW5.out.size))
                      have M3 := Lib.hid (M5.out.grow B3)
                      have lo := Lib.hid (M5.out.lo (q := q) (by omega) (by rw [qw]; omega))
                      have hqB : w.heap.size < q.B := by rw [qB]; omega
                      have qC := Lib.hid qC
                      have qI := Lib.hid qI
                      have M3' := Lib.hid M3'
                      have hl1 : 1 ≤ C.length ∧ C.length ≤ 32768 := ⟨hmL.out.1, hmL.out.2.1⟩
                      have hl2 : 4 ≤ D.length ∧ D.length ≤ 65536 := ⟨hmL.out.2.2.1, hmL.out.2.2.2.1⟩
                      have okm := Lib.hid (beginD_ok OD.out hl2)
                      have okk : Hid k.ok := ⟨by rw [kC.out]; exact OC.out, by rw [kC.out]; exact hl1, by rw [kI.out]; exact OI.out, by rw [kI.out]; omega⟩
                      have okq : Hid q.ok := ⟨by rw [qC.out]; exact OC.out, by rw [qC.out]; exact hl1, by rw [qI.out]; exact OI.out, by rw [qI.out]; omega⟩
                      clear B3 qw qB g1 g2 M5 BW5
                      have i0 := cell_of_heap hh 0
                      have i1 := cell_of_heap hh 1
                      have i2 := cell_of_heap hh 2
                      have i3 := cell_of_heap hh 3
                      have i4 := cell_of_heap hh 4
                      simp only [List.getElem?_toArray, List.getElem?_cons_zero, List.getElem?_cons_succ] at i0 i1 i2 i3 i4
                      have HH := Lib.hid hh
                      clear hh
                      go_wp2_with fail
                      obtain ⟨fb, fv3, hfb⟩ := fv_pick HF.out BW3.out
                      have CR := wrun_c M3'.out okq.out okm.out n (by omega) (by show (0 : Int) ≤ 1000000; decide) F fb _ fv3 (by omega) (M3'.out.picked (by omega) hfb)
                      rw [qC.out, qI.out] at CR
                      clear fv3 hfb
                      refine CR.mono ?_
                      rintro e w4 ⟨vr4, vs4, rfl, M4', C4⟩
                      clear CR
                      have hh := HH.out
                      clear i0 i1 i2 i3 i4 HH
                      have M4 := Lib.hid (M3.out.chw M3'.out lo.out C4)
                      have B4 := M3'.out.chwBelow C4
                      have hh := (B4.block _ hqB).trans hh
                      have l4 : w.heap.size < w4.heap.size := Nat.lt_of_lt_of_le l3 C4.size
                      have BW4 := Lib.hid (BW3.out.trans (B4.mono (by omega)))
                      have M4' := Lib.hid M4'
                      have HRO := Lib.hid (runD_ok OC.out OI.out n 400 (by omega) ((n - (beginD D).steps).toNat + 1) F (beginD D) okm.out (by show (0 : Int) ≤ 400; decide))
                      have HRO : Hid (Dok (runT C I n F (beginD D)) ∧ (runT C I n F (beginD D)).steps ≤ 400) := HRO
                      clear C4 B4 M3 M3' BW3
                      have i0 := cell_of_heap hh 0
                      have i1 := cell_of_heap hh 1
                      have i2 := cell_of_heap hh 2
                      have i3 := cell_of_heap hh 3
                      have i4 := cell_of_heap hh 4
                      simp only [List.getElem?_toArray, List.getElem?_cons_zero, List.getElem?_cons_succ] at i0 i1 i2 i3 i4
                      have HH := Lib.hid hh
                      clear hh
                      go_wp2_with fail
                      obtain ⟨fb, fv6, hfb⟩ := fv_pick HF.out BW4.out
                      have CR := vrun_c M4.out okk.out okm.out n (by omega) (by show (0 : Int) ≤ 1000000; decide) F fb _ fv6 (by omega) (M4.out.picked (by omega) hfb)
                      rw [kC.out, kI.out] at CR
                      clear fv6 hfb
                      refine CR.mono ?_
                      rintro e w7 ⟨vl7, ts7, rfl, M7, C7⟩
                      clear CR
                      have M7' := Lib.hid (M4'.out.chv M4.out lo.out C7)
                      have B7 := M4.out.chvBelow C7
                      have BW7 := Lib.hid (BW4.out.trans (B7.mono (by omega)))
                      have M7 := Lib.hid M7
                      clear B7 C7 M4 M4' BW4 i0 i1 i2 i3 i4 HH
                      go_wp2_with fail
                      refine (HA.out _).mono ?_
                      rintro e w8 ⟨rfl, B8⟩
                      have M8 := Lib.hid (M7.out.grow B8)
                      have M8' := Lib.hid (M7'.out.grow B8)
                      have BW8 := Lib.hid (BW7.out.trans (B8.mono BW7.out.size))
                      clear B8 M7 M7' BW7
                      go_wp2_with fail
                      refine (alike_c M8.out M8'.out HRO.out.1 (by have := HRO.out.2; omega) trivial).mono ?_
                      rintro e w9 ⟨rfl, B9⟩
                      have BW9 := Lib.hid (BW8.out.trans (B9.mono BW8.out.size))
                      clear B9 M8 M8' BW8
                      go_wp2_with fail
                      go_ret
                      exact ⟨rfl, BW9.out⟩
    · refine (vnew_no _ _ _ C.length D.length aA aD cA cD wc rfl rfl hm (by omega) (by omega)).mono ?_
      rintro e w2 ⟨rfl, rfl⟩
      clear hm
      go_wp2_with (go_at_call 7; (with_reducible refine (HA.out _).mono ?_); rintro e w2 ⟨rfl, hb2⟩)
      go_ret
      exact ⟨rfl, BWc.out.trans (hb2.mono BWc.out.size)⟩
end Go.Proofs.YtabmbhhodecmfaaGreat
