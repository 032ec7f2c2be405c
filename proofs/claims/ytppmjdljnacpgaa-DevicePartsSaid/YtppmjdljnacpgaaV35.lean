/-
  The statement that a run of so many steps is one of fewer, and then of these: its walk.
-/
import Derived.Test.YtppmjdljnacpgaaV28
import Derived.Test.YtppmjdljnacpgaaV30
import Derived.Test.YtppmjdljnacpgaaO5
import Derived.BigQuiet
set_option linter.all false
namespace Go.Proofs.Ytppmjdljnacpgaa
open Go.ChangeShapes Go.WideShapes Go.ChangeAt Go.RowKit
set_option maxHeartbeats 4000000
set_option linter.unusedVariables false
set_option maxRecDepth 100000

theorem few_bd {nc nd ni nf : Nat} {n : Int} (h : fewB nc nd ni nf n = true) : nc ≤ 33000 ∧ nd ≤ 66000 ∧ ni ≤ 40 ∧ nf ≤ 100 ∧ n ≤ 400 := by
  unfold fewB at h
  simp only [Bool.and_eq_true, Bool.or_eq_true, decide_eq_true_eq] at h
  omega
theorem fv_grow {w w' : World} {fb : Nat} {v : Value} {L : List Int} (h : FV w fb v L) (hb : Below w.heap.size w w') : FV w' fb v L := by
  rcases h with h | ⟨o, c, e, h1, h2, h3⟩
  · exact .inl h
  · exact .inr ⟨o, c, e, h1, h2, fun j hj => (hb.cell (p := ⟨fb, o + j, none⟩) (World.block_lt_of_cell? w _ (h3 j hj))).trans (h3 j hj)⟩
/-- the failures are another block than a machine's -/
theorem fv_pick {w0 w : World} {v : Value} {L : List Int} (h : ∃ fb, FV w0 fb v L ∧ (L ≠ [] → fb < w0.heap.size)) (hb : Below w0.heap.size w0 w) : ∃ fb, FV w fb v L ∧ (fb < w0.heap.size ∨ fb = w.heap.size) := by
  obtain ⟨fb, h1, h2⟩ := h
  cases L with
  | nil =>
    rcases h1 with ⟨⟨a, c, rfl⟩, -⟩ | ⟨o, c, rfl, -⟩
    · exact ⟨w.heap.size, fv_nil _ _ _ _, .inr rfl⟩
    · exact ⟨w.heap.size, fv_nil _ _ _ _, .inr rfl⟩
  | cons x l => exact ⟨fb, fv_grow h1 hb, .inl (h2 (by simp))⟩
theorem Vm.picked {k : VK} {w w0 : World} {vl : Value} {m : Dv} {ts : List Mt} (h : Vm k w vl m ts) (h0 : w0.heap.size ≤ k.B) {fb : Nat} (hf : fb < w0.heap.size ∨ fb = w.heap.size) : fb ≠ k.bm ∧ fb ≠ k.bt ∧ some fb ≠ k.vd.ownBlock ∧ some fb ≠ vl.ownBlock := by
  rcases hf with hf | rfl
  · exact ⟨by have := h.bmLt.1; omega, by have := h.btLt.1; omega, fun e => by have := (own_lt h.dd e.symm).1; omega, fun e => by have := (own_lt h.ll e.symm).1; omega⟩
  · exact h.fresh
theorem fv_at {w : World} {fb : Nat} {v : Value} {L : List Int} (h : FV w fb v L) (j : Nat) (hj : j < L.length) : ∃ o c, v = .slice (some ⟨fb, o, none⟩) L.length c ∧ ∀ i, i < L.length → w.cell? ⟨fb, o + i, none⟩ = some (.int .i64 (L.getD i 0)) := by
  rcases h with ⟨-, rfl⟩ | ⟨o, c, e, h1, h2, h3⟩
  · exact absurd hj (Nat.not_lt_zero j)
  · exact ⟨o, c, e, h3⟩
theorem vinfoInt : (Try.prog.info? 3).map (fun i => (i.zero, i.size, i.bytes)) = some (some (.int .i64 0), 1, 8) := by kernel_rfl
theorem fv_own {w : World} {B n : Nat} {e : TypeId} {v : Value} {L : List Int} (h : w.ownsRow B e 1 v n (L.map (Value.int .i64))) (hn : n = L.length) : ∃ fb, FV w fb v L ∧ (B ≤ fb ∧ fb < w.heap.size ∨ fb = w.heap.size) := by
  have H := h
  obtain ⟨hl, ⟨rfl, h0⟩ | ⟨g, cap, cur, rfl, hb, hgg, hnc, hc, -⟩⟩ := h
  · have : L = [] := List.eq_nil_of_length_eq_zero (by omega)
    subst this
    exact ⟨w.heap.size, fv_nil _ _ _ _, .inr rfl⟩
  · refine ⟨g, .inr ⟨0, cap, by rw [hn], by omega, hc, fun j hj => ?_⟩, .inl ⟨hb, (own_lt H rfl).2⟩⟩
    rw [Nat.zero_add, H.cellAt j (by omega)]
    simp [List.getD, hj]
theorem Vm.same {k : VK} {w w' : World} {vl : Value} {m : Dv} {ts : List Mt} (h : Vm k w vl m ts) (hk : ∀ g, g < w.heap.size → (g = k.bm ∨ g = k.bt ∨ k.vc.ownBlock = some g ∨ k.vd.ownBlock = some g ∨ k.vi.ownBlock = some g ∨ vl.ownBlock = some g) → w'.heap[g]? = w.heap[g]?) (hs : w.heap.size ≤ w'.heap.size) : Vm k w' vl m ts :=
  ⟨own_same h.bx (fun g e h2 => hk g h2 (.inl (by cases e; rfl))), own_same h.cc (fun g e h2 => hk g h2 (.inr (.inr (.inl e)))), own_same h.mt (fun g e h2 => hk g h2 (.inr (.inl (by cases e; rfl)))), own_same h.dd (fun g e h2 => hk g h2 (.inr (.inr (.inr (.inl e))))), own_same h.ii (fun g e h2 => hk g h2 (.inr (.inr (.inr (.inr (.inl e)))))), own_same h.ll (fun g e h2 => hk g h2 (.inr (.inr (.inr (.inr (.inr e)))))), h.rl, h.tl, h.tr, Nat.le_trans h.low hs⟩
/-- a machine's own blocks lie between two bounds, its log's aside -/
structure Between (k : VK) (lo hi : Nat) : Prop where
  bm : lo ≤ k.bm ∧ k.bm < hi
  bt : lo ≤ k.bt ∧ k.bt < hi
  vc : ∀ g, k.vc.ownBlock = some g → lo ≤ g ∧ g < hi
  vd : ∀ g, k.vd.ownBlock = some g → lo ≤ g ∧ g < hi
  vi : ∀ g, k.vi.ownBlock = some g → lo ≤ g ∧ g < hi
theorem Vm.between {k : VK} {w : World} {vl : Value} {m : Dv} {ts : List Mt} (h : Vm k w vl m ts) : Between k k.B w.heap.size :=
  ⟨h.bmLt, h.btLt, fun g e => own_lt h.cc e, fun g e => own_lt h.dd e, fun g e => own_lt h.ii e⟩
/-- one device's doing leaves another one as it is -/
theorem Vm.apart2 {ka kb : VK} {w w' : World} {va vb vb' : Value} {m : Dv} {ts : List Mt} {l1 h1 l2 h2 : Nat} (h : Vm ka w va m ts) (hc : Chv kb vb vb' w w') (ba : Between ka l1 h1) (bb : Between kb l2 h2) (hne : h1 ≤ l2 ∨ h2 ≤ l1)
    (hla : ∀ g, va.ownBlock = some g → g ≠ kb.bm ∧ g ≠ kb.bt ∧ some g ≠ kb.vd.ownBlock ∧ some g ≠ vb.ownBlock)
    (hlb : ∀ g, vb.ownBlock = some g → h1 ≤ g ∨ g < l1) : Vm ka w' va m ts := by
  refine h.same (fun g hg hcase => ?_) hc.size
  have fixed : l1 ≤ g ∧ g < h1 → w'.heap[g]? = w.heap[g]? := fun hgg => hc.keep g hg (by have := bb.bm; omega) (by have := bb.bt; omega) (fun e => by have := bb.vd g e.symm; omega) (fun e => by have := hlb g e.symm; omega)
  rcases hcase with e | e | e | e | e | e
  · exact fixed (by have := ba.bm; omega)
  · exact fixed (by have := ba.bt; omega)
  · exact fixed (ba.vc g e)
  · exact fixed (ba.vd g e)
  · exact fixed (ba.vi g e)
  · obtain ⟨n1, n2, n3, n4⟩ := hla g e
    exact hc.keep g hg n1 n2 n3 n4
theorem pairs_of {F : List Int} (h : ∀ b, b < F.length → ∀ a, a < b → F.getD a 0 < F.getD b 0) : F.Pairwise (· < ·) := by
  refine List.pairwise_iff_getElem.2 fun i j hi hj hij => ?_
  have := h j hj i hij
  simpa [List.getD, hi, hj] using this
theorem DeviceParts_w (x : Cs) (v : Value) (kk : Int) (w : World) (hx : CsOk x) (hv : CsV w v x) :
    Calls Try.prog 7 #[v, .int .i64 kk] w fun e w' => e = .returned (.bool true) ∧ Below w.heap.size w w' := by
  obtain ⟨vc, vd, vi, vf, rfl, hc, hd, hi, hf, ⟨ac, cc, rfl⟩, ⟨ad, cd, rfl⟩, ⟨ai, ci, rfl⟩, ⟨af, cf, rfl⟩⟩ := hv
  obtain ⟨C, D, I, F, n⟩ := x
  obtain ⟨oc, od, oi, on⟩ := hx
  dsimp only at *
  have HA := Lib.hid awake3_c
  have CF := Lib.hid (fun w => few_c C.length D.length I.length F.length n ac ad ai af cc cd ci cf w)
  have HC := Lib.hid hc
  have HD := Lib.hid hd
  have HI := Lib.hid hi
  have HF := Lib.hid hf
  have OC := Lib.hid oc
  have OD := Lib.hid od
  have OI := Lib.hid oi
  have ON := Lib.hid on
  clear hc hd hi hf oc od oi on
  go_enter Try.func7, Try.ntmps7
  cases hfew : fewB C.length D.length I.length F.length n
  · rw [hfew] at CF
    go_wp2_with fail
    obtain ⟨W0, hW0⟩ : ∃ W0, W0 = w.alloc (.cells #[.slice ac C.length cc, .slice ad D.length cd, .slice ai I.length ci, .slice af F.length cf, .int .i64 n] 43) := ⟨_, rfl⟩
    have hh : W0.heap[w.heap.size]? = some (.cells #[.slice ac C.length cc, .slice ad D.length cd, .slice ai I.length ci, .slice af F.length cf, .int .i64 n] 43 (0, 0)) := by rw [hW0]; exact heap_alloc_new w _
    have B0 : Hid (Below w.heap.size w W0) := by rw [hW0]; exact vbelow1 w _
    rw [← hW0]
    clear hW0
    have l0 : w.heap.size < W0.heap.size := (Array.getElem?_eq_some_iff.1 hh).1
    refine (CF.out _).mono ?_
    rintro e w1 ⟨rfl, hb1⟩
    have hh := (hb1.block _ l0).trans hh
    have B1 := Lib.hid (B0.out.trans (hb1.mono B0.out.size))
    have l1 : w.heap.size < w1.heap.size := Nat.lt_of_lt_of_le l0 hb1.size
    clear B0 l0 hb1
    have i0 := cell_of_heap hh 0
    have i1 := cell_of_heap hh 1
    have i2 := cell_of_heap hh 2
    have i3 := cell_of_heap hh 3
    have i4 := cell_of_heap hh 4
    simp only [List.getElem?_toArray, List.getElem?_cons_zero, List.getElem?_cons_succ] at i0 i1 i2 i3 i4
    have HH := Lib.hid hh
    clear hh
    go_wp2_with (go_at_call 16; (with_reducible refine (HA.out _).mono ?_); rintro e w2 ⟨rfl, hb2⟩)
    go_ret
    exact ⟨rfl, B1.out.trans (hb2.mono B1.out.size)⟩
  · rw [hfew] at CF
    obtain ⟨b1, b2, b3, b4, b5⟩ := few_bd hfew
    clear hfew
    by_cases hkn : kk ≤ n
    · have g1 : decide (n < kk) = false := decide_eq_false (by omega)
      go_wp2_with fail
      obtain ⟨W0, hW0⟩ : ∃ W0, W0 = w.alloc (.cells #[.slice ac C.length cc, .slice ad D.length cd, .slice ai I.length ci, .slice af F.length cf, .int .i64 n] 43) := ⟨_, rfl⟩
      have hh : W0.heap[w.heap.size]? = some (.cells #[.slice ac C.length cc, .slice ad D.length cd, .slice ai I.length ci, .slice af F.length cf, .int .i64 n] 43 (0, 0)) := by rw [hW0]; exact heap_alloc_new w _
      have B0 : Hid (Below w.heap.size w W0) := by rw [hW0]; exact vbelow1 w _
      rw [← hW0]
      clear hW0
      have l0 : w.heap.size < W0.heap.size := (Array.getElem?_eq_some_iff.1 hh).1
      refine (CF.out _).mono ?_
      rintro e w1 ⟨rfl, hb1⟩
      have hh := (hb1.block _ l0).trans hh
      have B1 := Lib.hid (B0.out.trans (hb1.mono B0.out.size))
      have l1 : w.heap.size < w1.heap.size := Nat.lt_of_lt_of_le l0 hb1.size
      clear B0 l0 hb1
      have i0 := cell_of_heap hh 0
      have i1 := cell_of_heap hh 1
      have i2 := cell_of_heap hh 2
      have i3 := cell_of_heap hh 3
      have i4 := cell_of_heap hh 4
      simp only [List.getElem?_toArray, List.getElem?_cons_zero, List.getElem?_cons_succ] at i0 i1 i2 i3 i4
      have HH := Lib.hid hh
      clear hh
      go_wp2_with fail
      clear g1
      go_loopw [5] (fun i wr => ∃ j : Nat, i = .int .i64 ((j : Int) + 1) ∧ j ≤ F.length ∧ Hid (∀ b, b < F.length → b ≤ j → ∀ a, a < b → F.getD a 0 < F.getD b 0) ∧ Hid (Below w1.heap.size w1 wr)) (fun i _ => F.length - (intOf i).toNat)
      case atStart => exact ⟨0, rfl, Nat.zero_le _, fun b _ h a ha => by omega, Below.refl _ _⟩
      case round =>
        obtain ⟨j, rfl, hj, HP, B2⟩ := hrel
        have hh := (B2.out.block _ l1).trans HH.out
        have lw : w.heap.size < wr.heap.size := Nat.lt_of_lt_of_le l1 B2.out.size
        have BW := Lib.hid (B1.out.trans (B2.out.mono B1.out.size))
        clear i0 i1 i2 i3 i4 HH
        have i0 := cell_of_heap hh 0
        have i1 := cell_of_heap hh 1
        have i2 := cell_of_heap hh 2
        have i3 := cell_of_heap hh 3
        have i4 := cell_of_heap hh 4
        simp only [List.getElem?_toArray, List.getElem?_cons_zero, List.getElem?_cons_succ] at i0 i1 i2 i3 i4
        have HH := Lib.hid hh
        clear hh
        by_cases hlt : j + 1 < F.length
        · obtain ⟨fb, fv, -⟩ := HF.out
          obtain ⟨o, c, ev, hcl⟩ := fv_at fv j (by omega)
          simp only [Value.slice.injEq] at ev
          obtain ⟨rfl, -, rfl⟩ := ev
          have x0 := hcl j (by omega)
          have x1 := hcl (j + 1) hlt
          have lfb := World.block_lt_of_cell? w _ x0
          have x0 := (BW.out.cell (p := ⟨fb, o + j, none⟩) lfb).trans x0
          have x1 := (BW.out.cell (p := ⟨fb, o + (j + 1), none⟩) lfb).trans x1
          have lfb := Nat.lt_of_lt_of_le lfb BW.out.size
          have g1 : decide ((j : Int) + 1 < (F.length : Int)) = true := decide_eq_true (by omega)
          have g2 : decide (j + 1 < F.length) = true := decide_eq_true hlt
          by_cases hle : F.getD (j + 1) 0 ≤ F.getD j 0
          · have gx : decide (F.getD (j + 1) 0 ≤ F.getD j 0) = true := decide_eq_true hle
            generalize F.getD (j + 1) 0 = y1 at *
            generalize F.getD j 0 = y0 at *
            clear hle hcl fv
            go_wp2_with fail
            go_quiet (fail)
            go_wp2_with (go_at_call 16; (with_reducible refine (HA.out _).mono ?_); rintro e w2 ⟨rfl, hb2⟩)
            go_ret
            have BN := below_drewN3 wr nq
            exact ⟨rfl, (BW.out.trans (BN.mono BW.out.size)).trans (hb2.mono (Nat.le_trans BW.out.size BN.size))⟩
          · have gx : decide (F.getD (j + 1) 0 ≤ F.getD j 0) = false := decide_eq_false hle
            have HP2 : Hid (∀ b, b < F.length → b ≤ j + 1 → ∀ a, a < b → F.getD a 0 < F.getD b 0) := fun b hb1 hb2 a ha => by
              by_cases e : b = j + 1
              · subst e
                by_cases e2 : a = j
                · subst e2; omega
                · have := HP.out j (by omega) (Nat.le_refl _) a (by omega); omega
              · exact HP.out b hb1 (by omega) a ha
            clear hle hcl fv
            generalize hy1 : F.getD (j + 1) 0 = y1 at x1 gx
            generalize hy0 : F.getD j 0 = y0 at x0 gx
            clear hy1 hy0
            go_wp2_with fail
            go_quiet (fail)
            have B3 := Lib.hid (B2.out.trans ((below_drewN3 wr nq).mono B2.out.size))
            clear x0 x1
            go_wp2_with fail
            exact ⟨⟨j + 1, rfl, by omega, HP2, B3⟩, by simp [intOf]; omega⟩
        · have g1 : decide ((j : Int) + 1 < (F.length : Int)) = false := decide_eq_false (by omega)
          have g2 : decide (j + 1 < F.length) = false := decide_eq_false hlt
          have HPW := Lib.hid (pairs_of (F := F) fun b hb a ha => HP.out b hb (by omega) a ha)
          clear HP B2 hlt
          go_wp2_with fail
          by_cases hm : mayD C.length D.length
          · refine (vnew_yes _ _ _ C D I wr (HC.out.keep BW.out) (HD.out.keep BW.out) (HI.out.keep BW.out) hm (by omega)).mono ?_
            rintro e w2 ⟨ka, rfl, kaB, kaC, kaI, M2a, B2⟩
            have hh := HH.out
            clear i0 i1 i2 i3 i4 HH
            have hh := (B2.block _ lw).trans hh
            have l2 : w.heap.size < w2.heap.size := Nat.lt_of_lt_of_le lw B2.size
            have BW2 := Lib.hid (BW.out.trans (B2.mono BW.out.size))
            have haB : w.heap.size < ka.B := by rw [kaB]; exact lw
            have ba := Lib.hid M2a.between
            have M2a := Lib.hid M2a
            have kaC := Lib.hid kaC
            have kaI := Lib.hid kaI
            clear B2 kaB
            have i0 := cell_of_heap hh 0
            have i1 := cell_of_heap hh 1
            have i2 := cell_of_heap hh 2
            have i3 := cell_of_heap hh 3
            have i4 := cell_of_heap hh 4
            simp only [List.getElem?_toArray, List.getElem?_cons_zero, List.getElem?_cons_succ] at i0 i1 i2 i3 i4
            have HH := Lib.hid hh
            clear hh
            go_wp2_with fail
            refine (vnew_yes _ _ _ C D I w2 (HC.out.keep BW2.out) (HD.out.keep BW2.out) (HI.out.keep BW2.out) hm (by omega)).mono ?_
            rintro e w3 ⟨kb, rfl, kbB, kbC, kbI, M3b, B3⟩
            have hh := HH.out
            clear i0 i1 i2 i3 i4 HH
            have hh := (B3.block _ l2).trans hh
            have l3 : w.heap.size < w3.heap.size := Nat.lt_of_lt_of_le l2 B3.size
            have BW3 := Lib.hid (BW2.out.trans (B3.mono BW2.out.size))
            have M3a := Lib.hid (M2a.out.grow B3)
            have bb := Lib.hid M3b.between
            have M3b := Lib.hid M3b
            have kbC := Lib.hid kbC
            have kbI := Lib.hid kbI
            have hz23 := B3.size
            have hl1 : 1 ≤ C.length ∧ C.length ≤ 32768 := ⟨hm.1, hm.2.1⟩
            have hl2 : 4 ≤ D.length ∧ D.length ≤ 65536 := ⟨hm.2.2.1, hm.2.2.2.1⟩
            have okm := Lib.hid (beginD_ok OD.out hl2)
            have oka : Hid ka.ok := ⟨by rw [kaC.out]; exact OC.out, by rw [kaC.out]; exact hl1, by rw [kaI.out]; exact OI.out, by rw [kaI.out]; omega⟩
            have okb : Hid kb.ok := ⟨by rw [kbC.out]; exact OC.out, by rw [kbC.out]; exact hl1, by rw [kbI.out]; exact OI.out, by rw [kbI.out]; omega⟩
            have HRO : Hid (Dok (runT C I n F (beginD D)) ∧ (runT C I n F (beginD D)).steps ≤ 400) := runD_ok OC.out OI.out n 400 (by omega) ((n - (beginD D).steps).toNat + 1) F (beginD D) okm.out (by show (0 : Int) ≤ 400; decide)
            have HR1 : Hid (Dok (runT C I kk F (beginD D)) ∧ (runT C I kk F (beginD D)).steps ≤ 400) := runD_ok OC.out OI.out kk 400 (by omega) ((kk - (beginD D).steps).toNat + 1) F (beginD D) okm.out (by show (0 : Int) ≤ 400; decide)
            have HPT := Lib.hid (parts_T (code := C) (inp := I) hkn F (beginD D) HPW.out)
            have HST : Hid ((runT C I kk F (beginD D)).state ≠ 0 → runT C I n F (beginD D) = runT C I kk F (beginD D)) := fun h => by rw [← HPT.out]; exact runT_stop h
            clear B3 hm M2a g1 g2
            have i0 := cell_of_heap hh 0
            have i1 := cell_of_heap hh 1
            have i2 := cell_of_heap hh 2
            have i3 := cell_of_heap hh 3
            have i4 := cell_of_heap hh 4
            simp only [List.getElem?_toArray, List.getElem?_cons_zero, List.getElem?_cons_succ] at i0 i1 i2 i3 i4
            have HH := Lib.hid hh
            clear hh
            go_wp2_with fail
            obtain ⟨fb, fv3, hfb⟩ := fv_pick HF.out BW3.out
            have CR := vrun_c M3a.out oka.out okm.out n (by omega) (by show (0 : Int) ≤ 1000000; decide) F fb _ fv3 (by omega) (M3a.out.picked (by omega) hfb)
            rw [kaC.out, kaI.out] at CR
            clear fv3 hfb
            refine CR.mono ?_
            rintro e w4 ⟨vla, tsa, rfl, M4a, C4⟩
            clear CR
            have B4 := vchvBelow M3a.out C4
            have hh := HH.out
            clear i0 i1 i2 i3 i4 HH
            have hh := (B4.block _ haB).trans hh
            have l4 : w.heap.size < w4.heap.size := Nat.lt_of_lt_of_le l3 B4.size
            have BW4 := Lib.hid (BW3.out.trans (B4.mono (by omega)))
            have M4b := Lib.hid (M3b.out.apart2 C4 bb.out ba.out (.inr (by omega)) (fun g e => by cases e) (fun g e => by cases e))
            have Lva : Hid (∀ g, vla.ownBlock = some g → w3.heap.size ≤ g ∧ g < w4.heap.size) := fun g e => ⟨by
              rcases C4.to with e2 | ⟨g2, e2, h2⟩
              · rw [e] at e2; cases e2
              · rw [e] at e2; cases e2; exact h2, (own_lt M4a.ll e).2⟩
            have M4a := Lib.hid M4a
            have hz34 := B4.size
            clear B4 C4 M3a M3b
            have i0 := cell_of_heap hh 0
            have i1 := cell_of_heap hh 1
            have i2 := cell_of_heap hh 2
            have i3 := cell_of_heap hh 3
            have i4 := cell_of_heap hh 4
            simp only [List.getElem?_toArray, List.getElem?_cons_zero, List.getElem?_cons_succ] at i0 i1 i2 i3 i4
            have HH := Lib.hid hh
            clear hh
            go_wp2_with fail
            obtain ⟨fb, fv3, hfb⟩ := fv_pick HF.out BW4.out
            have CR := vrun_c M4b.out okb.out okm.out kk (by omega) (by show (0 : Int) ≤ 1000000; decide) F fb _ fv3 (by omega) (M4b.out.picked (by omega) hfb)
            rw [kbC.out, kbI.out] at CR
            clear fv3 hfb
            refine CR.mono ?_
            rintro e w5 ⟨vlb, tsb, rfl, M5b, C5⟩
            clear CR
            have B5 := vchvBelow M4b.out C5
            have hh := HH.out
            clear i0 i1 i2 i3 i4 HH
            have hh := (B5.block _ (by omega)).trans hh
            have l5 : w.heap.size < w5.heap.size := Nat.lt_of_lt_of_le l4 B5.size
            have BW5 := Lib.hid (BW4.out.trans (B5.mono (by omega)))
            have M5a := Lib.hid (M4a.out.apart2 C5 ba.out bb.out (.inl (by omega)) (fun g e => ⟨by have := Lva.out g e; have := bb.out.bm; omega, by have := Lva.out g e; have := bb.out.bt; omega, fun e2 => by have := Lva.out g e; have := bb.out.vd g e2.symm; omega, fun e2 => by cases e2⟩) (fun g e => by cases e))
            have Lvb : Hid (∀ g, vlb.ownBlock = some g → w4.heap.size ≤ g ∧ g < w5.heap.size) := fun g e => ⟨by
              rcases C5.to with e2 | ⟨g2, e2, h2⟩
              · rw [e] at e2; cases e2
              · rw [e] at e2; cases e2; exact h2, (own_lt M5b.ll e).2⟩
            have M5b := Lib.hid M5b
            have hz45 := B5.size
            clear B5 C5 M4a M4b
            have i0 := cell_of_heap hh 0
            have i1 := cell_of_heap hh 1
            have i2 := cell_of_heap hh 2
            have i3 := cell_of_heap hh 3
            have i4 := cell_of_heap hh 4
            simp only [List.getElem?_toArray, List.getElem?_cons_zero, List.getElem?_cons_succ] at i0 i1 i2 i3 i4
            have HH := Lib.hid hh
            clear hh
            generalize hR1 : runT C I kk F (beginD D) = R1 at *
            generalize hR : runT C I n F (beginD D) = R at *
            clear hR1 hR
            have CS1 := Lib.hid (vstate_c M5b.out)
            have CS2 := Lib.hid (vstepsC M5b.out)
            go_wp2_with (first | (go_at_call 19; (with_reducible refine CS1.out.mono ?_); rintro e w9 ⟨rfl, rfl⟩) | (go_at_call 20; (with_reducible refine CS2.out.mono ?_); rintro e w9 ⟨rfl, rfl⟩))
            clear CS1 CS2
            have HH5 := HH
            go_loopw [12, 13] (fun lv i wr => ∃ j : Nat, i = .int .i64 (j : Int) ∧ j ≤ F.length ∧ Hid (wr.ownsRow w5.heap.size 3 1 lv ((F.take j).filter fun x => decide (R1.steps ≤ x)).length (((F.take j).filter fun x => decide (R1.steps ≤ x)).map (Value.int .i64))) ∧ Hid (Below w5.heap.size w5 wr)) (fun _ i _ => F.length - (intOf i).toNat)
            case atStart => exact ⟨0, rfl, Nat.zero_le _, World.ownsRow_nil _ _ _ _, Below.refl _ _⟩
            case round =>
              clear i0 i1 i2 i3 i4 HH
              obtain ⟨j, rfl, hj, HO, B6⟩ := hrel
              have hh := (B6.out.block _ l5).trans HH5.out
              have l6 : w.heap.size < wr.heap.size := Nat.lt_of_lt_of_le l5 B6.out.size
              have BW6 := Lib.hid (BW5.out.trans (B6.out.mono BW5.out.size))
              have i0 := cell_of_heap hh 0
              have i1 := cell_of_heap hh 1
              have i2 := cell_of_heap hh 2
              have i3 := cell_of_heap hh 3
              have i4 := cell_of_heap hh 4
              simp only [List.getElem?_toArray, List.getElem?_cons_zero, List.getElem?_cons_succ] at i0 i1 i2 i3 i4
              have HH := Lib.hid hh
              clear hh
              obtain ⟨al, cl, rfl⟩ := vown_form HO.out
              by_cases hlt : j < F.length
              · obtain ⟨fb, fv, -⟩ := HF.out
                obtain ⟨o, c, ev, hcl⟩ := fv_at fv j hlt
                simp only [Value.slice.injEq] at ev
                obtain ⟨rfl, -, rfl⟩ := ev
                have x0 := hcl j hlt
                have lfb := World.block_lt_of_cell? w _ x0
                have x0 := (BW6.out.cell (p := ⟨fb, o + j, none⟩) lfb).trans x0
                have lfb := Nat.lt_of_lt_of_le lfb BW6.out.size
                have g1 : decide ((j : Int) < (F.length : Int)) = true := decide_eq_true (by omega)
                have g2 : decide (j < F.length) = true := decide_eq_true hlt
                have ht : F.take (j + 1) = F.take j ++ [F.getD j 0] := by rw [List.take_succ]; simp [List.getD, hlt]
                have hlen : ((F.take j).filter fun x => decide (R1.steps ≤ x)).length ≤ 100 := by
                  have h1 := List.length_filter_le (fun x => decide (R1.steps ≤ x)) (F.take j)
                  have h2 : (F.take j).length ≤ F.length := by rw [List.length_take]; omega
                  omega
                by_cases hge : R1.steps ≤ F.getD j 0
                · have gx : decide (R1.steps ≤ F.getD j 0) = true := decide_eq_true hge
                  have HT : Hid (((F.take (j + 1)).filter fun x => decide (R1.steps ≤ x)) = ((F.take j).filter fun x => decide (R1.steps ≤ x)) ++ [F.getD j 0]) := by
                    show _ = _
                    rw [ht, List.filter_append, List.filter_cons_of_pos (by simpa using hge)]; rfl
                  clear ht hcl fv hge
                  generalize F.getD j 0 = y at *
                  generalize ((F.take j).filter fun x => decide (R1.steps ≤ x)) = LL at *
                  have O2 := Lib.hid (own_below HO.out (vbelow1 wr (.cells #[.int .i64 y] 3)))
                  go_wp2_with (at_builtin; refine appG 41 3 vinfoInt Try.underlying41 rfl (by decide) (by decide) [.int .i64 y] rfl (by simp [Value.oneCell']) O2.out rfl rfl rfl rfl (cell_newL _ _ _ _ rfl) (by omega) (by have := B6.out.size; simp; omega) ?_; intro o6 w6 O6 G6 D6; obtain ⟨a6, c6, ho6⟩ := vown_form O6; have B7 : Hid (Below w5.heap.size w5 w6) := below_grown (B6.out.trans ((vbelow1 wr (.cells #[.int .i64 y] 3)).mono B6.out.size)) G6 (by have := B6.out.size; simp; omega) (fun c e => (own_lt O2.out e).1); have O6 := Lib.hid O6; clear G6 D6; subst ho6)
                  go_roundw
                  case rel => exact ⟨j + 1, rfl, by omega, by show World.ownsRow _ _ _ _ _ _ _; rw [HT.out, List.map_append, List.length_append]; exact O6.out, B7⟩
                  case measure => simp [intOf]; omega
                · have gx : decide (R1.steps ≤ F.getD j 0) = false := decide_eq_false hge
                  have HT : Hid (((F.take (j + 1)).filter fun x => decide (R1.steps ≤ x)) = ((F.take j).filter fun x => decide (R1.steps ≤ x))) := by
                    show _ = _
                    rw [ht, List.filter_append, List.filter_cons_of_neg (by simpa using hge)]; simp
                  clear ht hcl fv hge
                  generalize F.getD j 0 = y at *
                  have HO2 : Hid (wr.ownsRow w5.heap.size 3 1 (.slice al ((F.take j).filter fun x => decide (R1.steps ≤ x)).length cl) ((F.take (j + 1)).filter fun x => decide (R1.steps ≤ x)).length (((F.take (j + 1)).filter fun x => decide (R1.steps ≤ x)).map (Value.int .i64))) := by show World.ownsRow _ _ _ _ _ _ _; rw [HT.out]; exact HO.out
                  clear HO HT
                  generalize ((F.take j).filter fun x => decide (R1.steps ≤ x)).length = nl at *
                  go_wp2_with fail
                  go_roundw
                  case rel => exact ⟨j + 1, rfl, by omega, HO2, B6⟩
                  case measure => simp [intOf]; omega
              · obtain rfl : j = F.length := by omega
                have g1 : decide ((F.length : Int) < (F.length : Int)) = false := decide_eq_false (by omega)
                have g2 : decide (F.length < F.length) = false := decide_eq_false (by omega)
                have hlen := List.length_filter_le (fun x => decide (R1.steps ≤ x)) F
                rw [List.take_length] at HO ⊢
                generalize hLT : (F.filter fun x => decide (R1.steps ≤ x)) = LT at *
                obtain ⟨fb, fv6, hfb⟩ := fv_own HO.out rfl
                have M6b := Lib.hid (M5b.out.grow B6.out)
                have M6a := Lib.hid (M5a.out.grow B6.out)
                have hz56 := B6.out.size
                have hff : fb ≠ kb.bm ∧ fb ≠ kb.bt ∧ some fb ≠ kb.vd.ownBlock ∧ some fb ≠ vlb.ownBlock := by
                  have hge : w5.heap.size ≤ fb := by omega
                  exact ⟨by have := bb.out.bm; omega, by have := bb.out.bt; omega, fun e => by have := bb.out.vd fb e.symm; omega, fun e => by have := Lvb.out fb e.symm; omega⟩
                have CR := vrun_c M6b.out okb.out HR1.out.1 n (by omega) (by have := HR1.out.2; omega) LT fb _ fv6 (by omega) hff
                rw [kbC.out, kbI.out] at CR
                subst hLT
                rw [HPT.out] at CR
                have CR := Lib.hid CR
                clear fv6 hfb hff hlt hlen HO
                generalize (F.filter fun x => decide (R1.steps ≤ x)).length = nl at *
                go_wp2_with fail
                refine CR.out.mono ?_
                rintro e w7 ⟨vlb2, tsb2, rfl, M7b, C7⟩
                clear CR
                have B7 := vchvBelow M6b.out C7
                have BW7 := Lib.hid (BW6.out.trans (B7.mono (by omega)))
                have M7a := Lib.hid (M6a.out.apart2 C7 ba.out bb.out (.inl (by omega)) (fun g e => ⟨by have := Lva.out g e; have := bb.out.bm; omega, by have := Lva.out g e; have := bb.out.bt; omega, fun e2 => by have := Lva.out g e; have := bb.out.vd g e2.symm; omega, fun e2 => by have := Lva.out g e; have := Lvb.out g e2.symm; omega⟩) (fun g e => .inl (by have := Lvb.out g e; omega)))
                have M7b := Lib.hid M7b
                clear B7 C7 M6a M6b M5a M5b i0 i1 i2 i3 i4 HH HH5 BW6 B6 g1 g2
                have BX : Hid (Below w7.heap.size w7 w7) := Below.refl _ _
                have hll : R.log.length ≤ 1000000 := by have := HRO.out.1.lb; have := HRO.out.2; omega
                have CStatea : Hid (∀ W, Below w7.heap.size w7 W → Calls Try.prog 19 #[.pointer (some ⟨ka.bm, 0, none⟩)] W fun e w' => e = .returned (.int .i64 R.state) ∧ W = w') := fun W hW => vstate_c (M7a.out.grow hW)
                have CStepsa : Hid (∀ W, Below w7.heap.size w7 W → Calls Try.prog 20 #[.pointer (some ⟨ka.bm, 0, none⟩)] W fun e w' => e = .returned (.int .i64 R.steps) ∧ W = w') := fun W hW => vstepsC (M7a.out.grow hW)
                have CPca : Hid (∀ W, Below w7.heap.size w7 W → Calls Try.prog 21 #[.pointer (some ⟨ka.bm, 0, none⟩)] W fun e w' => e = .returned (.int .u32 R.pc) ∧ W = w') := fun W hW => vpcC (M7a.out.grow hW)
                have CExita : Hid (∀ W, Below w7.heap.size w7 W → Calls Try.prog 24 #[.pointer (some ⟨ka.bm, 0, none⟩)] W fun e w' => e = .returned (.int .u32 R.exit) ∧ W = w') := fun W hW => vexitC (M7a.out.grow hW)
                have CRega : Hid (∀ W, Below w7.heap.size w7 W → Calls Try.prog 23 #[.pointer (some ⟨ka.bm, 0, none⟩), .int .i64 5] W fun e w' => e = .returned (.int .u32 (regT R 5)) ∧ W = w') := fun W hW => vreg_c (M7a.out.grow hW) 5
                have CLoga : Hid (∀ W, Below w7.heap.size w7 W → Calls Try.prog 22 #[.pointer (some ⟨ka.bm, 0, none⟩)] W fun e w' => ∃ v', e = .returned v' ∧ w'.ownsRow W.heap.size 82 2 v' R.log.length (logV R.log) ∧ Below W.heap.size W w') := fun W hW => vlog_c (M7a.out.grow hW) hll
                have CStateb : Hid (∀ W, Below w7.heap.size w7 W → Calls Try.prog 19 #[.pointer (some ⟨kb.bm, 0, none⟩)] W fun e w' => e = .returned (.int .i64 R.state) ∧ W = w') := fun W hW => vstate_c (M7b.out.grow hW)
                have CStepsb : Hid (∀ W, Below w7.heap.size w7 W → Calls Try.prog 20 #[.pointer (some ⟨kb.bm, 0, none⟩)] W fun e w' => e = .returned (.int .i64 R.steps) ∧ W = w') := fun W hW => vstepsC (M7b.out.grow hW)
                have CPcb : Hid (∀ W, Below w7.heap.size w7 W → Calls Try.prog 21 #[.pointer (some ⟨kb.bm, 0, none⟩)] W fun e w' => e = .returned (.int .u32 R.pc) ∧ W = w') := fun W hW => vpcC (M7b.out.grow hW)
                have CExitb : Hid (∀ W, Below w7.heap.size w7 W → Calls Try.prog 24 #[.pointer (some ⟨kb.bm, 0, none⟩)] W fun e w' => e = .returned (.int .u32 R.exit) ∧ W = w') := fun W hW => vexitC (M7b.out.grow hW)
                have CRegb : Hid (∀ W, Below w7.heap.size w7 W → Calls Try.prog 23 #[.pointer (some ⟨kb.bm, 0, none⟩), .int .i64 5] W fun e w' => e = .returned (.int .u32 (regT R 5)) ∧ W = w') := fun W hW => vreg_c (M7b.out.grow hW) 5
                have CLogb : Hid (∀ W, Below w7.heap.size w7 W → Calls Try.prog 22 #[.pointer (some ⟨kb.bm, 0, none⟩)] W fun e w' => ∃ v', e = .returned v' ∧ w'.ownsRow W.heap.size 82 2 v' R.log.length (logV R.log) ∧ Below W.heap.size W w') := fun W hW => vlog_c (M7b.out.grow hW) hll
                generalize regT R 5 = rg at *
                by_cases hs0 : R1.state = 0
                · have g1 : (R1.state != 0) = false := by rw [hs0]; rfl
                  clear hs0
                  go_wp2_with (first | (go_at_call 16; (with_reducible refine (HA.out _).mono ?_); rintro e wz ⟨rfl, hbz⟩; have BX := Lib.hid (BX.out.trans (hbz.mono BX.out.size))) | (go_at_call 19; (with_reducible refine (CStatea.out _ BX.out).mono ?_); rintro e wz ⟨rfl, rfl⟩) | (go_at_call 20; (with_reducible refine (CStepsa.out _ BX.out).mono ?_); rintro e wz ⟨rfl, rfl⟩) | (go_at_call 21; (with_reducible refine (CPca.out _ BX.out).mono ?_); rintro e wz ⟨rfl, rfl⟩) | (go_at_call 24; (with_reducible refine (CExita.out _ BX.out).mono ?_); rintro e wz ⟨rfl, rfl⟩) | (go_at_call 23; (with_reducible refine (CRega.out _ BX.out).mono ?_); rintro e wz ⟨rfl, rfl⟩) | (go_at_call 22; (with_reducible refine (CLoga.out _ BX.out).mono ?_); rintro e wz ⟨vaz, rfl, oaz, hbz⟩; obtain ⟨aaz, caz, eaz⟩ := vown_form oaz; subst eaz; have BX := Lib.hid (BX.out.trans (hbz.mono BX.out.size))) | (go_at_call 19; (with_reducible refine (CStateb.out _ BX.out).mono ?_); rintro e wz ⟨rfl, rfl⟩) | (go_at_call 20; (with_reducible refine (CStepsb.out _ BX.out).mono ?_); rintro e wz ⟨rfl, rfl⟩) | (go_at_call 21; (with_reducible refine (CPcb.out _ BX.out).mono ?_); rintro e wz ⟨rfl, rfl⟩) | (go_at_call 24; (with_reducible refine (CExitb.out _ BX.out).mono ?_); rintro e wz ⟨rfl, rfl⟩) | (go_at_call 23; (with_reducible refine (CRegb.out _ BX.out).mono ?_); rintro e wz ⟨rfl, rfl⟩) | (go_at_call 22; (with_reducible refine (CLogb.out _ BX.out).mono ?_); rintro e wz ⟨vbz, rfl, obz, hbz⟩; obtain ⟨abz, cbz, ebz⟩ := vown_form obz; subst ebz; have BX := Lib.hid (BX.out.trans (hbz.mono BX.out.size))))
                  go_ret
                  exact ⟨rfl, BW7.out.trans (BX.out.mono BW7.out.size)⟩
                · have g1 : (R1.state != 0) = true := bne_iff_ne.2 hs0
                  have hRR := HST.out hs0
                  clear hs0 HPT HST
                  subst hRR
                  go_wp2_with (first | (go_at_call 16; (with_reducible refine (HA.out _).mono ?_); rintro e wz ⟨rfl, hbz⟩; have BX := Lib.hid (BX.out.trans (hbz.mono BX.out.size))) | (go_at_call 19; (with_reducible refine (CStatea.out _ BX.out).mono ?_); rintro e wz ⟨rfl, rfl⟩) | (go_at_call 20; (with_reducible refine (CStepsa.out _ BX.out).mono ?_); rintro e wz ⟨rfl, rfl⟩) | (go_at_call 21; (with_reducible refine (CPca.out _ BX.out).mono ?_); rintro e wz ⟨rfl, rfl⟩) | (go_at_call 24; (with_reducible refine (CExita.out _ BX.out).mono ?_); rintro e wz ⟨rfl, rfl⟩) | (go_at_call 23; (with_reducible refine (CRega.out _ BX.out).mono ?_); rintro e wz ⟨rfl, rfl⟩) | (go_at_call 22; (with_reducible refine (CLoga.out _ BX.out).mono ?_); rintro e wz ⟨vaz, rfl, oaz, hbz⟩; obtain ⟨aaz, caz, eaz⟩ := vown_form oaz; subst eaz; have BX := Lib.hid (BX.out.trans (hbz.mono BX.out.size))) | (go_at_call 19; (with_reducible refine (CStateb.out _ BX.out).mono ?_); rintro e wz ⟨rfl, rfl⟩) | (go_at_call 20; (with_reducible refine (CStepsb.out _ BX.out).mono ?_); rintro e wz ⟨rfl, rfl⟩) | (go_at_call 21; (with_reducible refine (CPcb.out _ BX.out).mono ?_); rintro e wz ⟨rfl, rfl⟩) | (go_at_call 24; (with_reducible refine (CExitb.out _ BX.out).mono ?_); rintro e wz ⟨rfl, rfl⟩) | (go_at_call 23; (with_reducible refine (CRegb.out _ BX.out).mono ?_); rintro e wz ⟨rfl, rfl⟩) | (go_at_call 22; (with_reducible refine (CLogb.out _ BX.out).mono ?_); rintro e wz ⟨vbz, rfl, obz, hbz⟩; obtain ⟨abz, cbz, ebz⟩ := vown_form obz; subst ebz; have BX := Lib.hid (BX.out.trans (hbz.mono BX.out.size))))
                  go_ret
                  exact ⟨rfl, BW7.out.trans (BX.out.mono BW7.out.size)⟩
          · refine (vnew_no _ _ _ C.length D.length ac ad cc cd wr rfl rfl hm (by omega) (by omega)).mono ?_
            rintro e w2 ⟨rfl, rfl⟩
            have CN := Lib.hid (fun w => vnew_no (.slice ac C.length cc) (.slice ad D.length cd) (.slice ai I.length ci) C.length D.length ac ad cc cd w rfl rfl hm (by omega) (by omega))
            clear hm
            go_wp2_with (first | (go_at_call 17; (with_reducible refine (CN.out _).mono ?_); rintro e w3 ⟨rfl, rfl⟩) | (go_at_call 16; (with_reducible refine (HA.out _).mono ?_); rintro e w2 ⟨rfl, hb2⟩))
            go_ret
            exact ⟨rfl, BW.out.trans (hb2.mono BW.out.size)⟩
    · have g1 : decide (n < kk) = true := decide_eq_true (by omega)
      go_wp2_with fail
      obtain ⟨W0, hW0⟩ : ∃ W0, W0 = w.alloc (.cells #[.slice ac C.length cc, .slice ad D.length cd, .slice ai I.length ci, .slice af F.length cf, .int .i64 n] 43) := ⟨_, rfl⟩
      have hh : W0.heap[w.heap.size]? = some (.cells #[.slice ac C.length cc, .slice ad D.length cd, .slice ai I.length ci, .slice af F.length cf, .int .i64 n] 43 (0, 0)) := by rw [hW0]; exact heap_alloc_new w _
      have B0 : Hid (Below w.heap.size w W0) := by rw [hW0]; exact vbelow1 w _
      rw [← hW0]
      clear hW0
      have l0 : w.heap.size < W0.heap.size := (Array.getElem?_eq_some_iff.1 hh).1
      refine (CF.out _).mono ?_
      rintro e w1 ⟨rfl, hb1⟩
      have hh := (hb1.block _ l0).trans hh
      have B1 := Lib.hid (B0.out.trans (hb1.mono B0.out.size))
      have l1 : w.heap.size < w1.heap.size := Nat.lt_of_lt_of_le l0 hb1.size
      clear B0 l0 hb1
      have i0 := cell_of_heap hh 0
      have i1 := cell_of_heap hh 1
      have i2 := cell_of_heap hh 2
      have i3 := cell_of_heap hh 3
      have i4 := cell_of_heap hh 4
      simp only [List.getElem?_toArray, List.getElem?_cons_zero, List.getElem?_cons_succ] at i0 i1 i2 i3 i4
      have HH := Lib.hid hh
      clear hh
      go_wp2_with (go_at_call 16; (with_reducible refine (HA.out _).mono ?_); rintro e w2 ⟨rfl, hb2⟩)
      go_ret
      exact ⟨rfl, B1.out.trans (hb2.mono B1.out.size)⟩
end Go.Proofs.Ytppmjdljnacpgaa
