/-
  The document's insts.
-/
import Derived.Test.YtedihiodmgnlpaaA19
set_option linter.all false
namespace Go.Proofs.Ytedihiodmgnlpaa
open Go.ChangeShapes Go.WideShapes Go.ChangeAt Go.RowKit Go.Maps
set_option maxHeartbeats 4000000
set_option linter.unusedVariables false
set_option maxRecDepth 20000

theorem two_boxes (w W : World) (a0 a1 a2 a3 a4 a5 a6 b0 b1 b2 b3 b4 : Value) (t t' : TypeId) (hW : W = ((w.alloc (.cells #[a0, a1, a2, a3, a4, a5, a6] t)).alloc (.cells #[b0, b1, b2, b3, b4] t'))) :
    Below w.heap.size w W ∧ w.heap.size + 1 < W.heap.size ∧ W.cell? ⟨w.heap.size, 6, none⟩ = some a6 ∧ W.heap[w.heap.size + 1]? = some (.cells #[b0, b1, b2, b3, b4] t' (0, 0)) := by
  subst hW
  refine ⟨below_a2 _ _ _, by simp, ?_, heap_new _ _ _ (by simp)⟩
  have := cell_of_heap (heap_new w (.cells #[a0, a1, a2, a3, a4, a5, a6] t) w.heap.size rfl) 6
  exact ((below_a1 (w.alloc (.cells #[a0, a1, a2, a3, a4, a5, a6] t)) _).cell (p := ⟨w.heap.size, 6, none⟩) (by simp)).trans this
theorem rinsts_c (L : List It) (F : List Bool) (v va vf : Value) (w : World) (hv : RdT w v L) (hva : RdI w va (posL L F (L.length + 1))) (hvf : RdB w vf F) (hl : F.length = L.length) (hn : L.length ≤ 32768) (hi : ImmOk L) (hV : OkL L) (k : Nat) (hk : k < L.length) (hf : F.getD k false = true → (L.getD k default).kind = 3)
    (s : Nat) (hs : (L.getD k default).kind = 3 ∨ (L.getD k default).kind = 4 → stdN L (L.getD k default).label L.length = (s : Int) ∧ s < L.length) (d : Int) (hd : (L.getD k default).kind = 3 ∨ (L.getD k default).kind = 4 → d = posF L F s - posF L F k) :
    Calls Try.prog 47 #[v, va, vf, .int .i64 (k : Int)] w fun e w' => ∃ u, e = .returned u ∧ RdN w' u (insL (L.getD k default) (F.getD k false) d) ∧ FrV w u ∧ Below w.heap.size w w' := by
  have HV := Lib.hid hv
  obtain ⟨ai, ci, rfl, hl1, hl2, hit⟩ := hv
  obtain ⟨aa, ca, rfl, hla1, hla2, hta⟩ := hva
  obtain ⟨af, cf, rfl, hlf1, hlf2, htf⟩ := hvf
  rw [posL_len] at hla1 hta ⊢
  rw [hl] at hlf1 htf ⊢
  unfold maxLen at hl2 hla2 hlf2
  have HTA := Lib.hid hta
  obtain ⟨b, o, rfl, hc⟩ := hit k hk
  obtain ⟨bf, o_f, rfl, hcf⟩ := htf k hk
  obtain ⟨ba, oa, rfl, hca⟩ := hta k (by omega)
  rw [posL_at L F _ _ (by omega)] at hca
  simp only [Nat.mul_one, Nat.add_zero] at hcf hca
  have y0 := hc.kind
  have y1 := hc.op
  have y2 := hc.rd
  have y3 := hc.rs1
  have y4 := hc.rs2
  have y5 := hc.imm
  have y6 := hc.label
  simp only [Nat.add_zero] at y0
  have lb : b < w.heap.size := World.block_lt_of_cell? w _ y0
  have lbf : bf < w.heap.size := World.block_lt_of_cell? w _ hcf
  have lba : ba < w.heap.size := World.block_lt_of_cell? w _ hca
  have hI := hi k hk
  have hkd := item_kinds _ (hV k hk)
  have HST : Hid (∀ w', Below w.heap.size w w' → Calls Try.prog 84 #[.slice (some ⟨b, o, none⟩) L.length ci, .int .i64 (L.getD k default).label] w' fun e w'' => e = .returned (.int .i64 (stdN L (L.getD k default).label L.length)) ∧ w'' = w') := fun w' hb => (stands_c L _ _ w' (HV.out.ext (Ext.below hb))).mono fun e w'' ⟨h1, h2⟩ => ⟨h1, h2.symm⟩
  have hps := posF_bd L F s
  have hpk := posF_bd L F k
  have HB : Hid (s < L.length → posF L F s ≤ 262144) := fun h => by omega
  have hpk2 : posF L F k ≤ 262144 := by omega
  obtain ⟨hps1, -⟩ := hps
  obtain ⟨hpk1, -⟩ := hpk
  have HPS : Hid (s < L.length → w.cell? ⟨ba, oa + s, none⟩ = some (.int .i64 (posF L F s))) := fun h => by
    obtain ⟨b2, o2, e2, h2⟩ := HTA.out s (by omega)
    cases e2
    rw [posL_at L F _ _ (by omega)] at h2
    simpa using h2
  clear hit hc htf hi hV HTA HV hl
  generalize L.getD k default = X at *
  generalize F.getD k false = f at *
  generalize posF L F s = ps at *
  generalize posF L F k = pk at *
  obtain ⟨kind, ⟨op, rd, rs1, rs2, imm⟩, label⟩ := X
  dsimp only at y0 y1 y2 y3 y4 y5 y6 hs hd hI hkd hf HST
  generalize stdN L label L.length = st at *
  have HI : Hid (insL ⟨kind, ⟨op, rd, rs1, rs2, imm⟩, label⟩ f d = if kind = 1 then [⟨op, rd, rs1, rs2, imm⟩] else if kind = 5 then constL rd (imm % 4294967296) else if kind = 2 then []
    else if kind = 3 ∧ f = false then [⟨op, rd, rs1, rs2, d⟩] else if kind = 4 then [⟨op, rd, rs1, rs2, d⟩] else [⟨contrF op, rd, rs1, rs2, 8⟩, ⟨3, 0, 0, 0, d - 4⟩]) := rfl
  have HC := Lib.hid (fun w => rnumber_c rd imm w hI.1 hI.2)
  have HCT := Lib.hid (fun w => rcontr_c op w)
  clear hI
  generalize L.length = n at *
  rcases hkd with rfl | rfl | rfl | rfl | rfl
  · have HI2 : Hid (_ = ([⟨op, rd, rs1, rs2, imm⟩] : List IN)) := HI
    clear HI HC HCT HPS HST hs hd hf HB
    go_enter Try.func47, Try.ntmps47
    go_wp2_with fail
    go_ret
    rw [HI2.out]
    exact ⟨_, rfl, RdN.one ⟨op, rd, rs1, rs2, imm⟩ (by simp), FrV.mk (by omega), below_a3 _ _ _ _⟩
  · have HI2 : Hid (_ = []) := HI
    clear HI HC HCT HPS HST hs hd hf HB
    go_enter Try.func47, Try.ntmps47
    go_wp2_with fail
    go_ret
    rw [HI2.out]
    exact ⟨_, rfl, RdN.nil _, FrV.nil _, below_a2 _ _ _⟩
  · obtain ⟨rfl, hsn⟩ := hs (.inl rfl)
    have hd' := hd (.inl rfl)
    have hcs := HPS.out hsn
    have hps2 := HB.out hsn
    have HW : Hid (IntKind.i64.wrap (ps - pk) = d) := by show _ = _; rw [hd']; exact IntWalk.i64_in _ (by omega)
    have hd1 : -1000000 ≤ d := by omega
    have hd2 : d ≤ 1000000 := by omega
    clear HC HPS hs hd hf HB hd'
    cases f
    · have HI2 : Hid (_ = ([⟨op, rd, rs1, rs2, d⟩] : List IN)) := HI
      clear HI HCT
      go_enter Try.func47, Try.ntmps47
      go_wp2_with fail
      obtain ⟨W0, hW0⟩ : ∃ W0, W0 = ((w.alloc (.cells #[.int .i64 3, .int .i64 op, .int .i64 rd, .int .i64 rs1, .int .i64 rs2, .int .i64 imm, .int .i64 label] 48)).alloc (.cells #[.int .i64 op, .int .i64 rd, .int .i64 rs1, .int .i64 rs2, .int .i64 imm] 46)) := ⟨_, rfl⟩
      obtain ⟨BW, hz, x6, hb1⟩ := two_boxes _ _ _ _ _ _ _ _ _ _ _ _ _ _ _ _ hW0
      rw [← hW0]
      have HB1 := Lib.hid hb1
      have BW := Lib.hid BW
      clear hW0 hb1 y0 y1 y2 y3 y4 y5 y6
      have xs := (BW.out.cell (p := ⟨ba, oa + s, none⟩) lba).trans hcs
      have xk := (BW.out.cell (p := ⟨ba, oa + k, none⟩) lba).trans hca
      have xf := (BW.out.cell (p := ⟨bf, o_f + k, none⟩) lbf).trans hcf
      have HQ : Hid (∀ n', Calls Try.prog 84 #[.slice (some ⟨b, o, none⟩) n ci, .int .i64 label] (W0.drewN n') fun e w'' => e = .returned (.int .i64 (s : Int)) ∧ w'' = W0.drewN n') := fun n => HST.out _ (below_drewN' BW.out n)
      clear hcs hca hcf HST
      have HW := HW.out
      go_quiet ((go_at_call 84; exact Calls.quiet_of_same (HQ.out _)))
      clear HW HQ xs xk x6
      obtain ⟨W2, hW2⟩ : ∃ W2, W2 = W0.drewN nq := ⟨_, rfl⟩
      have B2 := Lib.hid (below_drewN' BW.out nq)
      have xf : (W0.drewN nq).cell? ⟨bf, o_f + k, none⟩ = _ := xf
      have HB2 : Hid ((W0.drewN nq).heap[w.heap.size + 1]? = _) := HB1
      have hz2 : w.heap.size + 1 < (W0.drewN nq).heap.size := hz
      rw [← hW2] at B2 xf HB2 hz2 ⊢
      clear hW2 hz BW HB1
      have q0 := cell_of_heap HB2.out 0
      have q1 := cell_of_heap HB2.out 1
      have q2 := cell_of_heap HB2.out 2
      have q3 := cell_of_heap HB2.out 3
      have q4 := cell_of_heap HB2.out 4
      have fz0 := frozen_of_heap HB2.out 0
      have fz4 := frozen_of_heap HB2.out 4
      simp only [List.getElem?_toArray, List.getElem?_cons_zero, List.getElem?_cons_succ] at q0 q1 q2 q3 q4
      go_wp2_with fail
      go_ret
      rw [HI2.out]
      exact ⟨_, rfl, RdN.one ⟨op, rd, rs1, rs2, d⟩ (by simp), FrV.mk (by first | omega | (simp; omega)), Below.alloc (Below.setCell B2.out (p := ⟨w.heap.size + 1, 4, none⟩) (by simp) _) (by simp; omega) _⟩
    · have HI2 : Hid (_ = ([⟨contrF op, rd, rs1, rs2, 8⟩, ⟨3, 0, 0, 0, d - 4⟩] : List IN)) := HI
      clear HI
      go_enter Try.func47, Try.ntmps47
      go_wp2_with fail
      obtain ⟨W0, hW0⟩ : ∃ W0, W0 = ((w.alloc (.cells #[.int .i64 3, .int .i64 op, .int .i64 rd, .int .i64 rs1, .int .i64 rs2, .int .i64 imm, .int .i64 label] 48)).alloc (.cells #[.int .i64 op, .int .i64 rd, .int .i64 rs1, .int .i64 rs2, .int .i64 imm] 46)) := ⟨_, rfl⟩
      obtain ⟨BW, hz, x6, hb1⟩ := two_boxes _ _ _ _ _ _ _ _ _ _ _ _ _ _ _ _ hW0
      rw [← hW0]
      have HB1 := Lib.hid hb1
      have BW := Lib.hid BW
      clear hW0 hb1 y0 y1 y2 y3 y4 y5 y6
      have xs := (BW.out.cell (p := ⟨ba, oa + s, none⟩) lba).trans hcs
      have xk := (BW.out.cell (p := ⟨ba, oa + k, none⟩) lba).trans hca
      have xf := (BW.out.cell (p := ⟨bf, o_f + k, none⟩) lbf).trans hcf
      have HQ : Hid (∀ n', Calls Try.prog 84 #[.slice (some ⟨b, o, none⟩) n ci, .int .i64 label] (W0.drewN n') fun e w'' => e = .returned (.int .i64 (s : Int)) ∧ w'' = W0.drewN n') := fun n => HST.out _ (below_drewN' BW.out n)
      clear hcs hca hcf HST
      have HW := HW.out
      go_quiet ((go_at_call 84; exact Calls.quiet_of_same (HQ.out _)))
      clear HW HQ xs xk x6
      obtain ⟨W2, hW2⟩ : ∃ W2, W2 = W0.drewN nq := ⟨_, rfl⟩
      have B2 := Lib.hid (below_drewN' BW.out nq)
      have xf : (W0.drewN nq).cell? ⟨bf, o_f + k, none⟩ = _ := xf
      have HB2 : Hid ((W0.drewN nq).heap[w.heap.size + 1]? = _) := HB1
      have hz2 : w.heap.size + 1 < (W0.drewN nq).heap.size := hz
      rw [← hW2] at B2 xf HB2 hz2 ⊢
      clear hW2 hz BW HB1
      have q0 := cell_of_heap HB2.out 0
      have q1 := cell_of_heap HB2.out 1
      have q2 := cell_of_heap HB2.out 2
      have q3 := cell_of_heap HB2.out 3
      have q4 := cell_of_heap HB2.out 4
      have fz0 := frozen_of_heap HB2.out 0
      have fz4 := frozen_of_heap HB2.out 4
      simp only [List.getElem?_toArray, List.getElem?_cons_zero, List.getElem?_cons_succ] at q0 q1 q2 q3 q4
      go_wp2_with (go_at_call 21; refine (HCT.out _).mono ?_; rintro e w4 ⟨rfl, rfl⟩)
      go_ret
      rw [HI2.out]
      exact ⟨_, rfl, RdN.two ⟨contrF op, rd, rs1, rs2, 8⟩ ⟨3, 0, 0, 0, d - 4⟩ (by simp), FrV.mk (by first | omega | (simp; omega)), Below.alloc (Below.setCell (Below.setCell B2.out (p := ⟨w.heap.size + 1, 0, none⟩) (by simp) _) (p := ⟨w.heap.size + 1, 4, none⟩) (by simp) _) (by simp; omega) _⟩
  · obtain ⟨rfl, hsn⟩ := hs (.inr rfl)
    have hd' := hd (.inr rfl)
    have hcs := HPS.out hsn
    have hps2 := HB.out hsn
    obtain rfl : f = false := by cases f; rfl; exact absurd (hf rfl) (by decide)
    have HW : Hid (IntKind.i64.wrap (ps - pk) = d) := by show _ = _; rw [hd']; exact IntWalk.i64_in _ (by omega)
    have hd1 : -1000000 ≤ d := by omega
    have hd2 : d ≤ 1000000 := by omega
    have HI2 : Hid (_ = ([⟨op, rd, rs1, rs2, d⟩] : List IN)) := HI
    clear HI HC HCT HPS hs hd hf HB hd'
    go_enter Try.func47, Try.ntmps47
    go_wp2_with fail
    obtain ⟨W0, hW0⟩ : ∃ W0, W0 = ((w.alloc (.cells #[.int .i64 4, .int .i64 op, .int .i64 rd, .int .i64 rs1, .int .i64 rs2, .int .i64 imm, .int .i64 label] 48)).alloc (.cells #[.int .i64 op, .int .i64 rd, .int .i64 rs1, .int .i64 rs2, .int .i64 imm] 46)) := ⟨_, rfl⟩
    obtain ⟨BW, hz, x6, hb1⟩ := two_boxes _ _ _ _ _ _ _ _ _ _ _ _ _ _ _ _ hW0
    rw [← hW0]
    have HB1 := Lib.hid hb1
    have BW := Lib.hid BW
    clear hW0 hb1 y0 y1 y2 y3 y4 y5 y6
    have xs := (BW.out.cell (p := ⟨ba, oa + s, none⟩) lba).trans hcs
    have xk := (BW.out.cell (p := ⟨ba, oa + k, none⟩) lba).trans hca
    have xf := (BW.out.cell (p := ⟨bf, o_f + k, none⟩) lbf).trans hcf
    have HQ : Hid (∀ n', Calls Try.prog 84 #[.slice (some ⟨b, o, none⟩) n ci, .int .i64 label] (W0.drewN n') fun e w'' => e = .returned (.int .i64 (s : Int)) ∧ w'' = W0.drewN n') := fun n => HST.out _ (below_drewN' BW.out n)
    clear hcs hca hcf HST
    have HW := HW.out
    go_quiet ((go_at_call 84; exact Calls.quiet_of_same (HQ.out _)))
    clear HW HQ xs xk x6
    obtain ⟨W2, hW2⟩ : ∃ W2, W2 = W0.drewN nq := ⟨_, rfl⟩
    have B2 := Lib.hid (below_drewN' BW.out nq)
    have xf : (W0.drewN nq).cell? ⟨bf, o_f + k, none⟩ = _ := xf
    have HB2 : Hid ((W0.drewN nq).heap[w.heap.size + 1]? = _) := HB1
    have hz2 : w.heap.size + 1 < (W0.drewN nq).heap.size := hz
    rw [← hW2] at B2 xf HB2 hz2 ⊢
    clear hW2 hz BW HB1
    have q0 := cell_of_heap HB2.out 0
    have q1 := cell_of_heap HB2.out 1
    have q2 := cell_of_heap HB2.out 2
    have q3 := cell_of_heap HB2.out 3
    have q4 := cell_of_heap HB2.out 4
    have fz0 := frozen_of_heap HB2.out 0
    have fz4 := frozen_of_heap HB2.out 4
    simp only [List.getElem?_toArray, List.getElem?_cons_zero, List.getElem?_cons_succ] at q0 q1 q2 q3 q4
    go_wp2_with fail
    go_ret
    rw [HI2.out]
    exact ⟨_, rfl, RdN.one ⟨op, rd, rs1, rs2, d⟩ (by simp), FrV.mk (by first | omega | (simp; omega)), Below.alloc (Below.setCell B2.out (p := ⟨w.heap.size + 1, 4, none⟩) (by simp) _) (by simp; omega) _⟩
  · have HI2 : Hid (_ = constL rd (imm % 4294967296)) := HI
    clear HI HCT HPS HST hs hd hf HB
    go_enter Try.func47, Try.ntmps47
    go_wp2_with (go_at_call 28; refine (HC.out _).mono ?_; rintro e w3 ⟨v, rfl, hv, hf3, hb3⟩)
    go_ret
    rw [HI2.out]
    exact ⟨_, rfl, hv, (fun b o n c e => Nat.le_trans (by simp; omega) (hf3 b o n c e)), (below_a2 _ _ _).trans (hb3.mono (by simp; omega))⟩
end Go.Proofs.Ytedihiodmgnlpaa
