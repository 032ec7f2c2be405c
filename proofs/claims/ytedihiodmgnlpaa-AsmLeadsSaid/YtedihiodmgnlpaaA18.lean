/-
  The document's Far.
-/
import Derived.Test.YtedihiodmgnlpaaA17
import Derived.IntWalk
set_option linter.all false
namespace Go.Proofs.Ytedihiodmgnlpaa
open Go.ChangeShapes Go.WideShapes Go.ChangeAt Go.RowKit Go.Maps
set_option maxHeartbeats 4000000
set_option linter.unusedVariables false
set_option maxRecDepth 20000

theorem infoBool : (Try.prog.info? 4).map (fun i => (i.zero, i.size, i.bytes)) = some (some (.bool false), 1, 1) := by kernel_rfl
theorem madeB2 (w : World) (B R : Nat) (hB : B ≤ w.heap.size) (hR : R ≤ maxLen) : (w.alloc (.cells (madeCells #[.bool false] R) 4)).ownsRow B 4 1 (.slice (some ⟨w.heap.size, 0, none⟩) R R) R ((List.replicate R false).map Value.bool) := by
  have hl : (madeCells #[Value.bool false] R).toList = (List.replicate R false).map Value.bool := by
    apply List.ext_getElem
    · simp [madeCells]
    · intro i h1 h2
      simp [madeCells, Nat.mod_one]
  refine ⟨by simp, .inr ⟨w.heap.size, R, _, rfl, hB, heap_alloc_new w _, by simp, hR, by simp [madeCells], ?_⟩⟩
  rw [hl]
  simp [List.take_of_length_le]
theorem nx_set (l : List Bool) (n k : Nat) (h : l.length = k) (hk : k < n) (x : Bool) : (l ++ List.replicate (n - k) false).set k x = (l ++ [x]) ++ List.replicate (n - (k + 1)) false := by
  subst h
  rw [List.set_append_right _ _ (Nat.le_refl _), Nat.sub_self, show n - l.length = (n - (l.length + 1)) + 1 by omega, List.replicate_succ]
  simp
theorem nx_set' (l : List Bool) (n k : Nat) (h : l.length = k) (x y : Bool) : ((l ++ [x]) ++ List.replicate (n - (k + 1)) false).set k y = (l ++ [y]) ++ List.replicate (n - (k + 1)) false := by
  subst h
  rw [List.append_assoc, List.set_append_right _ _ (Nat.le_refl _), Nat.sub_self]
  simp
theorem nx_at (l : List Bool) (n k : Nat) (h : l.length = k) (hk : k < n) : ((l ++ List.replicate (n - k) false).map Value.bool)[k]? = some (.bool false) := by
  subst h
  rw [List.getElem?_map, List.getElem?_append_right (Nat.le_refl _), Nat.sub_self, show n - l.length = (n - (l.length + 1)) + 1 by omega]
  rfl
theorem nx_at2 (l : List Bool) (n k : Nat) (h : l.length = k) (x : Bool) : (((l ++ [x]) ++ List.replicate (n - (k + 1)) false).map Value.bool)[k]? = some (.bool x) := by
  subst h
  rw [List.getElem?_map, List.append_assoc, List.getElem?_append_right (Nat.le_refl _), Nat.sub_self]
  rfl
theorem own_rowsN {w : World} {B n : Nat} {e : TypeId} {v : Value} {α : Type} {l : List α} {f : α → Value} (d : α) (h : w.ownsRow B e 1 v n (l.map f)) (hn : l.length = n) : Rows' w v 1 l.length fun i c => c 0 = some (f (l.getD i d)) := by
  subst hn; exact own_rows d h
theorem far_c (L : List It) (v : Value) (w : World) (hv : RdT w v L) (hn : L.length ≤ 32768) (hi : ImmOk L) (hV : OkL L) (hd : dupN L L.length = false) (hm : misN L L.length = false) :
    Calls Try.prog 45 #[v] w fun e w' => ∃ u, e = .returned u ∧ RdB w' u (farF L) ∧ Below w.heap.size w w' := by
  have HV := Lib.hid hv
  obtain ⟨ai, ci, rfl, hl1, hl2, hit⟩ := hv
  unfold maxLen at hl2
  have HIT := Lib.hid hit
  clear hit
  have HI := Lib.hid hi
  have HL : Hid (LabOk L (labs0 L).length) := by show LabOk _ _; unfold labs0; rw [List.length_replicate]; exact labOk_of L hV hm
  have HSL : Hid (∀ k, k < L.length → (L.getD k default).kind = 3 ∨ (L.getD k default).kind = 4 → 0 ≤ stdN L (L.getD k default).label L.length ∧ stdN L (L.getD k default).label L.length < L.length) := fun k hk h => std_lt L hm k hk h
  have HNX : Hid (∀ m, nxF L (itF L (labs0 L) (noF L) m) L.length = itF L (labs0 L) (noF L) (m + 1)) := fun m => nx_rnd L _ (labs0 L) HL.out hd hm (by rw [itF_len]; simp [noF])
  have HST : Hid (∀ x w', Below w.heap.size w w' → Calls Try.prog 84 #[.slice ai L.length ci, .int .i64 x] w' fun e w'' => e = .returned (.int .i64 (stdN L x L.length)) ∧ w' = w'') := fun x w' hb => stands_c L _ x w' (HV.out.ext (Ext.below hb))
  have hmk := run_make_row' (P := Try.prog) 84 4 (.bool false) 1 Try.underlying84 infoBool rfl .i64 .i64 L.length (by omega) (by omega)
  have HML : Hid (L.length ≤ maxLen) := by show _ ≤ _; unfold maxLen; omega
  clear hi hV hd hm
  go_enter Try.func45, Try.ntmps45
  go_wp2_with fail
  go_loopw [3, 4] (fun vf i wr => ∃ (m : Nat), m ≤ L.length + 1 ∧ i = .int .i64 (m : Int) ∧ Hid (wr.ownsRow w.heap.size 4 1 vf L.length ((itF L (labs0 L) (noF L) m).map Value.bool)) ∧ Hid (Below w.heap.size w wr)) (fun _ i _ => L.length + 1 - (intOf i).toNat)
  case atStart => exact ⟨0, Nat.zero_le _, rfl, madeB2 w _ _ (Nat.le_refl _) HML.out, below_a1 _ _⟩
  case round =>
    obtain ⟨m, hm, rfl, O, B⟩ := hrel
    have HFL : Hid ((itF L (labs0 L) (noF L) m).length = L.length) := by show _ = _; rw [itF_len]; simp [noF]
    by_cases hlm : m ≤ L.length
    · have HN := Lib.hid (HNX.out m)
      have HP : Hid (∀ w', Below wr.heap.size wr w' → Calls Try.prog 46 #[.slice ai L.length ci, _] w' fun e w'' => ∃ u, e = .returned u ∧ RdI w'' u (posL L (itF L (labs0 L) (noF L) m) (L.length + 1)) ∧ FrV w' u ∧ Below w'.heap.size w' w'') := fun w' hb => places_c L _ _ _ w' (HV.out.ext (Ext.below (B.out.trans (hb.mono B.out.size)))) (by
        have := own_below O.out hb
        rw [← HFL.out] at this
        exact own_rows (f := Value.bool) false this) HFL.out hn HI.out
      generalize itF L (labs0 L) (noF L) m = F at *
      go_wp2_with (go_at_call 46; refine (HP.out _ (Below.refl _ _)).mono ?_; rintro e w2 ⟨u, rfl, hu, -, hb2⟩)
      have B2 : Hid (Below w.heap.size w w2) := B.out.trans (hb2.mono B.out.size)
      have O2 := Lib.hid (own_below O.out hb2)
      obtain ⟨au, cu, rfl, hu1, hu2, huu⟩ := hu
      rw [posL_len] at hu1 huu ⊢
      have HUU := Lib.hid huu
      obtain ⟨af, cf, rfl, hf1, hf2, hff⟩ := own_rowsN (f := Value.bool) false O2.out HFL.out
      rw [HFL.out] at hf1 hff ⊢
      have HFF := Lib.hid hff
      unfold maxLen at hu2 hf2
      clear hb2 O B HP huu hff
      go_loopw [7] (fun i wr => ∃ (k : Nat), k ≤ L.length ∧ i = .int .i64 (k : Int) ∧ Hid (wr.ownsRow w.heap.size 4 1 (.slice (some ⟨w2.heap.size, 0, none⟩) L.length L.length) L.length ((nxF L F k ++ List.replicate (L.length - k) false).map Value.bool)) ∧ Hid (Below w2.heap.size w2 wr)) (fun i _ => L.length - (intOf i).toNat)
      case atStart => exact ⟨0, Nat.zero_le _, rfl, madeB2 w2 _ _ B2.out.size HML.out, below_a1 _ _⟩
      case round =>
        obtain ⟨k, hk, rfl, N, BB⟩ := hrel
        by_cases hlk : k < L.length
        · obtain ⟨b, o, rfl, hc⟩ := HIT.out k hlk
          obtain ⟨bf, of, rfl, hcf⟩ := HFF.out k hlk
          obtain ⟨bu, ou, rfl, hcu⟩ := HUU.out k (by omega)
          rw [posL_at L F _ _ (by omega)] at hcu
          have hbw : b < w.heap.size := World.block_lt_of_cell? w _ hc.kind
          have lbf : bf < w2.heap.size := World.block_lt_of_cell? w2 _ hcf
          have lbu : bu < w2.heap.size := World.block_lt_of_cell? w2 _ hcu
          have lb : b < w2.heap.size := Nat.lt_of_lt_of_le hbw B2.out.size
          have hy0 := (B2.out.cell (p := ⟨b, o + k * 7 + 0, none⟩) hbw).trans hc.kind
          have hy6 := (B2.out.cell (p := ⟨b, o + k * 7 + 6, none⟩) hbw).trans hc.label
          have HCS : Hid (∀ s : Nat, s < L.length + 1 → w2.cell? ⟨bu, ou + s, none⟩ = some (.int .i64 (posF L F s))) := fun s hs => by
            obtain ⟨b2, o2, e2, h2⟩ := HUU.out s hs
            cases e2
            rw [posL_at L F _ _ hs] at h2
            simpa using h2
          simp only [Nat.mul_one, Nat.add_zero] at hcf hcu hy0
          have HNX' : Hid (nxF L F (k + 1) = nxF L F k ++ [F.getD k false || ((L.getD k default).kind == 3 && (decide (posF L F (stdN L (L.getD k default).label L.length).toNat - posF L F k < -4096) || decide (4094 < posF L F (stdN L (L.getD k default).label L.length).toNat - posF L F k)))]) := rfl
          have HLN := Lib.hid (nxF_len L F k)
          have hpk := posF_bd L F k
          have HSK := Lib.hid (HSL.out k hlk)
          have HSB : Hid (∀ w', Below w.heap.size w w' → Calls Try.prog 84 #[.slice (some ⟨b, o, none⟩) L.length ci, .int .i64 (L.getD k default).label] w' fun e w'' => e = .returned (.int .i64 (stdN L (L.getD k default).label L.length)) ∧ w'' = w') := fun w' hb => (HST.out _ w' hb).mono fun e w'' ⟨h1, h2⟩ => ⟨h1, h2.symm⟩
          have HPS : Hid (∀ s : Nat, 0 ≤ posF L F s ∧ posF L F s ≤ 8 * (s : Int)) := posF_bd L F
          clear hc
          generalize (L.getD k default).kind = kd at *
          generalize (L.getD k default).label = l1 at *
          generalize stdN L l1 L.length = st at *
          generalize F.getD k false = f at *
          have z0 := (BB.out.cell (p := ⟨b, o + k * 7, none⟩) lb).trans hy0
          have z1 := (BB.out.cell (p := ⟨bf, of + k, none⟩) lbf).trans hcf
          have fz := N.out.frozenAt k
          have cz : wr.cell? ⟨w2.heap.size, k, none⟩ = some (.bool false) := by
            rw [N.out.cellAt k (by omega)]
            exact nx_at _ _ _ HLN.out hlk
          have ls : w2.heap.size < wr.heap.size := World.block_lt_of_cell? wr _ cz
          have nb : b ≠ w2.heap.size := by omega
          have nbf : bf ≠ w2.heap.size := by omega
          by_cases h3 : kd = 3
          · subst h3
            obtain ⟨s, hs, hs2⟩ : ∃ s : Nat, st = (s : Int) ∧ s < L.length := by
              have := HSK.out (.inl rfl); exact ⟨st.toNat, by omega, by omega⟩
            subst hs
            rw [Int.toNat_natCast] at HNX'
            have hcs := HCS.out s (by omega)
            have hps := HPS.out s
            clear HSK HPS HCS
            generalize posF L F s = ps at *
            generalize posF L F k = pk at *
            obtain ⟨hpk1, hpk2⟩ := hpk
            obtain ⟨hps1, hps2⟩ := hps
            have NS := (N.out.stored k (.bool f)).1
            rw [← List.map_set, nx_set _ _ _ HLN.out hlk] at NS
            have NS := Lib.hid NS
            have BS : Hid (Below w2.heap.size w2 (wr.setCell ⟨w2.heap.size, k, none⟩ (.bool f))) := BB.out.setCell (p := ⟨w2.heap.size, k, none⟩) (Nat.le_refl _) _
            obtain ⟨d, hd⟩ : ∃ d, d = ps - pk := ⟨_, rfl⟩
            have HW : IntKind.i64.wrap (ps - pk) = d := by rw [hd]; exact IntWalk.i64_in _ (by omega)
            rw [← hd] at HNX'
            have hd1 : -1000000 ≤ d := by omega
            have hd2 : d ≤ 1000000 := by omega
            have HW := Lib.hid HW
            clear hd N BB
            go_wp2_with fail
            obtain ⟨W1, hW1⟩ : ∃ W1, W1 = wr.setCell ⟨w2.heap.size, k, none⟩ (.bool f) := ⟨_, rfl⟩
            rw [← hW1] at NS BS ⊢
            clear hW1 z0 z1 fz cz ls
            have y6 := (BS.out.cell (p := ⟨b, o + k * 7 + 6, none⟩) lb).trans hy6
            have xs := (BS.out.cell (p := ⟨bu, ou + s, none⟩) lbu).trans hcs
            have xk := (BS.out.cell (p := ⟨bu, ou + k, none⟩) lbu).trans hcu
            have xf := (BS.out.cell (p := ⟨bf, of + k, none⟩) lbf).trans hcf
            have HQ : Hid (∀ n, Calls Try.prog 84 #[.slice (some ⟨b, o, none⟩) L.length ci, .int .i64 l1] (W1.drewN n) fun e w'' => e = .returned (.int .i64 (s : Int)) ∧ w'' = W1.drewN n) := fun n => HSB.out _ (below_drewN' (B2.out.trans (BS.out.mono B2.out.size)) n)
            have HW := HW.out
            go_quiet ((go_at_call 84; exact Calls.quiet_of_same (HQ.out _)))
            clear HW HQ
            obtain ⟨W2, hW2⟩ : ∃ W2, W2 = W1.drewN nq := ⟨_, rfl⟩
            have NS2 := Lib.hid (own_below NS.out (below_drewN _ W1 nq))
            have BS2 := Lib.hid (below_drewN' BS.out nq)
            have xf2 : (W1.drewN nq).cell? ⟨bf, of + k, none⟩ = some (.bool f) := xf
            rw [← hW2] at NS2 BS2 xf2 ⊢
            clear hW2 y6 xs xk xf BS NS hcs hcu HSB
            have fz := NS2.out.frozenAt k
            have cz : W2.cell? ⟨w2.heap.size, k, none⟩ = some (.bool f) := by
              rw [NS2.out.cellAt k (by omega)]
              exact nx_at2 _ _ _ HLN.out f
            have ls : w2.heap.size < W2.heap.size := World.block_lt_of_cell? W2 _ cz
            cases f
            · by_cases h4 : d < -4096
              · have h4 : decide (d < -4096) = true := decide_eq_true h4
                have h5 : True := trivial
                have HE : Hid (nxF L F (k + 1) = nxF L F k ++ [true]) := by show _ = _; rw [HNX'.out]; simp [h4, h5]
                have N2 := (NS2.out.stored k (.bool true)).1
                rw [← List.map_set, nx_set' _ _ _ HLN.out, ← HE.out] at N2
                have N2 := Lib.hid N2
                have BS3 : Hid (Below w2.heap.size w2 (W2.setCell ⟨w2.heap.size, k, none⟩ (.bool true))) := BS2.out.setCell (p := ⟨w2.heap.size, k, none⟩) (Nat.le_refl _) _
                clear HNX' NS2 BS2
                go_wp2_with fail
                go_roundw
                case rel => exact ⟨k + 1, by omega, by go_num, N2, BS3⟩
                case measure => first | (simp [intOf]; done) | (simp [intOf]; omega)
              · have h4 : decide (d < -4096) = false := decide_eq_false h4
                by_cases h5 : 4094 < d
                · have h5 : decide (4094 < d) = true := decide_eq_true h5
                  have HE : Hid (nxF L F (k + 1) = nxF L F k ++ [true]) := by show _ = _; rw [HNX'.out]; simp [h4, h5]
                  have N2 := (NS2.out.stored k (.bool true)).1
                  rw [← List.map_set, nx_set' _ _ _ HLN.out, ← HE.out] at N2
                  have N2 := Lib.hid N2
                  have BS3 : Hid (Below w2.heap.size w2 (W2.setCell ⟨w2.heap.size, k, none⟩ (.bool true))) := BS2.out.setCell (p := ⟨w2.heap.size, k, none⟩) (Nat.le_refl _) _
                  clear HNX' NS2 BS2
                  go_wp2_with fail
                  go_roundw
                  case rel => exact ⟨k + 1, by omega, by go_num, N2, BS3⟩
                  case measure => first | (simp [intOf]; done) | (simp [intOf]; omega)
                · have h5 : decide (4094 < d) = false := decide_eq_false h5
                  have HE : Hid (nxF L F (k + 1) = nxF L F k ++ [false]) := by show _ = _; rw [HNX'.out]; simp [h4, h5]
                  have N2 := (NS2.out.stored k (.bool false)).1
                  rw [← List.map_set, nx_set' _ _ _ HLN.out, ← HE.out] at N2
                  have N2 := Lib.hid N2
                  have BS3 : Hid (Below w2.heap.size w2 (W2.setCell ⟨w2.heap.size, k, none⟩ (.bool false))) := BS2.out.setCell (p := ⟨w2.heap.size, k, none⟩) (Nat.le_refl _) _
                  clear HNX' NS2 BS2
                  go_wp2_with fail
                  go_roundw
                  case rel => exact ⟨k + 1, by omega, by go_num, N2, BS3⟩
                  case measure => first | (simp [intOf]; done) | (simp [intOf]; omega)
            · have h4 : True := trivial
              have h5 : True := trivial
              have HE : Hid (nxF L F (k + 1) = nxF L F k ++ [true]) := by show _ = _; rw [HNX'.out]; simp [h4, h5]
              have N2 := (NS2.out.stored k (.bool true)).1
              rw [← List.map_set, nx_set' _ _ _ HLN.out, ← HE.out] at N2
              have N2 := Lib.hid N2
              have BS3 : Hid (Below w2.heap.size w2 (W2.setCell ⟨w2.heap.size, k, none⟩ (.bool true))) := BS2.out.setCell (p := ⟨w2.heap.size, k, none⟩) (Nat.le_refl _) _
              clear HNX' NS2 BS2
              go_wp2_with fail
              go_roundw
              case rel => exact ⟨k + 1, by omega, by go_num, N2, BS3⟩
              case measure => first | (simp [intOf]; done) | (simp [intOf]; omega)
          · have h3' : (kd == 3) = false := beq_eq_false_iff_ne.2 h3
            have HE : Hid (nxF L F (k + 1) = nxF L F k ++ [f]) := by show _ = _; rw [HNX'.out, h3']; simp
            have NS := (N.out.stored k (.bool f)).1
            rw [← List.map_set, nx_set _ _ _ HLN.out hlk, ← HE.out] at NS
            have NS := Lib.hid NS
            have BS : Hid (Below w2.heap.size w2 (wr.setCell ⟨w2.heap.size, k, none⟩ (.bool f))) := BB.out.setCell (p := ⟨w2.heap.size, k, none⟩) (Nat.le_refl _) _
            clear h3 HNX' HSB HSK HCS N BB
            go_wp2_with fail
            go_roundw
            case rel => exact ⟨k + 1, by omega, by go_num, NS, BS⟩
            case measure => first | (simp [intOf]; done) | (simp [intOf]; omega)
        · obtain rfl : k = L.length := by omega
          have NE := N.out
          rw [Nat.sub_self, List.replicate_zero, List.append_nil, HN.out] at NE
          have NE := Lib.hid NE
          have BE : Hid (Below w.heap.size w wr) := B2.out.trans (BB.out.mono B2.out.size)
          clear N BB
          go_wp2_with fail
          go_roundw
          case rel => exact ⟨m + 1, by omega, by go_num, NE, BE⟩
          case measure => first | (simp [intOf]; done) | (simp [intOf]; omega)
    · obtain rfl : m = L.length + 1 := by omega
      have hR := Lib.hid (own_rowsN (f := Value.bool) false O.out HFL.out)
      have g1 : decide ((L.length : Int) + 1 ≤ (L.length : Int)) = false := decide_eq_false (by omega)
      clear O hmk
      go_wp2_with fail
      go_ret
      exact ⟨_, rfl, hR.out, B.out⟩
end Go.Proofs.Ytedihiodmgnlpaa
