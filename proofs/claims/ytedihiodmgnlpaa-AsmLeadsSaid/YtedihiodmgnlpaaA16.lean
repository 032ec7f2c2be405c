/-
  The document's stands, size and places.
-/
import Derived.Test.YtedihiodmgnlpaaA15
import Derived.Test.YtedihiodmgnlpaaE3
set_option linter.all false
namespace Go.Proofs.Ytedihiodmgnlpaa
open Go.ChangeShapes Go.WideShapes Go.ChangeAt Go.RowKit Go.Maps
set_option maxHeartbeats 2000000
set_option linter.unusedVariables false
set_option maxRecDepth 20000

theorem stands_c (L : List It) (v : Value) (x : Int) (w : World) (hv : RdT w v L) :
    Calls Try.prog 84 #[v, .int .i64 x] w fun e w' => e = .returned (.int .i64 (stdN L x L.length)) ∧ w = w' := by
  obtain ⟨ai, ci, rfl, hl1, hl2, hit⟩ := hv
  unfold maxLen at hl2
  have HIT := Lib.hid hit
  clear hit
  go_enter Try.func84, Try.ntmps84
  go_wp2
  go_loop [5] (fun i => ∃ k : Nat, k ≤ L.length ∧ i = .int .i64 (k : Int) ∧ Hid (stdN L x k = -1)) (fun i => L.length - (intOf i).toNat)
  case atStart => exact ⟨0, Nat.zero_le _, rfl, rfl⟩
  case round =>
    obtain ⟨k, hk, rfl, S⟩ := hrel
    by_cases hlk : k < L.length
    · obtain ⟨b, o, rfl, hc⟩ := HIT.out k hlk
      have y0 := hc.kind
      have y6 := hc.label
      simp only [Nat.add_zero] at y0
      have HH : Hid ((L.getD k default).kind = 2 → (L.getD k default).label = x → stdN L x L.length = (k : Int)) := fun a b => stdN_hit L x k L.length hlk S.out a b
      have HM : Hid (¬ ((L.getD k default).kind = 2 ∧ (L.getD k default).label = x) → stdN L x (k + 1) = -1) := stdN_miss L x k S.out
      clear hc
      generalize (L.getD k default).kind = kd at *
      generalize (L.getD k default).label = lb at *
      by_cases h2 : kd = 2
      · subst h2
        by_cases h3 : lb = x
        · have HE := Lib.hid (HH.out rfl h3)
          subst h3
          go_wp2
          go_ret
          exact ⟨retI HE.out.symm, rfl⟩
        · have HE := Lib.hid (HM.out fun h => h3 h.2)
          have h3' : (lb == x) = false := beq_eq_false_iff_ne.2 h3
          clear h3 HM HH
          go_wp2
          go_round
          case rel => exact ⟨k + 1, by omega, by go_num, HE⟩
          case measure => first | (simp [intOf]; done) | (simp [intOf]; omega)
      · have HE := Lib.hid (HM.out fun h => h2 h.1)
        have h2' : (kd == 2) = false := beq_eq_false_iff_ne.2 h2
        clear h2 HM HH
        go_wp2
        go_round
        case rel => exact ⟨k + 1, by omega, by go_num, HE⟩
        case measure => first | (simp [intOf]; done) | (simp [intOf]; omega)
    · obtain rfl : k = L.length := by omega
      go_wp2
      go_ret
      exact ⟨retI S.out.symm, rfl⟩
theorem rsize_c (x : It) (f : Bool) (w : World) (h1 : -9223372036854775808 ≤ x.i.imm) (h2 : x.i.imm < 9223372036854775808) :
    Calls Try.prog 85 #[x.v, .bool f] w fun e w' => e = .returned (.int .i64 (szF x f)) ∧ Below w.heap.size w w' := by
  obtain ⟨kind, ⟨op, rd, rs1, rs2, imm⟩, label⟩ := x
  dsimp only at h1 h2
  have HS : Hid (szF ⟨kind, ⟨op, rd, rs1, rs2, imm⟩, label⟩ f = if kind = 2 then 0 else if kind = 5 then 4 * ((constL rd (imm % 4294967296)).length : Int) else if f = true then 8 else 4) := rfl
  have HN := Lib.hid (constL_len rd (imm % 4294967296))
  have HC := Lib.hid (fun w => rnumber_c rd imm w h1 h2)
  clear h1 h2
  show Calls _ _ #[.agg #[.int .i64 kind, .int .i64 op, .int .i64 rd, .int .i64 rs1, .int .i64 rs2, .int .i64 imm, .int .i64 label], .bool f] _ _
  by_cases h2 : kind = 2
  · subst h2
    rw [if_pos rfl] at HS
    go_enter Try.func85, Try.ntmps85
    go_wp2
    go_ret
    exact ⟨retI HS.out.symm, below_a1 _ _⟩
  · rw [if_neg h2] at HS
    have h2' : (kind == 2) = false := beq_eq_false_iff_ne.2 h2
    clear h2
    by_cases h5 : kind = 5
    · subst h5
      rw [if_pos rfl] at HS
      go_enter Try.func85, Try.ntmps85
      go_wp2_with (go_at_call 28; refine (HC.out _).mono ?_; rintro e w1 ⟨v, rfl, hv, -, hb1⟩; obtain ⟨va, vc, rfl, hv1, hv2, -⟩ := hv)
      go_ret
      refine ⟨retI ?_, (below_a1 _ _).trans (hb1.mono (by simp))⟩
      rw [HS.out]
      have := HN.out
      rw [wrap64_in _ (by omega) (by omega)]
    · rw [if_neg h5] at HS
      have h5' : (kind == 5) = false := beq_eq_false_iff_ne.2 h5
      clear h5
      cases f
      · rw [if_neg (by decide)] at HS
        go_enter Try.func85, Try.ntmps85
        go_wp2
        go_ret
        exact ⟨retI HS.out.symm, below_a1 _ _⟩
      · rw [if_pos rfl] at HS
        go_enter Try.func85, Try.ntmps85
        go_wp2
        go_ret
        exact ⟨retI HS.out.symm, below_a1 _ _⟩
/-- numbers of items that a machine can hold -/
def ImmOk (L : List It) : Prop := ∀ k, k < L.length → -9223372036854775808 ≤ (L.getD k default).i.imm ∧ (L.getD k default).i.imm < 9223372036854775808
theorem places_c (L : List It) (F : List Bool) (v vf : Value) (w : World) (hv : RdT w v L) (hf : RdB w vf F) (hl : F.length = L.length) (hn : L.length ≤ 32768) (hi : ImmOk L) :
    Calls Try.prog 46 #[v, vf] w fun e w' => ∃ u, e = .returned u ∧ RdI w' u (posL L F (L.length + 1)) ∧ FrV w u ∧ Below w.heap.size w w' := by
  obtain ⟨ai, ci, rfl, hl1, hl2, hit⟩ := hv
  obtain ⟨af, cf, rfl, hg1, hg2, hff⟩ := hf
  unfold maxLen at hl2 hg2
  rw [hl] at hg1
  have HIT := Lib.hid hit
  have HFF := Lib.hid hff
  have HI := Lib.hid hi
  have HL := Lib.hid hl
  clear hit hff hi
  rw [hl]
  clear hl
  go_enter Try.func46, Try.ntmps46
  go_wp2
  go_loopw [5, 6, 7] (fun o p i wr => ∃ k : Nat, k ≤ L.length ∧ i = .int .i64 (k : Int) ∧ p = .int .i64 (posF L F k) ∧ Hid (wr.ownsRow w.heap.size 3 1 o k ((posL L F k).map (Value.int .i64))) ∧ Hid (Below w.heap.size w wr)) (fun _ _ i _ => L.length - (intOf i).toNat)
  case atStart => exact ⟨0, Nat.zero_le _, rfl, rfl, own_nil _ _ _ _, Below.refl _ _⟩
  case round =>
    obtain ⟨k, hk, rfl, rfl, O, B⟩ := hrel
    have hp := posF_bd L F k
    obtain ⟨hp1, hp2⟩ := hp
    have HSN := Lib.hid (posL_snoc L F k)
    by_cases hlk : k < L.length
    · obtain ⟨b, o, rfl, hc⟩ := HIT.out k hlk
      obtain ⟨b', o', rfl, hcf⟩ := HFF.out k (by rw [HL.out]; exact hlk)
      have hbw : b < w.heap.size := World.block_lt_of_cell? w _ hc.kind
      have hbw' : b' < w.heap.size := World.block_lt_of_cell? w _ hcf
      simp only [Nat.mul_one, Nat.add_zero] at hcf
      have HSZ := Lib.hid (fun w => rsize_c (L.getD k default) (F.getD k false) w (HI.out k hlk).1 (HI.out k hlk).2)
      have HP := Lib.hid (show posF L F (k + 1) = posF L F k + szF (L.getD k default) (F.getD k false) from rfl)
      have hs := szF_bd (L.getD k default) (F.getD k false)
      obtain ⟨hs1, hs2⟩ := hs
      generalize szF (L.getD k default) (F.getD k false) = sz at *
      generalize L.getD k default = X at *
      generalize F.getD k false = f at *
      generalize posF L F k = p at *
      obtain ⟨kind, ⟨op, rd, rs1, rs2, imm⟩, label⟩ := X
      have HC := Lib.hid hc
      have HCF := Lib.hid hcf
      clear hc hcf
      have HSZ : Hid (∀ w, Calls Try.prog 85 #[.agg #[.int .i64 kind, .int .i64 op, .int .i64 rd, .int .i64 rs1, .int .i64 rs2, .int .i64 imm, .int .i64 label], .bool f] w fun e w' => e = .returned (.int .i64 sz) ∧ Below w.heap.size w w') := HSZ
      go_wp2_with (at_builtin; refine appG 26 3 infoInt Try.underlying26 rfl (by decide) (by decide) [.int .i64 p] rfl (by simp [Value.oneCell']) (own_below O.out (below_a1 _ _)) rfl rfl rfl rfl (cell_new1 _ _ _ _ rfl) (by omega) (by have := B.out.size; simp; omega) ?_; intro o1 w1 O1 G1 D1)
      have hsz := B.out.size
      have B1 : Hid (Below w.heap.size w w1) := below_grown (B.out.trans ((below_a1 _ _).mono hsz)) G1 (by simp; omega) fun g hg => (own_lt O.out hg).1
      have hW1 := B1.out.size
      have O1 : Hid (w1.ownsRow w.heap.size 3 1 o1 (k + 1) ((posL L F (k + 1)).map (Value.int .i64))) := by
        show World.ownsRow _ _ _ _ _ _ _
        rw [HSN.out, List.map_append]; exact O1
      clear G1 D1 O B
      have hcf : w1.cell? ⟨b', o' + k, none⟩ = some (.bool f) := (B1.out.cell (p := ⟨b', o' + k, none⟩) hbw').trans HCF.out
      have hc := HC.out.sub (c' := fun j => w1.cell? ⟨b, o + k * 7 + j, none⟩) fun j v hv => (B1.out.cell (p := ⟨b, o + k * 7 + j, none⟩) hbw).trans hv
      have y0 := hc.kind
      have y1 := hc.op
      have y2 := hc.rd
      have y3 := hc.rs1
      have y4 := hc.rs2
      have y5 := hc.imm
      have y6 := hc.label
      simp only [Nat.add_zero] at y0
      dsimp only at y0 y1 y2 y3 y4 y5 y6
      clear hc
      refine wp_region_game (fun x => x = b ∨ x = b') (by kernel_rfl) ?_
      show wpE _ _ _ _ _ _ _ w1.drew
      refine E_mob2 0 _ rfl (by kernel_rfl) ?_
      simp only [List.getElem_toArray, List.getElem_cons_succ, List.getElem_cons_zero]
      go_big_quiet_step (fail)
      refine wpQuiet_nil ?_
      refine E_mob2 1 _ rfl (by kernel_rfl) ?_
      simp only [List.getElem_toArray, List.getElem_cons_succ, List.getElem_cons_zero]
      go_big_quiet_step (fail)
      refine wpQuiet_nil ?_
      refine E_mob2 2 _ rfl (by kernel_rfl) ?_
      simp only [List.getElem_toArray, List.getElem_cons_succ, List.getElem_cons_zero]
      go_big_quiet_step (fail)
      refine wpQuiet_nil ?_
      refine E_mob2 3 _ rfl (by kernel_rfl) ?_
      simp only [List.getElem_toArray, List.getElem_cons_succ, List.getElem_cons_zero]
      go_big_quiet_step (fail)
      refine wpQuiet_nil ?_
      refine E_mob2 4 _ rfl (by kernel_rfl) ?_
      simp only [List.getElem_toArray, List.getElem_cons_succ, List.getElem_cons_zero]
      go_big_quiet_step (fail)
      refine wpQuiet_nil ?_
      refine E_mob2 5 _ rfl (by kernel_rfl) ?_
      simp only [List.getElem_toArray, List.getElem_cons_succ, List.getElem_cons_zero]
      go_big_quiet_step (fail)
      refine wpQuiet_nil ?_
      refine E_mob2 6 _ rfl (by kernel_rfl) ?_
      simp only [List.getElem_toArray, List.getElem_cons_succ, List.getElem_cons_zero]
      go_big_quiet_step (fail)
      refine wpQuiet_nil ?_
      refine E_mob2 7 _ rfl (by kernel_rfl) ?_
      simp only [List.getElem_toArray, List.getElem_cons_succ, List.getElem_cons_zero]
      go_big_quiet_step (fail)
      refine wpQuiet_nil ?_
      refine E_mob2 8 _ rfl (by kernel_rfl) ?_
      simp only [List.getElem_toArray, List.getElem_cons_succ, List.getElem_cons_zero]
      go_big_quiet_step (fail)
      refine wpQuiet_nil ?_
      refine E_loud1 9 _ rfl (by kernel_rfl) ?_
      simp only [List.getElem_toArray, List.getElem_cons_succ, List.getElem_cons_zero]
      go_wp2_with fail
      refine (HSZ.out _).mono ?_
      rintro e w2 ⟨rfl, hb2⟩
      have B2 : Hid (Below w.heap.size w w2) := B1.out.trans (((Below.refl _ _).drew.trans hb2).mono hW1)
      have O2 := Lib.hid (own_below O1.out ((Below.refl _ _).drew.trans hb2))
      have HK : Hid (Keep (fun x => x = b ∨ x = b') w1.drew w2) := keepBelow hb2 (fun x hx => by rcases hx with rfl | rfl <;> (simp; omega))
      clear y0 y1 y2 y3 y4 y5 y6 hcf hb2 O1 B1
      go_wp2_with fail
      refine ⟨HK.out, ?_⟩
      refine E_mob2 10 _ rfl (by kernel_rfl) ?_
      simp only [List.getElem_toArray, List.getElem_cons_succ, List.getElem_cons_zero]
      go_big_quiet_step (fail)
      refine wpQuiet_nil ?_
      refine E_mob2 11 _ rfl (by kernel_rfl) ?_
      simp only [List.getElem_toArray, List.getElem_cons_succ, List.getElem_cons_zero]
      go_big_quiet_step (fail)
      refine wpQuiet_nil ?_
      refine E_done (by kernel_rfl) ?_ _
      go_wp2_with fail
      go_round
      case rel => exact ⟨k + 1, by omega, by go_num, by rw [HP.out], O2, B2⟩
      case measure => first | (simp [intOf]; done) | (simp [intOf]; omega)
    · obtain rfl : k = L.length := by omega
      go_wp2_with (at_builtin; refine appG 26 3 infoInt Try.underlying26 rfl (by decide) (by decide) [.int .i64 (posF L F L.length)] rfl (by simp [Value.oneCell']) (own_below O.out (below_a1 _ _)) rfl rfl rfl rfl (cell_new1 _ _ _ _ rfl) (by omega) (by have := B.out.size; simp; omega) ?_; intro o1 w1 O1 G1 D1)
      have hsz := B.out.size
      have B1 : Below w.heap.size w w1 := below_grown (B.out.trans ((below_a1 _ _).mono hsz)) G1 (by simp; omega) fun g hg => (own_lt O.out hg).1
      have O1 : w1.ownsRow w.heap.size 3 1 o1 (posL L F (L.length + 1)).length ((posL L F (L.length + 1)).map (Value.int .i64)) := by
        rw [posL_len, HSN.out, List.map_append]; exact O1
      go_ret
      refine ⟨o1, rfl, own_rows (f := Value.int .i64) 0 O1, ?_, B1⟩
      intro b o n c e
      exact (own_lt O1 (by rw [e]; rfl)).1
end Go.Proofs.Ytedihiodmgnlpaa
