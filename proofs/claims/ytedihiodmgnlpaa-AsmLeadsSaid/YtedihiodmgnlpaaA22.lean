/-
  The statements' own helpers of layer 5: items as the document has them, and items with more between them.
-/
import Derived.Test.YtedihiodmgnlpaaA21
import Derived.Test.YtedihiodmgnlpaaE5
set_option linter.all false
namespace Go.Proofs.Ytedihiodmgnlpaa
open Go.ChangeShapes Go.WideShapes Go.ChangeAt Go.RowKit Go.Maps
set_option maxHeartbeats 4000000
set_option linter.unusedVariables false
set_option maxRecDepth 20000

def itVs (x : It) : List Value := [.int .i64 x.kind, .int .i64 x.i.op, .int .i64 x.i.rd, .int .i64 x.i.rs1, .int .i64 x.i.rs2, .int .i64 x.i.imm, .int .i64 x.label]
theorem itVs_len (x : It) : (itVs x).length = 7 := rfl
theorem itC_of {c : Nat → Option Value} {x : It} (h : ∀ j u, (itVs x)[j]? = some u → c j = some u) : ItC c x :=
  ⟨h 0 _ rfl, h 1 _ rfl, h 2 _ rfl, h 3 _ rfl, h 4 _ rfl, h 5 _ rfl, h 6 _ rfl⟩
theorem own_its {w : World} {B : Nat} {e : TypeId} {v : Value} {P : List It} (h : w.ownsRow B e 7 v P.length (P.flatMap itVs)) : RdT w v P := by
  obtain ⟨a, c, h1, h2, h3, h4⟩ := own_flat (by decide) itVs_len h
  refine ⟨a, c, h1, h2, h3, fun i hi => ?_⟩
  obtain ⟨b, o, e, hr⟩ := h4 i hi
  exact ⟨b, o, e, itC_of hr⟩
theorem infoItem : (Try.prog.info? 41).map (fun i => (i.zero, i.size, i.bytes)) = some (some (.agg #[.int .i64 0, .int .i64 0, .int .i64 0, .int .i64 0, .int .i64 0, .int .i64 0, .int .i64 0]), 7, 56) := by kernel_rfl
theorem infoRItem : (Try.prog.info? 48).map (fun i => (i.zero, i.size, i.bytes)) = some (some (.agg #[.int .i64 0, .int .i64 0, .int .i64 0, .int .i64 0, .int .i64 0, .int .i64 0, .int .i64 0]), 7, 56) := by kernel_rfl
theorem ones7 (a b c d e f g : Int) : ∀ u ∈ ([.int .i64 a, .int .i64 b, .int .i64 c, .int .i64 d, .int .i64 e, .int .i64 f, .int .i64 g] : List Value), u.oneCell' = true := by
  intro u hu; simp at hu; rcases hu with rfl | rfl | rfl | rfl | rfl | rfl | rfl <;> rfl
theorem ref_c (L : List It) (v : Value) (w : World) (hv : RdT w v L) (hn : L.length ≤ 100000000) :
    Calls Try.prog 16 #[v] w fun e w' => ∃ u, e = .returned u ∧ RdT w' u L ∧ Below w.heap.size w w' := by
  obtain ⟨ai, ci, rfl, hl1, hl2, hit⟩ := hv
  unfold maxLen at hl2
  have HIT := Lib.hid hit
  clear hit
  go_enter Try.func16, Try.ntmps16
  go_wp2_with fail
  go_loopw [3, 4] (fun o i wr => ∃ k : Nat, k ≤ L.length ∧ i = .int .i64 (k : Int) ∧ Hid (wr.ownsRow w.heap.size 48 7 o k ((L.take k).flatMap itVs)) ∧ Hid (Below w.heap.size w wr)) (fun _ i _ => L.length - (intOf i).toNat)
  case atStart => exact ⟨0, Nat.zero_le _, rfl, own_nil _ _ _ _, Below.refl _ _⟩
  case round =>
    obtain ⟨k, hk, rfl, O, B⟩ := hrel
    by_cases hlk : k < L.length
    · obtain ⟨b, o, rfl, hc⟩ := HIT.out k hlk
      have hbw : b < w.heap.size := World.block_lt_of_cell? w _ hc.kind
      have hc := hc.sub (c' := fun j => wr.cell? ⟨b, o + k * 7 + j, none⟩) fun j v hv => (B.out.cell (p := ⟨b, o + k * 7 + j, none⟩) hbw).trans hv
      have HT : Hid ((L.take (k + 1)).flatMap itVs = (L.take k).flatMap itVs ++ itVs (L.getD k default)) := by show _ = _; rw [take_snocD L k hlk, flat_snoc]
      have y0 := hc.kind
      have y1 := hc.op
      have y2 := hc.rd
      have y3 := hc.rs1
      have y4 := hc.rs2
      have y5 := hc.imm
      have y6 := hc.label
      simp only [Nat.add_zero] at y0
      have hsz := B.out.size
      clear hc
      generalize L.getD k default = X at *
      obtain ⟨kind, ⟨op, rd, rs1, rs2, imm⟩, label⟩ := X
      dsimp only at y0 y1 y2 y3 y4 y5 y6
      go_wp2_with fail
      refine wp_region_game (fun x => x = b) (by kernel_rfl) ?_
      show wpE _ _ _ _ _ _ _ wr.drew
      refine E_mob2 0 _ rfl (by kernel_rfl) ?_
      simp only [List.getElem_toArray, List.getElem_cons_succ, List.getElem_cons_zero]
      go_big_quiet_step (fail)
      refine wpQuiet_nil ?_
      refine E_mob2 1 _ rfl (by kernel_rfl) ?_
      simp only [List.getElem_toArray, List.getElem_cons_succ, List.getElem_cons_zero]
      go_big_quiet_step (fail)
      refine wpQuiet_nil ?_
      refine E_mob2 2 _ rfl (by kernel_rfl) ?_
      simp only [List.getElem_toArray, List.getElem_cons_succ, List.getElem_cons_zero]
      go_big_quiet_step (fail)
      refine wpQuiet_nil ?_
      refine E_mob2 3 _ rfl (by kernel_rfl) ?_
      simp only [List.getElem_toArray, List.getElem_cons_succ, List.getElem_cons_zero]
      go_big_quiet_step (fail)
      refine wpQuiet_nil ?_
      refine E_mob2 4 _ rfl (by kernel_rfl) ?_
      simp only [List.getElem_toArray, List.getElem_cons_succ, List.getElem_cons_zero]
      go_big_quiet_step (fail)
      refine wpQuiet_nil ?_
      refine E_mob2 5 _ rfl (by kernel_rfl) ?_
      simp only [List.getElem_toArray, List.getElem_cons_succ, List.getElem_cons_zero]
      go_big_quiet_step (fail)
      refine wpQuiet_nil ?_
      refine E_mob2 6 _ rfl (by kernel_rfl) ?_
      simp only [List.getElem_toArray, List.getElem_cons_succ, List.getElem_cons_zero]
      go_big_quiet_step (fail)
      refine wpQuiet_nil ?_
      refine E_mob2 7 _ rfl (by kernel_rfl) ?_
      simp only [List.getElem_toArray, List.getElem_cons_succ, List.getElem_cons_zero]
      go_big_quiet_step (fail)
      refine wpQuiet_nil ?_
      refine E_mob2 8 _ rfl (by kernel_rfl) ?_
      simp only [List.getElem_toArray, List.getElem_cons_succ, List.getElem_cons_zero]
      go_big_quiet_step (fail)
      refine wpQuiet_nil ?_
      refine E_mob2 9 _ rfl (by kernel_rfl) ?_
      simp only [List.getElem_toArray, List.getElem_cons_succ, List.getElem_cons_zero]
      go_big_quiet_step (fail)
      refine wpQuiet_nil ?_
      refine E_mob2 10 _ rfl (by kernel_rfl) ?_
      simp only [List.getElem_toArray, List.getElem_cons_succ, List.getElem_cons_zero]
      go_big_quiet_step (fail)
      refine wpQuiet_nil ?_
      refine E_mob2 11 _ rfl (by kernel_rfl) ?_
      simp only [List.getElem_toArray, List.getElem_cons_succ, List.getElem_cons_zero]
      go_big_quiet_step (fail)
      refine wpQuiet_nil ?_
      refine E_mob2 12 _ rfl (by kernel_rfl) ?_
      simp only [List.getElem_toArray, List.getElem_cons_succ, List.getElem_cons_zero]
      go_big_quiet_step (fail)
      refine wpQuiet_nil ?_
      refine E_mob2 13 _ rfl (by kernel_rfl) ?_
      simp only [List.getElem_toArray, List.getElem_cons_succ, List.getElem_cons_zero]
      go_big_quiet_step (fail)
      refine wpQuiet_nil ?_
      refine E_mob2 14 _ rfl (by kernel_rfl) ?_
      simp only [List.getElem_toArray, List.getElem_cons_succ, List.getElem_cons_zero]
      go_big_quiet_step (fail)
      refine wpQuiet_nil ?_
      refine E_mob2 15 _ rfl (by kernel_rfl) ?_
      simp only [List.getElem_toArray, List.getElem_cons_succ, List.getElem_cons_zero]
      go_big_quiet_step (fail)
      refine wpQuiet_nil ?_
      refine E_mob2 16 _ rfl (by kernel_rfl) ?_
      simp only [List.getElem_toArray, List.getElem_cons_succ, List.getElem_cons_zero]
      go_big_quiet_step (fail)
      refine wpQuiet_nil ?_
      refine E_loud1 17 _ rfl (by kernel_rfl) ?_
      simp only [List.getElem_toArray, List.getElem_cons_succ, List.getElem_cons_zero]
      go_wp2_with fail
      refine ⟨keepBelow (below_a1 _ _) (fun x hx => by subst hx; simp; omega), ?_⟩
      refine E_loud1 18 _ rfl (by kernel_rfl) ?_
      simp only [List.getElem_toArray, List.getElem_cons_succ, List.getElem_cons_zero]
      refine appG 33 48 infoRItem Try.underlying33 rfl (by decide) (by decide) [.int .i64 kind, .int .i64 op, .int .i64 rd, .int .i64 rs1, .int .i64 rs2, .int .i64 imm, .int .i64 label] rfl (ones7 _ _ _ _ _ _ _) (own_below O.out ((Below.refl _ _).drew.trans (below_a1 wr.drew _))) rfl rfl rfl rfl (cell_newX _ _ _ _ rfl) (by omega) (by simp; omega) ?_
      intro o1 w1 O1 G1 D1
      have B1 : Hid (Below w.heap.size w w1) := below_grown (B.out.trans (((Below.refl _ _).drew.trans (below_a1 wr.drew _)).mono hsz)) G1 (by simp; omega) fun g hg => (own_lt O.out hg).1
      have O1 : Hid (w1.ownsRow w.heap.size 48 7 o1 (k + 1) ((L.take (k + 1)).flatMap itVs)) := by
        show World.ownsRow _ _ _ _ _ _ _
        rw [HT.out]; exact O1
      have HK : Hid (Keep (fun x => x = b) (wr.drew.alloc (.cells #[.int .i64 kind, .int .i64 op, .int .i64 rd, .int .i64 rs1, .int .i64 rs2, .int .i64 imm, .int .i64 label] 48)) w1) := fun x p hx => by
        subst hx
        exact World.cell?_of_block (a := ⟨x, p, none⟩) (G1.block x (by simp; omega) fun e => by have := (own_lt O.out e.symm).1; omega)
      clear G1 D1 O B HT
      go_wp2_with fail
      refine ⟨HK.out, ?_⟩
      refine E_mob2 19 _ rfl (by kernel_rfl) ?_
      simp only [List.getElem_toArray, List.getElem_cons_succ, List.getElem_cons_zero]
      go_big_quiet_step (fail)
      refine wpQuiet_nil ?_
      refine E_done (by kernel_rfl) ?_ _
      go_wp2_with fail
      go_round
      case rel => exact ⟨k + 1, by omega, by go_num, O1, B1⟩
      case measure => first | (simp [intOf]; done) | (simp [intOf]; omega)
    · obtain rfl : k = L.length := by omega
      have HR := O.out
      rw [List.take_of_length_le (Nat.le_refl _)] at HR
      have HR := Lib.hid (own_its HR)
      clear O
      go_wp2_with fail
      go_ret
      exact ⟨_, rfl, HR.out, B.out⟩
def nopI : It := ⟨1, ⟨19, 0, 0, 0, 0⟩, 0⟩
/-- the first k items, with so many more behind one -/
def padN (L : List It) (a p : Int) : Nat → List It
  | 0 => []
  | k + 1 => padN L a p k ++ [L.getD k default] ++ (if (k : Int) = a then List.replicate (min p 1100).toNat nopI else [])
theorem padN_len (L : List It) (a p : Int) : ∀ k, (padN L a p k).length ≤ k * 1101
  | 0 => by simp [padN]
  | k + 1 => by
    have := padN_len L a p k
    unfold padN
    rw [List.length_append, List.length_append, List.length_singleton]
    split
    · rw [List.length_replicate]; omega
    · rw [List.length_nil]; omega
theorem padN_all (Q : It → Prop) (L : List It) (a p : Int) (hn : Q nopI) (hL : ∀ i, i < L.length → Q (L.getD i default)) : ∀ k, k ≤ L.length → ∀ x ∈ padN L a p k, Q x
  | 0, _, x, h => by cases h
  | k + 1, hk, x, h => by
    unfold padN at h
    rw [List.mem_append, List.mem_append] at h
    rcases h with (h | h) | h
    · exact padN_all Q L a p hn hL k (by omega) x h
    · rw [List.mem_singleton] at h; subst h; exact hL k (by omega)
    · split at h
      · rw [List.mem_replicate] at h; rw [h.2]; exact hn
      · cases h
theorem padded_c (L : List It) (v : Value) (a p : Int) (w : World) (hv : RdT w v L) (hn : L.length ≤ 60) (hp1 : -9223372036854775808 ≤ p) (hp2 : p < 9223372036854775808) :
    Calls Try.prog 13 #[v, .int .i64 a, .int .i64 p] w fun e w' => ∃ u, e = .returned u ∧ RdT w' u (padN L a p L.length) ∧ Below w.heap.size w w' := by
  obtain ⟨ai, ci, rfl, hl1, hl2, hit⟩ := hv
  unfold maxLen at hl2
  have HIT := Lib.hid hit
  clear hit
  go_enter Try.func13, Try.ntmps13
  go_wp2_with fail
  go_loopw [7, 8] (fun o i wr => ∃ k : Nat, k ≤ L.length ∧ i = .int .i64 (k : Int) ∧ Hid (wr.ownsRow w.heap.size 41 7 o (padN L a p k).length ((padN L a p k).flatMap itVs)) ∧ Hid (Below w.heap.size w wr)) (fun _ i _ => L.length - (intOf i).toNat)
  case atStart => exact ⟨0, Nat.zero_le _, rfl, own_nil _ _ _ _, Below.refl _ _⟩
  case round =>
    obtain ⟨k, hk, rfl, O, B⟩ := hrel
    by_cases hlk : k < L.length
    · obtain ⟨b, o, rfl, hc⟩ := HIT.out k hlk
      have hbw : b < w.heap.size := World.block_lt_of_cell? w _ hc.kind
      have hc := hc.sub (c' := fun j => wr.cell? ⟨b, o + k * 7 + j, none⟩) fun j v hv => (B.out.cell (p := ⟨b, o + k * 7 + j, none⟩) hbw).trans hv
      have y0 := hc.kind
      have y1 := hc.op
      have y2 := hc.rd
      have y3 := hc.rs1
      have y4 := hc.rs2
      have y5 := hc.imm
      have y6 := hc.label
      simp only [Nat.add_zero] at y0
      have hsz := B.out.size
      have HLN := Lib.hid (padN_len L a p k)
      have HPN : Hid (padN L a p (k + 1) = padN L a p k ++ [L.getD k default] ++ (if (k : Int) = a then List.replicate (min p 1100).toNat nopI else [])) := rfl
      clear hc
      generalize L.getD k default = X at *
      generalize padN L a p k = P at *
      obtain ⟨kind, ⟨op, rd, rs1, rs2, imm⟩, label⟩ := X
      dsimp only at y0 y1 y2 y3 y4 y5 y6
      go_wp2_with (at_builtin; refine appG 22 41 infoItem Try.underlying22 rfl (by decide) (by decide) [.int .i64 kind, .int .i64 op, .int .i64 rd, .int .i64 rs1, .int .i64 rs2, .int .i64 imm, .int .i64 label] rfl (ones7 _ _ _ _ _ _ _) (own_below O.out (below_a1 _ _)) rfl rfl rfl rfl (cell_newX _ _ _ _ rfl) (by have := HLN.out; omega) (by have := B.out.size; simp; omega) ?_; intro o1 w1 O1 G1 D1)
      have B1 : Hid (Below w.heap.size w w1) := below_grown (B.out.trans ((below_a1 wr _).mono hsz)) G1 (by simp; omega) fun g hg => (own_lt O.out hg).1
      have O1 : Hid (w1.ownsRow w.heap.size 41 7 o1 (P ++ [(⟨kind, ⟨op, rd, rs1, rs2, imm⟩, label⟩ : It)]).length ((P ++ [(⟨kind, ⟨op, rd, rs1, rs2, imm⟩, label⟩ : It)]).flatMap itVs)) := by
        show World.ownsRow _ _ _ _ _ _ _
        rw [flat_snoc, List.length_append]; exact O1
      have HLN2 : Hid ((P ++ [(⟨kind, ⟨op, rd, rs1, rs2, imm⟩, label⟩ : It)]).length ≤ k * 1101 + 1) := by show _ ≤ _; have := HLN.out; rw [List.length_append, List.length_singleton]; omega
      clear G1 D1 O B y0 y1 y2 y3 y4 y5 y6 HLN
      generalize P ++ [(⟨kind, ⟨op, rd, rs1, rs2, imm⟩, label⟩ : It)] = P2 at *
      go_loopw [7, 9] (fun o i wr => ∃ j : Nat, i = .int .i64 (j : Int) ∧ Hid (j = 0 ∨ (k : Int) = a ∧ (j : Int) ≤ p ∧ j ≤ 1100) ∧ Hid (wr.ownsRow w.heap.size 41 7 o (P2 ++ List.replicate j nopI).length ((P2 ++ List.replicate j nopI).flatMap itVs)) ∧ Hid (Below w.heap.size w wr)) (fun _ i _ => 1100 - (intOf i).toNat)
      case atStart => exact ⟨0, rfl, .inl rfl, by simpa using O1, B1⟩
      case round =>
        clear O1 B1
        obtain ⟨j, rfl, hj, O, B⟩ := hrel
        have hj2 : j ≤ 1100 := by rcases hj.out with h | h <;> omega
        have HLN : Hid ((P2 ++ List.replicate j nopI).length ≤ 100000) := by show _ ≤ _; have := HLN2.out; rw [List.length_append, List.length_replicate]; omega
        have HDN : Hid (¬ ((k : Int) = a ∧ (j : Int) < p ∧ j < 1100) → padN L a p (k + 1) = P2 ++ List.replicate j nopI) := fun h => by
          rw [HPN.out]
          congr 1
          by_cases e : (k : Int) = a
          · rw [if_pos e]
            congr 1
            rcases hj.out with h2 | h2 <;> omega
          · rw [if_neg e]
            rcases hj.out with h2 | h2
            · rw [h2]; rfl
            · exact absurd h2.1 e
        by_cases h1 : (k : Int) = a
        · have g1 : ((k : Int) == a) = true := by rw [h1]; exact BEq.rfl
          by_cases h2 : (j : Int) < p
          · have g2 : decide ((j : Int) < p) = true := decide_eq_true h2
            by_cases h3 : j < 1100
            · have g3 : decide ((j : Int) < 1100) = true := decide_eq_true (by omega)
              have hj3 : Hid ((k : Int) = a ∧ ((j + 1 : Nat) : Int) ≤ p ∧ j + 1 ≤ 1100) := ⟨h1, by omega, by omega⟩
              have HT : Hid (P2 ++ List.replicate (j + 1) nopI = (P2 ++ List.replicate j nopI) ++ [nopI]) := by show _ = _; rw [List.replicate_succ', List.append_assoc]
              have hsz := B.out.size
              have H1 := Lib.hid h1
              clear h1
              go_wp2_with (at_builtin; refine appG 22 41 infoItem Try.underlying22 rfl (by decide) (by decide) [.int .i64 1, .int .i64 19, .int .i64 0, .int .i64 0, .int .i64 0, .int .i64 0, .int .i64 0] rfl (ones7 _ _ _ _ _ _ _) (own_below O.out (below_a1 _ _)) rfl rfl rfl rfl (cell_newX _ _ _ _ rfl) (by have := HLN.out; omega) (by have := B.out.size; simp; omega) ?_; intro o1 w1 O1 G1 D1)
              have B1 : Hid (Below w.heap.size w w1) := below_grown (B.out.trans ((below_a1 wr _).mono hsz)) G1 (by simp; omega) fun g hg => (own_lt O.out hg).1
              have O1 : Hid (w1.ownsRow w.heap.size 41 7 o1 (P2 ++ List.replicate (j + 1) nopI).length ((P2 ++ List.replicate (j + 1) nopI).flatMap itVs)) := by
                show World.ownsRow _ _ _ _ _ _ _
                rw [HT.out, flat_snoc, List.length_append]; exact O1
              clear G1 D1 O B HT HDN
              go_wp2_with fail
              go_roundw
              case rel => exact ⟨j + 1, by go_num, .inr hj3.out, O1, B1⟩
              case measure => first | (simp [intOf]; done) | (simp [intOf]; omega)
            · have g3 : decide ((j : Int) < 1100) = false := decide_eq_false (by omega)
              have HE := HDN.out (fun h => h3 h.2.2)
              rw [← HE] at O
              clear HDN HE h1
              go_wp2_with fail
              go_roundw
              case rel => exact ⟨k + 1, by omega, by go_num, O, B⟩
              case measure => first | (simp [intOf]; done) | (simp [intOf]; omega)
          · have g2 : decide ((j : Int) < p) = false := decide_eq_false h2
            have HE := HDN.out (fun h => h2 h.2.1)
            rw [← HE] at O
            clear HDN HE h1
            go_wp2_with fail
            go_roundw
            case rel => exact ⟨k + 1, by omega, by go_num, O, B⟩
            case measure => first | (simp [intOf]; done) | (simp [intOf]; omega)
        · have g1 : ((k : Int) == a) = false := beq_eq_false_iff_ne.2 h1
          have HE := HDN.out (fun h => h1 h.1)
          rw [← HE] at O
          clear HDN HE h1
          go_wp2_with fail
          go_roundw
          case rel => exact ⟨k + 1, by omega, by go_num, O, B⟩
          case measure => first | (simp [intOf]; done) | (simp [intOf]; omega)
    · obtain rfl : k = L.length := by omega
      have HR := Lib.hid (own_its O.out)
      clear O
      go_wp2_with fail
      go_ret
      exact ⟨_, rfl, HR.out, B.out⟩
end Go.Proofs.Ytedihiodmgnlpaa
