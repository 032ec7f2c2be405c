/-
  The contract of the sheet's place: all items and labels are put in their places.
-/
import Derived.Test.YtedihiodmgnlpaaA6
import Derived.Test.YtedihiodmgnlpaaE2
set_option linter.all false
namespace Go.Proofs.Ytedihiodmgnlpaa
open Go.ChangeShapes Go.WideShapes Go.ChangeAt Go.RowKit
set_option maxHeartbeats 2000000
set_option linter.unusedVariables false
set_option maxRecDepth 20000

def posF (L : List It) (far : List Bool) : Nat → Int
  | 0 => 0
  | k + 1 => posF L far k + szF (L.getD k default) (far.getD k false)
def atF (L : List It) (far : List Bool) (at' : List Int) : Nat → List Int
  | 0 => at'
  | k + 1 => (atF L far at' k).set k (posF L far k)
def lbF (L : List It) (far : List Bool) (lab : List Int) : Nat → List Int
  | 0 => lab
  | k + 1 => if (L.getD k default).kind = 2 then (lbF L far lab k).set (L.getD k default).label.toNat (posF L far k) else lbF L far lab k
theorem szF_bd (x : It) (f : Bool) : 0 ≤ szF x f ∧ szF x f ≤ 8 := by
  unfold szF
  have := constL_len x.i.rd (x.i.imm % 4294967296)
  (repeat' split) <;> omega
theorem posF_bd (L : List It) (far : List Bool) (k : Nat) : 0 ≤ posF L far k ∧ posF L far k ≤ 8 * (k : Int) := by
  induction k with
  | zero => simp [posF]
  | succ k ih => have := szF_bd (L.getD k default) (far.getD k false); unfold posF; omega
theorem lbF_len (L : List It) (far : List Bool) (lab : List Int) (k : Nat) : (lbF L far lab k).length = lab.length := by
  induction k with
  | zero => rfl
  | succ k ih => unfold lbF; split <;> simp [ih]
theorem atF_len (L : List It) (far : List Bool) (lab : List Int) (k : Nat) : (atF L far lab k).length = lab.length := by
  induction k with
  | zero => rfl
  | succ k ih => unfold atF; simp [ih]
/-- each label of the items has its place in the row of labels -/
def LabOk (L : List It) (m : Nat) : Prop := ∀ k, k < L.length → (L.getD k default).kind = 2 ∨ (L.getD k default).kind = 3 ∨ (L.getD k default).kind = 4 → ∃ l : Nat, (L.getD k default).label = (l : Int) ∧ l < m
section
variable {wp w : World} {bs bf ba bl : Nat} {vi : Value} {L : List It} {far : List Bool} {at' lab : List Int}
theorem Sh.drew (h : Sh wp w bs bf ba bl vi L far at' lab) : Sh wp w.drew bs bf ba bl vi L far at' lab := h.grow (Below.refl _ _).drew
theorem place_c (h : Sh wp w bs bf ba bl vi L far at' lab) (hL : LabOk L lab.length) :
    Calls Try.prog 79 #[.pointer (some ⟨bs, 0, none⟩)] w fun e w' => (∃ v, e = .returned v) ∧ Sh wp w' bs bf ba bl vi L far (atF L far at' (L.length + 1)) (lbF L far lab L.length) := by
  have H := Lib.hid h
  have HL := Lib.hid hL
  have c0 := h.c0
  have hn := h.most
  have lbs : bs < w.heap.size := World.block_lt_of_cell? w _ c0
  obtain ⟨ai, ci, rfl, hit⟩ := h.it
  clear h hL hit
  go_enter Try.func79, Try.ntmps79
  go_wp2_with fail
  go_loopw [2, 10] (fun p i wr => ∃ (k : Nat), k ≤ L.length ∧ i = .int .i64 (k : Int) ∧ p = .int .i64 (posF L far k) ∧ Hid (Sh wp wr bs bf ba bl (.slice ai L.length ci) L far (atF L far at' k) (lbF L far lab k))) (fun _ i _ => L.length - (intOf i).toNat)
  case atStart => exact ⟨0, Nat.zero_le _, rfl, rfl, H⟩
  case round =>
    clear H c0 lbs
    obtain ⟨k, hk, rfl, rfl, M⟩ := hrel
    by_cases hlk : k < L.length
    · have c0 := M.out.c0
      have c1 := M.out.c1
      have c2 := M.out.c2
      have ca := M.out.ca (show k < L.length + 1 by omega)
      obtain ⟨ai', ci', e, hit⟩ := M.out.it
      simp only [Value.slice.injEq] at e
      obtain ⟨rfl, -, rfl⟩ := e
      obtain ⟨b, o, rfl, hb, hc⟩ := hit k hlk
      have y0 := hc.kind
      have y1 := hc.op
      have y2 := hc.rd
      have y3 := hc.rs1
      have y4 := hc.rs2
      have y5 := hc.imm
      have y6 := hc.label
      simp only [Nat.add_zero] at y0
      have lbs : bs < wr.heap.size := World.block_lt_of_cell? wr _ c0
      have lba : ba < wr.heap.size := World.block_lt_of_cell? wr _ ca
      have lb : b < wr.heap.size := World.block_lt_of_cell? wr _ y0
      have fza := M.out.ar.frozenAt k
      have HK := HL.out k hlk
      have HP := Lib.hid (show posF L far (k + 1) = posF L far k + szF (L.getD k default) (far.getD k false) from rfl)
      have HA := Lib.hid (show atF L far at' (k + 1) = (atF L far at' k).set k (posF L far k) from rfl)
      have HB := Lib.hid (show lbF L far lab (k + 1) = if (L.getD k default).kind = 2 then (lbF L far lab k).set (L.getD k default).label.toNat (posF L far k) else lbF L far lab k from rfl)
      have HSZ : Hid (∀ w' lab', Sh wp w' bs bf ba bl (.slice (some ⟨b, o, none⟩) L.length ci) L far (atF L far at' (k + 1)) lab' → Calls Try.prog 120 #[.pointer (some ⟨bs, 0, none⟩), .int .i64 (k : Int)] w' fun e w'' => e = .returned (.int .i64 (szF (L.getD k default) (far.getD k false))) ∧ Below w'.heap.size w' w'') := fun w' lab' h' => size_c h' k hlk
      have hs := szF_bd (L.getD k default) (far.getD k false)
      have hp := posF_bd L far k
      obtain ⟨hs1, hs2⟩ := hs
      obtain ⟨hp1, hp2⟩ := hp
      have hp3 : posF L far k ≤ 262144 := by omega
      clear hit hc hb
      generalize szF (L.getD k default) (far.getD k false) = sz at *
      generalize L.getD k default = X at *
      obtain ⟨kind, ⟨op, rd, rs1, rs2, imm⟩, label⟩ := X
      dsimp only at y0 y1 y2 y3 y4 y5 y6 HK HB
      by_cases h2 : kind = 2
      · obtain ⟨l, rfl, hl⟩ := HK (.inl h2)
        rw [if_pos h2, Int.toNat_natCast] at HB
        subst h2
        clear HK
        go_wp2_with fail
        obtain ⟨W1, hW1⟩ : ∃ W1, W1 = ((wr.setCell ⟨ba, k, none⟩ (.int .i64 (posF L far k))).alloc (.cells #[.int .i64 2, .int .i64 op, .int .i64 rd, .int .i64 rs1, .int .i64 rs2, .int .i64 imm, .int .i64 (l : Int)] 41)).drew := ⟨_, rfl⟩
        have M1 := Lib.hid ((M.out.setA k (posF L far k)).grow (Below.drew (below_a1 _ (.cells #[.int .i64 2, .int .i64 op, .int .i64 rd, .int .i64 rs1, .int .i64 rs2, .int .i64 imm, .int .i64 (l : Int)] 41))))
        rw [← hW1, ← HA.out] at M1
        have e0 := M1.out.c0
        have e3 := M1.out.c3
        have el := M1.out.cl (k := l) (by rw [lbF_len]; exact hl)
        have fl := M1.out.lr.frozenAt l
        rw [lbF_len] at e3
        have z6 : W1.cell? ⟨wr.heap.size, 6, none⟩ = some (.int .i64 (l : Int)) := by
          rw [hW1]
          have := cell_of_heap (heap_new (wr.setCell ⟨ba, k, none⟩ (.int .i64 (posF L far k))) (.cells #[.int .i64 2, .int .i64 op, .int .i64 rd, .int .i64 rs1, .int .i64 rs2, .int .i64 imm, .int .i64 (l : Int)] 41) wr.heap.size (by simp)) 6
          simpa using this
        have hK : Hid (bs ≠ bl ∧ wr.heap.size ≠ bl) := ⟨M1.out.nsl, by
          have : bl < wr.heap.size := World.block_lt_of_cell? wr _ (M.out.cl (k := l) (by rw [lbF_len]; exact hl))
          omega⟩
        have hm := M1.out.lmost
        rw [lbF_len] at hm
        refine wp_region_game (fun b => b = bs ∨ b = wr.heap.size) (by kernel_rfl) ?_
        show wpE _ _ _ _ _ _ _ (((wr.setCell ⟨ba, k, none⟩ (.int .i64 (posF L far k))).alloc (.cells #[.int .i64 2, .int .i64 op, .int .i64 rd, .int .i64 rs1, .int .i64 rs2, .int .i64 imm, .int .i64 (l : Int)] 41)).drew)
        rw [← hW1]
        clear hW1 y0 y1 y2 y3 y4 y5 y6 c0 c1 c2 ca fza
        refine E_mob2 0 _ rfl (by kernel_rfl) ?_
        simp only [List.getElem_toArray, List.getElem_cons_succ, List.getElem_cons_zero]
        go_big_quiet_step (fail)
        refine wpQuiet_nil ?_
        refine E_mob2 1 _ rfl (by kernel_rfl) ?_
        simp only [List.getElem_toArray, List.getElem_cons_succ, List.getElem_cons_zero]
        go_big_quiet_step (fail)
        refine wpQuiet_nil ?_
        refine E_mob2 2 _ rfl (by kernel_rfl) ?_
        simp only [List.getElem_toArray, List.getElem_cons_succ, List.getElem_cons_zero]
        go_big_quiet_step (fail)
        refine wpQuiet_nil ?_
        refine E_mob2 3 _ rfl (by kernel_rfl) ?_
        simp only [List.getElem_toArray, List.getElem_cons_succ, List.getElem_cons_zero]
        go_big_quiet_step (fail)
        refine wpQuiet_nil ?_
        refine E_mob2 4 _ rfl (by kernel_rfl) ?_
        simp only [List.getElem_toArray, List.getElem_cons_succ, List.getElem_cons_zero]
        go_big_quiet_step (fail)
        refine wpQuiet_nil ?_
        refine E_mob2 5 _ rfl (by kernel_rfl) ?_
        simp only [List.getElem_toArray, List.getElem_cons_succ, List.getElem_cons_zero]
        go_big_quiet_step (fail)
        refine wpQuiet_nil ?_
        refine E_mob2 6 _ rfl (by kernel_rfl) ?_
        simp only [List.getElem_toArray, List.getElem_cons_succ, List.getElem_cons_zero]
        go_big_quiet_step (fail)
        refine wpQuiet_nil ?_
        refine E_mob2 7 _ rfl (by kernel_rfl) ?_
        simp only [List.getElem_toArray, List.getElem_cons_succ, List.getElem_cons_zero]
        go_big_quiet_step (fail)
        refine wpQuiet_nil ?_
        refine E_loud1 8 _ rfl (by kernel_rfl) ?_
        simp only [List.getElem_toArray, List.getElem_cons_succ, List.getElem_cons_zero]
        go_wp2_with fail
        refine ⟨fun b o hb => by rw [World.cell?_setCell_other]; intro e; simp only [Addr.mk.injEq] at e; have := hK.out; rcases hb with rfl | rfl <;> simp_all, ?_⟩
        refine E_done (by kernel_rfl) ?_ _
        have M2 := M1.out.setL l (posF L far k)
        rw [← HB.out] at M2
        go_wp2_with fail
        refine (HSZ.out _ _ M2).mono ?_
        rintro e w3 ⟨rfl, hb3⟩
        have M3 := Lib.hid (M2.grow hb3)
        clear M2 hb3 HSZ e0 e3 el fl z6 hK
        go_wp2_with fail
        go_round
        case rel => exact ⟨k + 1, by omega, by go_num, by rw [HP.out], M3⟩
        case measure => first | (simp [intOf]; done) | (simp [intOf]; omega)
      · rw [if_neg h2] at HB
        have h2' : (kind == 2) = false := beq_eq_false_iff_ne.2 h2
        clear h2 HK
        go_wp2_with fail
        have M2 := (M.out.setA k (posF L far k)).grow (below_a1 _ (.cells #[.int .i64 kind, .int .i64 op, .int .i64 rd, .int .i64 rs1, .int .i64 rs2, .int .i64 imm, .int .i64 label] 41))
        rw [← HA.out] at M2
        refine (HSZ.out _ _ M2).mono ?_
        rintro e w3 ⟨rfl, hb3⟩
        have M3 := Lib.hid (M2.grow hb3)
        rw [← HB.out] at M3
        clear M2 hb3 HSZ y0 y1 y2 y3 y4 y5 y6 c0 c1 c2 ca fza
        go_wp2_with fail
        go_round
        case rel => exact ⟨k + 1, by omega, by go_num, by rw [HP.out], M3⟩
        case measure => first | (simp [intOf]; done) | (simp [intOf]; omega)
    · obtain rfl : k = L.length := by omega
      have c0 := M.out.c0
      go_wp2_with fail
      obtain ⟨W1, hW1⟩ : ∃ W1, W1 = wr.drew := ⟨_, rfl⟩
      have M1 := Lib.hid M.out.drew
      rw [← hW1] at M1
      have e0 := M1.out.c0
      have e2 := M1.out.c2
      have el := M1.out.ca (k := L.length) (Nat.lt_succ_self _)
      have fl := M1.out.ar.frozenAt L.length
      have HK : Hid (bs ≠ ba) := M1.out.nsa
      have HA := Lib.hid (show atF L far at' (L.length + 1) = (atF L far at' L.length).set L.length (posF L far L.length) from rfl)
      refine wp_region_game (fun b => b = bs) (by kernel_rfl) ?_
      show wpE _ _ _ _ _ _ _ wr.drew
      rw [← hW1]
      clear hW1 c0
      refine E_mob2 0 _ rfl (by kernel_rfl) ?_
      simp only [List.getElem_toArray, List.getElem_cons_succ, List.getElem_cons_zero]
      go_big_quiet_step (fail)
      refine wpQuiet_nil ?_
      refine E_mob2 1 _ rfl (by kernel_rfl) ?_
      simp only [List.getElem_toArray, List.getElem_cons_succ, List.getElem_cons_zero]
      go_big_quiet_step (fail)
      refine wpQuiet_nil ?_
      refine E_mob2 2 _ rfl (by kernel_rfl) ?_
      simp only [List.getElem_toArray, List.getElem_cons_succ, List.getElem_cons_zero]
      go_big_quiet_step (fail)
      refine wpQuiet_nil ?_
      refine E_mob2 3 _ rfl (by kernel_rfl) ?_
      simp only [List.getElem_toArray, List.getElem_cons_succ, List.getElem_cons_zero]
      go_big_quiet_step (fail)
      refine wpQuiet_nil ?_
      refine E_mob2 4 _ rfl (by kernel_rfl) ?_
      simp only [List.getElem_toArray, List.getElem_cons_succ, List.getElem_cons_zero]
      go_big_quiet_step (fail)
      refine wpQuiet_nil ?_
      refine E_mob2 5 _ rfl (by kernel_rfl) ?_
      simp only [List.getElem_toArray, List.getElem_cons_succ, List.getElem_cons_zero]
      go_big_quiet_step (fail)
      refine wpQuiet_nil ?_
      refine E_mob2 6 _ rfl (by kernel_rfl) ?_
      simp only [List.getElem_toArray, List.getElem_cons_succ, List.getElem_cons_zero]
      go_big_quiet_step (fail)
      refine wpQuiet_nil ?_
      refine E_mob2 7 _ rfl (by kernel_rfl) ?_
      simp only [List.getElem_toArray, List.getElem_cons_succ, List.getElem_cons_zero]
      go_big_quiet_step (fail)
      refine wpQuiet_nil ?_
      refine E_mob2 8 _ rfl (by kernel_rfl) ?_
      simp only [List.getElem_toArray, List.getElem_cons_succ, List.getElem_cons_zero]
      go_big_quiet_step (fail)
      refine wpQuiet_nil ?_
      refine E_mob2 9 _ rfl (by kernel_rfl) ?_
      simp only [List.getElem_toArray, List.getElem_cons_succ, List.getElem_cons_zero]
      go_big_quiet_step (fail)
      refine wpQuiet_nil ?_
      refine E_mob2 10 _ rfl (by kernel_rfl) ?_
      simp only [List.getElem_toArray, List.getElem_cons_succ, List.getElem_cons_zero]
      go_big_quiet_step (fail)
      refine wpQuiet_nil ?_
      refine E_loud1 11 _ rfl (by kernel_rfl) ?_
      simp only [List.getElem_toArray, List.getElem_cons_succ, List.getElem_cons_zero]
      go_wp2_with fail
      refine ⟨fun b o hb => by rw [World.cell?_setCell_other]; intro e; simp only [Addr.mk.injEq] at e; have := HK.out; subst hb; simp_all, ?_⟩
      refine E_done (by kernel_rfl) ?_ _
      have M2 := Lib.hid (M1.out.setA L.length (posF L far L.length))
      rw [← HA.out] at M2
      go_wp2_with fail
      go_end0
      exact ⟨⟨_, rfl⟩, M2.out⟩
end
end Go.Proofs.Ytedihiodmgnlpaa
