/-
  The contract of the sheet's insts: an item's instructions.
-/
import Derived.Test.YtedihiodmgnlpaaA11
set_option linter.all false
namespace Go.Proofs.Ytedihiodmgnlpaa
open Go.ChangeShapes Go.WideShapes Go.ChangeAt Go.RowKit Go.Maps
set_option maxHeartbeats 4000000
set_option linter.unusedVariables false
set_option maxRecDepth 20000

def insL (x : It) (f : Bool) (d : Int) : List IN :=
  if x.kind = 1 then [x.i] else if x.kind = 5 then constL x.i.rd (x.i.imm % 4294967296) else if x.kind = 2 then []
  else if x.kind = 3 ∧ f = false then [{ x.i with imm := d }] else if x.kind = 4 then [{ x.i with imm := d }]
  else [⟨contrF x.i.op, x.i.rd, x.i.rs1, x.i.rs2, 8⟩, ⟨3, 0, 0, 0, d - 4⟩]
def insB (x : It) (f : Bool) (d : Int) : Bool :=
  if x.kind = 4 then decide (-1048576 ≤ d) && decide (d ≤ 1048574) else if x.kind = 3 ∧ f = true then decide (-1048576 ≤ d - 4) && decide (d - 4 ≤ 1048574) else true
theorem keepBelow {S : Nat → Prop} {w w' : World} (hb : Below w.heap.size w w') (h : ∀ b, S b → b < w.heap.size) : Keep S w w' := fun b o hs => hb.cell (p := ⟨b, o, none⟩) (h b hs)
theorem own4 (w W : World) (A : Obj) (v0 v1 v2 v3 v4 d : Value) (t : TypeId) (dm : Nat) (hW : W = ((((w.alloc A).alloc (.cells #[v0, v1, v2, v3, v4] t)).drewN dm).setCell ⟨w.heap.size + 1, 4, none⟩ d).drew) :
    W.cell? ⟨w.heap.size + 1, 0, none⟩ = some v0 ∧ W.cell? ⟨w.heap.size + 1, 1, none⟩ = some v1 ∧ W.cell? ⟨w.heap.size + 1, 2, none⟩ = some v2 ∧ W.cell? ⟨w.heap.size + 1, 3, none⟩ = some v3 ∧ W.cell? ⟨w.heap.size + 1, 4, none⟩ = some d := by
  have base : ∀ j, (((w.alloc A).alloc (.cells #[v0, v1, v2, v3, v4] t)).drewN dm).cell? ⟨w.heap.size + 1, j, none⟩ = #[v0, v1, v2, v3, v4][j]? := fun j => cell_of_heap (heap_new (w.alloc A) _ _ (by simp)) j
  rw [hW]
  refine ⟨?_, ?_, ?_, ?_, ?_⟩
  · exact (World.cell?_setCell_other _ _ _ _ (by simp)).trans (base 0)
  · exact (World.cell?_setCell_other _ _ _ _ (by simp)).trans (base 1)
  · exact (World.cell?_setCell_other _ _ _ _ (by simp)).trans (base 2)
  · exact (World.cell?_setCell_other _ _ _ _ (by simp)).trans (base 3)
  · exact World.cell?_setCell_same' _ _ _ (by rw [base]; rfl)
theorem own04 (w W : World) (A : Obj) (v0 v1 v2 v3 v4 c d u0 u1 u2 u3 u4 : Value) (t t' : TypeId) (dm : Nat) (hW : W = ((((((w.alloc A).alloc (.cells #[v0, v1, v2, v3, v4] t)).drewN dm).setCell ⟨w.heap.size + 1, 0, none⟩ c).setCell ⟨w.heap.size + 1, 4, none⟩ d).alloc (.cells #[u0, u1, u2, u3, u4] t')).drew) :
    (W.cell? ⟨w.heap.size + 1, 0, none⟩ = some c ∧ W.cell? ⟨w.heap.size + 1, 1, none⟩ = some v1 ∧ W.cell? ⟨w.heap.size + 1, 2, none⟩ = some v2 ∧ W.cell? ⟨w.heap.size + 1, 3, none⟩ = some v3 ∧ W.cell? ⟨w.heap.size + 1, 4, none⟩ = some d) ∧
    W.cell? ⟨w.heap.size + 1 + 1, 0, none⟩ = some u0 ∧ W.cell? ⟨w.heap.size + 1 + 1, 1, none⟩ = some u1 ∧ W.cell? ⟨w.heap.size + 1 + 1, 2, none⟩ = some u2 ∧ W.cell? ⟨w.heap.size + 1 + 1, 3, none⟩ = some u3 ∧ W.cell? ⟨w.heap.size + 1 + 1, 4, none⟩ = some u4 := by
  have base : ∀ j, (((w.alloc A).alloc (.cells #[v0, v1, v2, v3, v4] t)).drewN dm).cell? ⟨w.heap.size + 1, j, none⟩ = #[v0, v1, v2, v3, v4][j]? := fun j => cell_of_heap (heap_new (w.alloc A) _ _ (by simp)) j
  have b2 : ∀ j, W.cell? ⟨w.heap.size + 1 + 1, j, none⟩ = #[u0, u1, u2, u3, u4][j]? := fun j => by rw [hW]; exact cell_of_heap (heap_new _ _ _ (by simp)) j
  have b1 : ∀ j, W.cell? ⟨w.heap.size + 1, j, none⟩ = (((((w.alloc A).alloc (.cells #[v0, v1, v2, v3, v4] t)).drewN dm).setCell ⟨w.heap.size + 1, 0, none⟩ c).setCell ⟨w.heap.size + 1, 4, none⟩ d).cell? ⟨w.heap.size + 1, j, none⟩ := fun j => by
    rw [hW]
    exact (below_a1 _ _).cell (p := ⟨w.heap.size + 1, j, none⟩) (by simp)
  refine ⟨⟨?_, ?_, ?_, ?_, ?_⟩, b2 0, b2 1, b2 2, b2 3, b2 4⟩
  · rw [b1]; exact (World.cell?_setCell_other _ _ _ _ (by simp)).trans (World.cell?_setCell_same' _ _ _ (by rw [base]; rfl))
  · rw [b1]; exact (World.cell?_setCell_other _ _ _ _ (by simp)).trans ((World.cell?_setCell_other _ _ _ _ (by simp)).trans (base 1))
  · rw [b1]; exact (World.cell?_setCell_other _ _ _ _ (by simp)).trans ((World.cell?_setCell_other _ _ _ _ (by simp)).trans (base 2))
  · rw [b1]; exact (World.cell?_setCell_other _ _ _ _ (by simp)).trans ((World.cell?_setCell_other _ _ _ _ (by simp)).trans (base 3))
  · rw [b1]; exact World.cell?_setCell_same' _ _ _ (by rw [World.cell?_setCell_other _ _ _ _ (by simp), base]; rfl)
section
variable {wp w : World} {bs bf ba bl : Nat} {vi : Value} {L : List It} {far : List Bool} {at' lab : List Int}
theorem insts_c (h : Sh wp w bs bf ba bl vi L far at' lab) (k : Nat) (hk : k < L.length) (hv : itemF (L.getD k default) = true) (hL : LabOk L lab.length) (d : Int) (hd : lab.getD (L.getD k default).label.toNat 0 - at'.getD k 0 = d) (hd1 : -1000000000 ≤ d) (hd2 : d ≤ 1000000000) (ha1 : 0 ≤ at'.getD k 0) (ha2 : at'.getD k 0 ≤ 1000000000) :
    Calls Try.prog 42 #[.pointer (some ⟨bs, 0, none⟩), .int .i64 (k : Int)] w fun e w' => ∃ v, e = .returned (.tuple #[v, .bool (insB (L.getD k default) (far.getD k false) d)]) ∧ RdN w' v (insL (L.getD k default) (far.getD k false) d) ∧ FrV w v ∧ Below w.heap.size w w' := by
  have c0 := h.c0
  have c1 := h.c1
  have c2 := h.c2
  have cf := h.cf hk
  have ca := h.ca (show k < L.length + 1 by omega)
  have hn := h.most
  have lbs : bs < w.heap.size := World.block_lt_of_cell? w _ c0
  have lba : ba < w.heap.size := World.block_lt_of_cell? w _ ca
  have lbf : bf < w.heap.size := World.block_lt_of_cell? w _ cf
  have hK := hL k hk
  have HW : Hid (∀ w' (l : Nat) f e, Below w.heap.size w w' → (L.getD k default).label = (l : Int) → l < lab.length → lab.getD l 0 - f = e → -1000000004 ≤ e → e ≤ 1000000004 → Calls Try.prog 80 #[.pointer (some ⟨bs, 0, none⟩), .int .i64 (k : Int), .int .i64 f] w' fun r w'' => r = .returned (.int .i64 e) ∧ ∃ m, w'.drewN m = w'') := fun w' l f e hb h1 h2 h3 h4 h5 => way_c (h.grow hb) k hk l h1 h2 f e h3 (by omega) (by omega)
  obtain ⟨ai, ci, rfl, hit⟩ := h.it
  obtain ⟨b, o, rfl, hb, hc⟩ := hit k hk
  have y0 := hc.kind
  have y1 := hc.op
  have y2 := hc.rd
  have y3 := hc.rs1
  have y4 := hc.rs2
  have y5 := hc.imm
  have y6 := hc.label
  simp only [Nat.add_zero] at y0
  have lb : b < w.heap.size := World.block_lt_of_cell? w _ y0
  clear h hit hc hb hL
  generalize L.getD k default = X at *
  generalize far.getD k false = f at *
  generalize at'.getD k 0 = p at *
  generalize L.length = n at *
  obtain ⟨kind, ⟨op, rd, rs1, rs2, imm⟩, label⟩ := X
  dsimp only at y0 y1 y2 y3 y4 y5 y6 hK HW hd
  have HI : Hid (insL ⟨kind, ⟨op, rd, rs1, rs2, imm⟩, label⟩ f d = if kind = 1 then [⟨op, rd, rs1, rs2, imm⟩] else if kind = 5 then constL rd (imm % 4294967296) else if kind = 2 then []
    else if kind = 3 ∧ f = false then [⟨op, rd, rs1, rs2, d⟩] else if kind = 4 then [⟨op, rd, rs1, rs2, d⟩] else [⟨contrF op, rd, rs1, rs2, 8⟩, ⟨3, 0, 0, 0, d - 4⟩]) := rfl
  have HB : Hid (insB ⟨kind, ⟨op, rd, rs1, rs2, imm⟩, label⟩ f d = if kind = 4 then decide (-1048576 ≤ d) && decide (d ≤ 1048574) else if kind = 3 ∧ f = true then decide (-1048576 ≤ d - 4) && decide (d - 4 ≤ 1048574) else true) := rfl
  have HC : Hid (∀ w, Calls Try.prog 81 #[.int .i64 rd, .int .u32 (imm % 4294967296)] w fun e w' => ∃ v, e = .returned v ∧ RdN w' v (constL rd (imm % 4294967296)) ∧ FrV w v ∧ Below w.heap.size w w') := fun w => consts_c rd (imm % 4294967296) w (by omega) (by omega)
  have hkd : kind = 1 ∨ kind = 2 ∨ kind = 3 ∨ kind = 4 ∨ kind = 5 := by
    unfold itemF at hv
    dsimp only at hv
    by_cases h1 : kind = 1
    · exact .inl h1
    · by_cases h2 : kind = 2
      · exact .inr (.inl h2)
      · by_cases h3 : kind = 3
        · exact .inr (.inr (.inl h3))
        · by_cases h4 : kind = 4
          · exact .inr (.inr (.inr (.inl h4)))
          · by_cases h5 : kind = 5
            · exact .inr (.inr (.inr (.inr h5)))
            · simp [h1, h2, h3, h4, h5] at hv
  have HCT := Lib.hid (fun w => contr_c op w)
  clear hv
  have HD := Lib.hid hd
  clear hd
  rcases hkd with rfl | rfl | rfl | rfl | rfl
  · have HI2 : Hid (_ = ([⟨op, rd, rs1, rs2, imm⟩] : List IN)) := HI
    clear HI
    have HB2 : Hid (_ = true) := HB
    clear HB
    clear HW hK HC HCT HD
    go_enter Try.func42, Try.ntmps42
    go_wp2_with fail
    go_ret2
    rw [HB2.out, HI2.out]
    exact ⟨_, rfl, RdN.one ⟨op, rd, rs1, rs2, imm⟩ (by simp), FrV.mk (by omega), below_a3 _ _ _ _⟩
  · have HI2 : Hid (_ = []) := HI
    clear HI
    have HB2 : Hid (_ = true) := HB
    clear HB
    clear HW hK HC HCT HD
    go_enter Try.func42, Try.ntmps42
    go_wp2_with fail
    go_ret2
    rw [HB2.out, HI2.out]
    exact ⟨_, rfl, RdN.nil _, FrV.nil _, below_a2 _ _ _⟩
  · obtain ⟨l, rfl, hl⟩ := hK (.inr (.inl rfl))
    clear hK HC
    cases f
    · have HI2 : Hid (_ = ([⟨op, rd, rs1, rs2, d⟩] : List IN)) := HI
      clear HI
      have HB2 : Hid (_ = true) := HB
      clear HB
      go_enter Try.func42, Try.ntmps42
      go_wp2_with (go_at_call 80; refine (HW.out _ l p d (below_a2 _ _ _) rfl hl HD.out (by omega) (by omega)).mono ?_; rintro e w3 ⟨rfl, dm, rfl⟩)
      go_ret2
      rw [HB2.out, HI2.out]
      exact ⟨_, rfl, RdN.one ⟨op, rd, rs1, rs2, d⟩ (by simp), FrV.mk (by omega), Below.alloc (Below.setCell (below_drewN' (below_a2 _ _ _) dm) (p := ⟨w.heap.size + 1, 4, none⟩) (by simp) _) (by simp; omega) _⟩
    · have HI2 : Hid (_ = ([⟨contrF op, rd, rs1, rs2, 8⟩, ⟨3, 0, 0, 0, d - 4⟩] : List IN)) := HI
      clear HI
      have HB2 : Hid (_ = (decide (-1048576 ≤ d - 4) && decide (d - 4 ≤ 1048574))) := HB
      clear HB
      have HD2 : Hid (lab.getD l 0 - (p + 4) = d - 4) := by show _ = _; have := HD.out; rw [Int.toNat_natCast] at this; omega
      clear HD
      obtain ⟨d', hd'⟩ : ∃ d', d' = d - 4 := ⟨_, rfl⟩
      rw [← hd'] at HD2 HI2 HB2
      have hd3 : -1000000004 ≤ d' := by omega
      have hd4 : d' ≤ 1000000000 := by omega
      clear hd'
      go_enter Try.func42, Try.ntmps42
      go_wp2_with (first | (go_at_call 80; refine (HW.out _ l (p + 4) d' (below_a2 _ _ _) rfl hl HD2.out (by omega) (by omega)).mono ?_; rintro e w3 ⟨rfl, dm, rfl⟩) | (go_at_call 20; refine (HCT.out _).mono ?_; rintro e w4 ⟨rfl, rfl⟩))
      obtain ⟨W1, hW1⟩ : ∃ W1, W1 = ((((((w.alloc (.cells #[.int .i64 3, .int .i64 op, .int .i64 rd, .int .i64 rs1, .int .i64 rs2, .int .i64 imm, .int .i64 (l : Int)] 41)).alloc (.cells #[.int .i64 op, .int .i64 rd, .int .i64 rs1, .int .i64 rs2, .int .i64 imm] 39)).drewN dm).setCell ⟨w.heap.size + 1, 0, none⟩ (.int .i64 (contrF op))).setCell ⟨w.heap.size + 1, 4, none⟩ (.int .i64 8)).alloc (.cells #[.int .i64 3, .int .i64 0, .int .i64 0, .int .i64 0, .int .i64 d'] 39)).drew := ⟨_, rfl⟩
      have HBW : Hid (Below w.heap.size w W1) := by rw [hW1]; exact Below.drew (Below.alloc (Below.setCell (Below.setCell (below_drewN' (below_a2 w (.cells #[.int .i64 3, .int .i64 op, .int .i64 rd, .int .i64 rs1, .int .i64 rs2, .int .i64 imm, .int .i64 (l : Int)] 41) (.cells #[.int .i64 op, .int .i64 rd, .int .i64 rs1, .int .i64 rs2, .int .i64 imm] 39)) dm) (p := ⟨w.heap.size + 1, 0, none⟩) (by simp) (.int .i64 (contrF op))) (p := ⟨w.heap.size + 1, 4, none⟩) (by simp) (.int .i64 8)) (by simp; omega) (.cells #[.int .i64 3, .int .i64 0, .int .i64 0, .int .i64 0, .int .i64 d'] 39))
      obtain ⟨⟨e0, e1, e2, e3, e4⟩, e5, e6, e7, e8, e9⟩ := own04 _ _ _ _ _ _ _ _ _ _ _ _ _ _ _ _ _ _ hW1
      have le1 : w.heap.size + 1 < W1.heap.size := World.block_lt_of_cell? W1 _ e0
      have le2 : w.heap.size + 1 + 1 < W1.heap.size := World.block_lt_of_cell? W1 _ e5
      refine wp_region_game (fun b => b = w.heap.size + 1 ∨ b = w.heap.size + 1 + 1) (by kernel_rfl) ?_
      show wpE _ _ _ _ _ _ _ (((((((w.alloc (.cells #[.int .i64 3, .int .i64 op, .int .i64 rd, .int .i64 rs1, .int .i64 rs2, .int .i64 imm, .int .i64 (l : Int)] 41)).alloc (.cells #[.int .i64 op, .int .i64 rd, .int .i64 rs1, .int .i64 rs2, .int .i64 imm] 39)).drewN dm).setCell ⟨w.heap.size + 1, 0, none⟩ (.int .i64 (contrF op))).setCell ⟨w.heap.size + 1, 4, none⟩ (.int .i64 8)).alloc (.cells #[.int .i64 3, .int .i64 0, .int .i64 0, .int .i64 0, .int .i64 d'] 39)).drew)
      rw [← hW1]
      clear hW1 y0 y1 y2 y3 y4 y5 y6 c0 c1 c2 ca cf HW HCT
      by_cases q1 : d' < -1048576
      · have g1 : decide ((-1048576 : Int) ≤ d') = false := decide_eq_false (by omega)
        rw [g1, Bool.false_and] at HB2
        refine E_mob2 0 _ rfl (by kernel_rfl) ?_
        simp only [List.getElem_toArray, List.getElem_cons_succ, List.getElem_cons_zero]
        go_big_quiet_step (fail)
        refine wpQuiet_nil ?_
        refine E_mob2 1 _ rfl (by kernel_rfl) ?_
        simp only [List.getElem_toArray, List.getElem_cons_succ, List.getElem_cons_zero]
        go_big_quiet_step (fail)
        refine wpQuiet_nil ?_
        refine E_mob2 3 _ rfl (by kernel_rfl) ?_
        simp only [List.getElem_toArray, List.getElem_cons_succ, List.getElem_cons_zero]
        go_big_quiet_step (fail)
        refine wpQuiet_nil ?_
        refine E_mob2 4 _ rfl (by kernel_rfl) ?_
        simp only [List.getElem_toArray, List.getElem_cons_succ, List.getElem_cons_zero]
        go_big_quiet_step (fail)
        refine wpQuiet_nil ?_
        refine E_mob2 5 _ rfl (by kernel_rfl) ?_
        simp only [List.getElem_toArray, List.getElem_cons_succ, List.getElem_cons_zero]
        go_big_quiet_step (fail)
        refine wpQuiet_nil ?_
        refine E_mob2 6 _ rfl (by kernel_rfl) ?_
        simp only [List.getElem_toArray, List.getElem_cons_succ, List.getElem_cons_zero]
        go_big_quiet_step (fail)
        refine wpQuiet_nil ?_
        refine E_mob2 7 _ rfl (by kernel_rfl) ?_
        simp only [List.getElem_toArray, List.getElem_cons_succ, List.getElem_cons_zero]
        go_big_quiet_step (fail)
        refine wpQuiet_nil ?_
        refine E_mob2 8 _ rfl (by kernel_rfl) ?_
        simp only [List.getElem_toArray, List.getElem_cons_succ, List.getElem_cons_zero]
        go_big_quiet_step (fail)
        refine wpQuiet_nil ?_
        refine E_mob2 9 _ rfl (by kernel_rfl) ?_
        simp only [List.getElem_toArray, List.getElem_cons_succ, List.getElem_cons_zero]
        go_big_quiet_step (fail)
        refine wpQuiet_nil ?_
        refine E_mob2 10 _ rfl (by kernel_rfl) ?_
        simp only [List.getElem_toArray, List.getElem_cons_succ, List.getElem_cons_zero]
        go_big_quiet_step (fail)
        refine wpQuiet_nil ?_
        refine E_loud1 2 _ rfl (by kernel_rfl) ?_
        simp only [List.getElem_toArray, List.getElem_cons_succ, List.getElem_cons_zero]
        go_wp2_with fail
        refine ⟨keepBelow (below_a1 _ _) (fun b hb => by rcases hb with rfl | rfl <;> assumption), ?_⟩
        refine E_mob2 11 _ rfl (by kernel_rfl) ?_
        simp only [List.getElem_toArray, List.getElem_cons_succ, List.getElem_cons_zero]
        go_big_quiet_step (fail)
        refine wpQuiet_nil ?_
        refine E_mob2 12 _ rfl (by kernel_rfl) ?_
        simp only [List.getElem_toArray, List.getElem_cons_succ, List.getElem_cons_zero]
        go_big_quiet_step (fail)
        refine wpQuiet_nil ?_
        refine E_done (by kernel_rfl) ?_ _
        go_wp2_with fail
        go_ret2
        rw [HB2.out, HI2.out]
        exact ⟨_, rfl, RdN.two ⟨contrF op, rd, rs1, rs2, 8⟩ ⟨3, 0, 0, 0, d'⟩ rfl, FrV.mk (by omega), HBW.out.trans ((below_a1 _ _).mono (by omega))⟩
      · have g1 : decide ((-1048576 : Int) ≤ d') = true := decide_eq_true (by omega)
        rw [g1, Bool.true_and] at HB2
        by_cases q2 : 1048574 < d'
        · have g2 : decide (d' ≤ 1048574) = false := decide_eq_false (by omega)
          rw [g2] at HB2
          refine E_mob2 0 _ rfl (by kernel_rfl) ?_
          simp only [List.getElem_toArray, List.getElem_cons_succ, List.getElem_cons_zero]
          go_big_quiet_step (fail)
          refine wpQuiet_nil ?_
          refine E_mob2 1 _ rfl (by kernel_rfl) ?_
          simp only [List.getElem_toArray, List.getElem_cons_succ, List.getElem_cons_zero]
          go_big_quiet_step (fail)
          refine wpQuiet_nil ?_
          refine E_mob2 3 _ rfl (by kernel_rfl) ?_
          simp only [List.getElem_toArray, List.getElem_cons_succ, List.getElem_cons_zero]
          go_big_quiet_step (fail)
          refine wpQuiet_nil ?_
          refine E_mob2 4 _ rfl (by kernel_rfl) ?_
          simp only [List.getElem_toArray, List.getElem_cons_succ, List.getElem_cons_zero]
          go_big_quiet_step (fail)
          refine wpQuiet_nil ?_
          refine E_mob2 5 _ rfl (by kernel_rfl) ?_
          simp only [List.getElem_toArray, List.getElem_cons_succ, List.getElem_cons_zero]
          go_big_quiet_step (fail)
          refine wpQuiet_nil ?_
          refine E_mob2 6 _ rfl (by kernel_rfl) ?_
          simp only [List.getElem_toArray, List.getElem_cons_succ, List.getElem_cons_zero]
          go_big_quiet_step (fail)
          refine wpQuiet_nil ?_
          refine E_mob2 7 _ rfl (by kernel_rfl) ?_
          simp only [List.getElem_toArray, List.getElem_cons_succ, List.getElem_cons_zero]
          go_big_quiet_step (fail)
          refine wpQuiet_nil ?_
          refine E_mob2 8 _ rfl (by kernel_rfl) ?_
          simp only [List.getElem_toArray, List.getElem_cons_succ, List.getElem_cons_zero]
          go_big_quiet_step (fail)
          refine wpQuiet_nil ?_
          refine E_mob2 9 _ rfl (by kernel_rfl) ?_
          simp only [List.getElem_toArray, List.getElem_cons_succ, List.getElem_cons_zero]
          go_big_quiet_step (fail)
          refine wpQuiet_nil ?_
          refine E_mob2 10 _ rfl (by kernel_rfl) ?_
          simp only [List.getElem_toArray, List.getElem_cons_succ, List.getElem_cons_zero]
          go_big_quiet_step (fail)
          refine wpQuiet_nil ?_
          refine E_loud1 2 _ rfl (by kernel_rfl) ?_
          simp only [List.getElem_toArray, List.getElem_cons_succ, List.getElem_cons_zero]
          go_wp2_with fail
          refine ⟨keepBelow (below_a1 _ _) (fun b hb => by rcases hb with rfl | rfl <;> assumption), ?_⟩
          refine E_mob2 11 _ rfl (by kernel_rfl) ?_
          simp only [List.getElem_toArray, List.getElem_cons_succ, List.getElem_cons_zero]
          go_big_quiet_step (fail)
          refine wpQuiet_nil ?_
          refine E_mob2 12 _ rfl (by kernel_rfl) ?_
          simp only [List.getElem_toArray, List.getElem_cons_succ, List.getElem_cons_zero]
          go_big_quiet_step (fail)
          refine wpQuiet_nil ?_
          refine E_done (by kernel_rfl) ?_ _
          go_wp2_with fail
          go_ret2
          rw [HB2.out, HI2.out]
          exact ⟨_, rfl, RdN.two ⟨contrF op, rd, rs1, rs2, 8⟩ ⟨3, 0, 0, 0, d'⟩ rfl, FrV.mk (by omega), HBW.out.trans ((below_a1 _ _).mono (by omega))⟩
        · have g2 : decide (d' ≤ 1048574) = true := decide_eq_true (by omega)
          rw [g2] at HB2
          refine E_mob2 0 _ rfl (by kernel_rfl) ?_
          simp only [List.getElem_toArray, List.getElem_cons_succ, List.getElem_cons_zero]
          go_big_quiet_step (fail)
          refine wpQuiet_nil ?_
          refine E_mob2 1 _ rfl (by kernel_rfl) ?_
          simp only [List.getElem_toArray, List.getElem_cons_succ, List.getElem_cons_zero]
          go_big_quiet_step (fail)
          refine wpQuiet_nil ?_
          refine E_mob2 3 _ rfl (by kernel_rfl) ?_
          simp only [List.getElem_toArray, List.getElem_cons_succ, List.getElem_cons_zero]
          go_big_quiet_step (fail)
          refine wpQuiet_nil ?_
          refine E_mob2 4 _ rfl (by kernel_rfl) ?_
          simp only [List.getElem_toArray, List.getElem_cons_succ, List.getElem_cons_zero]
          go_big_quiet_step (fail)
          refine wpQuiet_nil ?_
          refine E_mob2 5 _ rfl (by kernel_rfl) ?_
          simp only [List.getElem_toArray, List.getElem_cons_succ, List.getElem_cons_zero]
          go_big_quiet_step (fail)
          refine wpQuiet_nil ?_
          refine E_mob2 6 _ rfl (by kernel_rfl) ?_
          simp only [List.getElem_toArray, List.getElem_cons_succ, List.getElem_cons_zero]
          go_big_quiet_step (fail)
          refine wpQuiet_nil ?_
          refine E_mob2 7 _ rfl (by kernel_rfl) ?_
          simp only [List.getElem_toArray, List.getElem_cons_succ, List.getElem_cons_zero]
          go_big_quiet_step (fail)
          refine wpQuiet_nil ?_
          refine E_mob2 8 _ rfl (by kernel_rfl) ?_
          simp only [List.getElem_toArray, List.getElem_cons_succ, List.getElem_cons_zero]
          go_big_quiet_step (fail)
          refine wpQuiet_nil ?_
          refine E_mob2 9 _ rfl (by kernel_rfl) ?_
          simp only [List.getElem_toArray, List.getElem_cons_succ, List.getElem_cons_zero]
          go_big_quiet_step (fail)
          refine wpQuiet_nil ?_
          refine E_mob2 10 _ rfl (by kernel_rfl) ?_
          simp only [List.getElem_toArray, List.getElem_cons_succ, List.getElem_cons_zero]
          go_big_quiet_step (fail)
          refine wpQuiet_nil ?_
          refine E_loud1 2 _ rfl (by kernel_rfl) ?_
          simp only [List.getElem_toArray, List.getElem_cons_succ, List.getElem_cons_zero]
          go_wp2_with fail
          refine ⟨keepBelow (below_a1 _ _) (fun b hb => by rcases hb with rfl | rfl <;> assumption), ?_⟩
          refine E_mob2 11 _ rfl (by kernel_rfl) ?_
          simp only [List.getElem_toArray, List.getElem_cons_succ, List.getElem_cons_zero]
          go_big_quiet_step (fail)
          refine wpQuiet_nil ?_
          refine E_mob2 12 _ rfl (by kernel_rfl) ?_
          simp only [List.getElem_toArray, List.getElem_cons_succ, List.getElem_cons_zero]
          go_big_quiet_step (fail)
          refine wpQuiet_nil ?_
          refine E_done (by kernel_rfl) ?_ _
          go_wp2_with fail
          go_ret2
          rw [HB2.out, HI2.out]
          exact ⟨_, rfl, RdN.two ⟨contrF op, rd, rs1, rs2, 8⟩ ⟨3, 0, 0, 0, d'⟩ rfl, FrV.mk (by omega), HBW.out.trans ((below_a1 _ _).mono (by omega))⟩
  · obtain ⟨l, rfl, hl⟩ := hK (.inr (.inr rfl))
    clear hK HC HCT
    have HI2 : Hid (_ = ([⟨op, rd, rs1, rs2, d⟩] : List IN)) := HI
    clear HI
    go_enter Try.func42, Try.ntmps42
    go_wp2_with (go_at_call 80; refine (HW.out _ l p d (below_a2 _ _ _) rfl hl HD.out (by omega) (by omega)).mono ?_; rintro e w3 ⟨rfl, dm, rfl⟩)
    have HB2 : Hid (_ = (decide (-1048576 ≤ d) && decide (d ≤ 1048574))) := HB
    clear HB
    obtain ⟨W1, hW1⟩ : ∃ W1, W1 = ((((w.alloc (.cells #[.int .i64 4, .int .i64 op, .int .i64 rd, .int .i64 rs1, .int .i64 rs2, .int .i64 imm, .int .i64 (l : Int)] 41)).alloc (.cells #[.int .i64 op, .int .i64 rd, .int .i64 rs1, .int .i64 rs2, .int .i64 imm] 39)).drewN dm).setCell ⟨w.heap.size + 1, 4, none⟩ (.int .i64 d)).drew := ⟨_, rfl⟩
    have HBW : Hid (Below w.heap.size w W1) := by rw [hW1]; exact Below.drew (Below.setCell (below_drewN' (below_a2 w (.cells #[.int .i64 4, .int .i64 op, .int .i64 rd, .int .i64 rs1, .int .i64 rs2, .int .i64 imm, .int .i64 (l : Int)] 41) (.cells #[.int .i64 op, .int .i64 rd, .int .i64 rs1, .int .i64 rs2, .int .i64 imm] 39)) dm) (p := ⟨w.heap.size + 1, 4, none⟩) (by simp) (.int .i64 d))
    obtain ⟨e0, e1, e2, e3, e4⟩ := own4 _ _ _ _ _ _ _ _ _ _ _ hW1
    have le1 : w.heap.size + 1 < W1.heap.size := World.block_lt_of_cell? W1 _ e0
    refine wp_region_game (fun b => b = w.heap.size + 1) (by kernel_rfl) ?_
    show wpE _ _ _ _ _ _ _ (((((w.alloc (.cells #[.int .i64 4, .int .i64 op, .int .i64 rd, .int .i64 rs1, .int .i64 rs2, .int .i64 imm, .int .i64 (l : Int)] 41)).alloc (.cells #[.int .i64 op, .int .i64 rd, .int .i64 rs1, .int .i64 rs2, .int .i64 imm] 39)).drewN dm).setCell ⟨w.heap.size + 1, 4, none⟩ (.int .i64 d)).drew)
    rw [← hW1]
    clear hW1 y0 y1 y2 y3 y4 y5 y6 c0 c1 c2 ca cf HW
    by_cases q1 : d < -1048576
    · have g1 : decide ((-1048576 : Int) ≤ d) = false := decide_eq_false (by omega)
      rw [g1, Bool.false_and] at HB2
      refine E_mob2 0 _ rfl (by kernel_rfl) ?_
      simp only [List.getElem_toArray, List.getElem_cons_succ, List.getElem_cons_zero]
      go_big_quiet_step (fail)
      refine wpQuiet_nil ?_
      refine E_mob2 2 _ rfl (by kernel_rfl) ?_
      simp only [List.getElem_toArray, List.getElem_cons_succ, List.getElem_cons_zero]
      go_big_quiet_step (fail)
      refine wpQuiet_nil ?_
      refine E_mob2 3 _ rfl (by kernel_rfl) ?_
      simp only [List.getElem_toArray, List.getElem_cons_succ, List.getElem_cons_zero]
      go_big_quiet_step (fail)
      refine wpQuiet_nil ?_
      refine E_mob2 4 _ rfl (by kernel_rfl) ?_
      simp only [List.getElem_toArray, List.getElem_cons_succ, List.getElem_cons_zero]
      go_big_quiet_step (fail)
      refine wpQuiet_nil ?_
      refine E_mob2 5 _ rfl (by kernel_rfl) ?_
      simp only [List.getElem_toArray, List.getElem_cons_succ, List.getElem_cons_zero]
      go_big_quiet_step (fail)
      refine wpQuiet_nil ?_
      refine E_mob2 6 _ rfl (by kernel_rfl) ?_
      simp only [List.getElem_toArray, List.getElem_cons_succ, List.getElem_cons_zero]
      go_big_quiet_step (fail)
      refine wpQuiet_nil ?_
      refine E_mob2 7 _ rfl (by kernel_rfl) ?_
      simp only [List.getElem_toArray, List.getElem_cons_succ, List.getElem_cons_zero]
      go_big_quiet_step (fail)
      refine wpQuiet_nil ?_
      refine E_mob2 8 _ rfl (by kernel_rfl) ?_
      simp only [List.getElem_toArray, List.getElem_cons_succ, List.getElem_cons_zero]
      go_big_quiet_step (fail)
      refine wpQuiet_nil ?_
      refine E_mob2 9 _ rfl (by kernel_rfl) ?_
      simp only [List.getElem_toArray, List.getElem_cons_succ, List.getElem_cons_zero]
      go_big_quiet_step (fail)
      refine wpQuiet_nil ?_
      refine E_loud1 1 _ rfl (by kernel_rfl) ?_
      simp only [List.getElem_toArray, List.getElem_cons_succ, List.getElem_cons_zero]
      go_wp2_with fail
      refine ⟨keepBelow (below_a1 _ _) (fun b hb => by subst hb; assumption), ?_⟩
      refine E_mob2 10 _ rfl (by kernel_rfl) ?_
      simp only [List.getElem_toArray, List.getElem_cons_succ, List.getElem_cons_zero]
      go_big_quiet_step (fail)
      refine wpQuiet_nil ?_
      refine E_mob2 11 _ rfl (by kernel_rfl) ?_
      simp only [List.getElem_toArray, List.getElem_cons_succ, List.getElem_cons_zero]
      go_big_quiet_step (fail)
      refine wpQuiet_nil ?_
      refine E_done (by kernel_rfl) ?_ _
      go_wp2_with fail
      go_ret2
      rw [HB2.out, HI2.out]
      exact ⟨_, rfl, RdN.one ⟨op, rd, rs1, rs2, d⟩ rfl, FrV.mk (by omega), HBW.out.trans ((below_a1 _ _).mono (by omega))⟩
    · have g1 : decide ((-1048576 : Int) ≤ d) = true := decide_eq_true (by omega)
      rw [g1, Bool.true_and] at HB2
      by_cases q2 : 1048574 < d
      · have g2 : decide (d ≤ 1048574) = false := decide_eq_false (by omega)
        rw [g2] at HB2
        refine E_mob2 0 _ rfl (by kernel_rfl) ?_
        simp only [List.getElem_toArray, List.getElem_cons_succ, List.getElem_cons_zero]
        go_big_quiet_step (fail)
        refine wpQuiet_nil ?_
        refine E_mob2 2 _ rfl (by kernel_rfl) ?_
        simp only [List.getElem_toArray, List.getElem_cons_succ, List.getElem_cons_zero]
        go_big_quiet_step (fail)
        refine wpQuiet_nil ?_
        refine E_mob2 3 _ rfl (by kernel_rfl) ?_
        simp only [List.getElem_toArray, List.getElem_cons_succ, List.getElem_cons_zero]
        go_big_quiet_step (fail)
        refine wpQuiet_nil ?_
        refine E_mob2 4 _ rfl (by kernel_rfl) ?_
        simp only [List.getElem_toArray, List.getElem_cons_succ, List.getElem_cons_zero]
        go_big_quiet_step (fail)
        refine wpQuiet_nil ?_
        refine E_mob2 5 _ rfl (by kernel_rfl) ?_
        simp only [List.getElem_toArray, List.getElem_cons_succ, List.getElem_cons_zero]
        go_big_quiet_step (fail)
        refine wpQuiet_nil ?_
        refine E_mob2 6 _ rfl (by kernel_rfl) ?_
        simp only [List.getElem_toArray, List.getElem_cons_succ, List.getElem_cons_zero]
        go_big_quiet_step (fail)
        refine wpQuiet_nil ?_
        refine E_mob2 7 _ rfl (by kernel_rfl) ?_
        simp only [List.getElem_toArray, List.getElem_cons_succ, List.getElem_cons_zero]
        go_big_quiet_step (fail)
        refine wpQuiet_nil ?_
        refine E_mob2 8 _ rfl (by kernel_rfl) ?_
        simp only [List.getElem_toArray, List.getElem_cons_succ, List.getElem_cons_zero]
        go_big_quiet_step (fail)
        refine wpQuiet_nil ?_
        refine E_mob2 9 _ rfl (by kernel_rfl) ?_
        simp only [List.getElem_toArray, List.getElem_cons_succ, List.getElem_cons_zero]
        go_big_quiet_step (fail)
        refine wpQuiet_nil ?_
        refine E_loud1 1 _ rfl (by kernel_rfl) ?_
        simp only [List.getElem_toArray, List.getElem_cons_succ, List.getElem_cons_zero]
        go_wp2_with fail
        refine ⟨keepBelow (below_a1 _ _) (fun b hb => by subst hb; assumption), ?_⟩
        refine E_mob2 10 _ rfl (by kernel_rfl) ?_
        simp only [List.getElem_toArray, List.getElem_cons_succ, List.getElem_cons_zero]
        go_big_quiet_step (fail)
        refine wpQuiet_nil ?_
        refine E_mob2 11 _ rfl (by kernel_rfl) ?_
        simp only [List.getElem_toArray, List.getElem_cons_succ, List.getElem_cons_zero]
        go_big_quiet_step (fail)
        refine wpQuiet_nil ?_
        refine E_done (by kernel_rfl) ?_ _
        go_wp2_with fail
        go_ret2
        rw [HB2.out, HI2.out]
        exact ⟨_, rfl, RdN.one ⟨op, rd, rs1, rs2, d⟩ rfl, FrV.mk (by omega), HBW.out.trans ((below_a1 _ _).mono (by omega))⟩
      · have g2 : decide (d ≤ 1048574) = true := decide_eq_true (by omega)
        rw [g2] at HB2
        refine E_mob2 0 _ rfl (by kernel_rfl) ?_
        simp only [List.getElem_toArray, List.getElem_cons_succ, List.getElem_cons_zero]
        go_big_quiet_step (fail)
        refine wpQuiet_nil ?_
        refine E_mob2 2 _ rfl (by kernel_rfl) ?_
        simp only [List.getElem_toArray, List.getElem_cons_succ, List.getElem_cons_zero]
        go_big_quiet_step (fail)
        refine wpQuiet_nil ?_
        refine E_mob2 3 _ rfl (by kernel_rfl) ?_
        simp only [List.getElem_toArray, List.getElem_cons_succ, List.getElem_cons_zero]
        go_big_quiet_step (fail)
        refine wpQuiet_nil ?_
        refine E_mob2 4 _ rfl (by kernel_rfl) ?_
        simp only [List.getElem_toArray, List.getElem_cons_succ, List.getElem_cons_zero]
        go_big_quiet_step (fail)
        refine wpQuiet_nil ?_
        refine E_mob2 5 _ rfl (by kernel_rfl) ?_
        simp only [List.getElem_toArray, List.getElem_cons_succ, List.getElem_cons_zero]
        go_big_quiet_step (fail)
        refine wpQuiet_nil ?_
        refine E_mob2 6 _ rfl (by kernel_rfl) ?_
        simp only [List.getElem_toArray, List.getElem_cons_succ, List.getElem_cons_zero]
        go_big_quiet_step (fail)
        refine wpQuiet_nil ?_
        refine E_mob2 7 _ rfl (by kernel_rfl) ?_
        simp only [List.getElem_toArray, List.getElem_cons_succ, List.getElem_cons_zero]
        go_big_quiet_step (fail)
        refine wpQuiet_nil ?_
        refine E_mob2 8 _ rfl (by kernel_rfl) ?_
        simp only [List.getElem_toArray, List.getElem_cons_succ, List.getElem_cons_zero]
        go_big_quiet_step (fail)
        refine wpQuiet_nil ?_
        refine E_mob2 9 _ rfl (by kernel_rfl) ?_
        simp only [List.getElem_toArray, List.getElem_cons_succ, List.getElem_cons_zero]
        go_big_quiet_step (fail)
        refine wpQuiet_nil ?_
        refine E_loud1 1 _ rfl (by kernel_rfl) ?_
        simp only [List.getElem_toArray, List.getElem_cons_succ, List.getElem_cons_zero]
        go_wp2_with fail
        refine ⟨keepBelow (below_a1 _ _) (fun b hb => by subst hb; assumption), ?_⟩
        refine E_mob2 10 _ rfl (by kernel_rfl) ?_
        simp only [List.getElem_toArray, List.getElem_cons_succ, List.getElem_cons_zero]
        go_big_quiet_step (fail)
        refine wpQuiet_nil ?_
        refine E_mob2 11 _ rfl (by kernel_rfl) ?_
        simp only [List.getElem_toArray, List.getElem_cons_succ, List.getElem_cons_zero]
        go_big_quiet_step (fail)
        refine wpQuiet_nil ?_
        refine E_done (by kernel_rfl) ?_ _
        go_wp2_with fail
        go_ret2
        rw [HB2.out, HI2.out]
        exact ⟨_, rfl, RdN.one ⟨op, rd, rs1, rs2, d⟩ rfl, FrV.mk (by omega), HBW.out.trans ((below_a1 _ _).mono (by omega))⟩
  · have HI2 : Hid (_ = constL rd (imm % 4294967296)) := HI
    clear HI
    have HB2 : Hid (_ = true) := HB
    clear HB
    clear HW hK HCT HD
    go_enter Try.func42, Try.ntmps42
    go_wp2_with (go_at_call 81; refine (HC.out _).mono ?_; rintro e w3 ⟨v, rfl, hv, hf3, hb3⟩)
    go_ret2
    rw [HB2.out, HI2.out]
    exact ⟨_, rfl, hv, (fun b o n c e => Nat.le_trans (by simp; omega) (hf3 b o n c e)), (below_a2 _ _ _).trans (hb3.mono (by simp; omega))⟩
end
end Go.Proofs.Ytedihiodmgnlpaa
