/-
  The document's step, its run, its machine begun; which machines there may be.
-/
import Derived.Test.YtabmbhhodecmfaaGreatV21
import Derived.Test.YtabmbhhodecmfaaGreatI11
import Derived.Deep.OwnRows
import Derived.Test.YtabmbhhodecmfaaGreatN2
set_option linter.all false
namespace Go.Proofs.YtabmbhhodecmfaaGreat
open Go.ChangeShapes Go.WideShapes Go.ChangeAt Go.RowKit
set_option maxHeartbeats 4000000
set_option linter.unusedVariables false
set_option maxRecDepth 100000

section
variable {k : WK} {w : World} {vr vl : Value} {m : Dv}
structure WK.ok (k : WK) : Prop where
  cb : ∀ j, 0 ≤ k.code.getD j 0 ∧ k.code.getD j 0 < 4294967296
  cl : 1 ≤ k.code.length ∧ k.code.length ≤ 32768
  ib : ∀ j, 0 ≤ k.inp.getD j 0 ∧ k.inp.getD j 0 < 4294967296
  il : k.inp.length ≤ 1000000
theorem wdo_c (h : Wm k w vr vl m) (hk : k.ok) (hm : Dok m) (hs : m.steps ≤ 1000000) (i : Iv) (hi : IvOk i) :
    Calls Tryz.prog 31 #[.pointer (some ⟨k.br, 0, none⟩), ivV i] w fun e w' => ∃ vl', e = .returned (.bool (doD k.inp m i).isSome) ∧ Wm k w' vr vl' ((doD k.inp m i).getD m) ∧ Chw k vr vl vr vl' w w' := by
  obtain ⟨op, rd, r1, r2, imm⟩ := i
  obtain ⟨⟨o1, o2⟩, hd, ⟨a1, a2⟩, ⟨b1, b2⟩, him⟩ := hi
  dsimp only at o1 o2 hd a1 a2 b1 b2 him
  obtain ⟨na, rfl⟩ := Int.eq_ofNat_of_zero_le a1
  obtain ⟨nb, rfl⟩ := Int.eq_ofNat_of_zero_le b1
  have ha : na < 32 := by omega
  have hb : nb < 32 := by omega
  unfold doD
  dsimp only
  by_cases e1 : op = 1
  · subst e1; exact wdo_1 h hm rd imm na nb hd ha hb him
  rw [if_neg e1]
  by_cases e2 : op = 2
  · subst e2; exact wdo_2 h hm rd imm na nb hd ha hb him
  rw [if_neg e2]
  by_cases e3 : op = 3
  · subst e3; exact wdo_3 h hm rd imm na nb hd ha hb him
  rw [if_neg e3]
  by_cases e4 : op = 4
  · subst e4; exact wdo_4 h hm rd imm na nb hd ha hb him
  rw [if_neg e4]
  by_cases e5 : op ≤ 10
  · rw [if_pos e5]; exact wdo_branch h hm op rd imm na nb hd ha hb him (by omega) e5
  rw [if_neg e5]
  by_cases e6 : op ≤ 15
  · rw [if_pos e6]
    refine (wdo_load h hk.il hm op rd imm na nb hd ha hb him (by omega) e6).mono fun e w' hq => ?_
    obtain ⟨vl', q1, q2, q3⟩ := hq
    have er : regD m (na : Int) = m.regs.getD na 0 := rfl
    rw [er]
    cases hl : loadD k.inp m op (wd (m.regs.getD na 0 + imm)) <;> rw [hl] at q1 q2 <;> exact ⟨vl', q1, q2, q3⟩
  rw [if_neg e6]
  by_cases e7 : op ≤ 18
  · rw [if_pos e7]
    refine (wdo_store h hs hm op rd imm na nb hd ha hb him (by omega) e7).mono fun e w' hq => ?_
    obtain ⟨vl', q1, q2, q3⟩ := hq
    have er : regD m (na : Int) = m.regs.getD na 0 := rfl
    have es : regD m (nb : Int) = m.regs.getD nb 0 := rfl
    rw [er, es]
    cases hl : storeD m op (wd (m.regs.getD na 0 + imm)) (m.regs.getD nb 0) <;> rw [hl] at q1 q2 <;> exact ⟨vl', q1, q2, q3⟩
  rw [if_neg e7]
  by_cases e8 : op ≤ 27
  · rw [if_pos e8]; exact wdo_imm h hm op rd imm na nb hd ha hb him (by omega) e8
  rw [if_neg e8]
  exact wdo_reg h hm op rd imm na nb hd ha hb him (by omega) o2
theorem make32 (w : World) : (Instr.makeSlice 22 (.int .i64 32) (.int .i64 32)).run Tryz.prog w = .ok (.slice (some ⟨w.heap.size, 0, none⟩) 32 32) (w.alloc (.cells (madeCells #[.int .u32 0] 32) 40)) :=
  run_make_row' (P := Tryz.prog) 22 40 (.int .u32 0) 4 Tryz.underlying22 vinfoU32 rfl .i64 .i64 32 (by decide) (by decide) w
theorem made32 : (madeCells #[.int .u32 0] 32).toList = (List.replicate 32 0).map (Value.int .u32) := by
  rw [List.map_replicate]
  refine List.eq_replicate_iff.2 ⟨by simp [size_madeCells], fun b hb => ?_⟩
  simp only [madeCells, Array.toList_map, List.mem_map] at hb
  obtain ⟨a, -, rfl⟩ := hb
  show (#[Value.int .u32 0])[a % 1]! = _
  rw [Nat.mod_one]; rfl
theorem own_zero32 (w : World) (B : Nat) (hB : B ≤ w.heap.size) : (w.alloc (.cells (madeCells #[.int .u32 0] 32) 40)).ownsRow B 40 1 (.slice (some ⟨w.heap.size, 0, none⟩) 32 32) 32 ((List.replicate 32 0).map (Value.int .u32)) :=
  ⟨by simp, .inr ⟨w.heap.size, 32, _, rfl, hB, heap_alloc_new w _, Nat.le_refl _, by decide, size_madeCells _ _, by rw [← made32]; exact List.take_of_length_le (by simp [size_madeCells])⟩⟩
theorem Chw.newR {x : Value} {o : Obj} {g c : Nat} (hg : w.heap.size ≤ g) : Chw k vr vl (.slice (some ⟨g, 0, none⟩) 32 c) vl w ((w.alloc o).setCell ⟨k.br, 3, none⟩ x) :=
  ⟨rfl, rfl, rfl, by simp, .inr ⟨g, rfl, hg⟩, .inl rfl, fun b hb h1 _ _ _ => (heap_setCell_other (w.alloc o) ⟨k.br, 3, none⟩ b x h1).trans ((vbelow1 w o).block b hb)⟩
theorem wfail_c (h : Wm k w vr vl m) :
    Calls Tryz.prog 18 #[.pointer (some ⟨k.br, 0, none⟩)] w fun e w' => ∃ vr', e = .returned (.tuple #[]) ∧ Wm k w' vr' vl (failD m) ∧ Chw k vr vl vr' vl w w' := by
  have c9 : w.cell? ⟨k.br, 9, none⟩ = some (.int .i64 m.state) := h.c 9 (by decide)
  have lb := h.brLt.2
  have H := Lib.hid h
  by_cases hst : m.state = 0
  · have HE : Hid (failD m = { m with regs := List.replicate 32 0, pc := 0, seq := 0, index := 0 }) := by show _ = _; unfold failD; rw [if_pos hst]
    rw [hst] at c9
    have c3 : w.cell? ⟨k.br, 3, none⟩ = some vr := h.c 3 (by decide)
    have c4 : w.cell? ⟨k.br, 4, none⟩ = some (.int .i64 m.pc) := h.c 4 (by decide)
    have c5 : w.cell? ⟨k.br, 5, none⟩ = some (.int .u32 m.seq) := h.c 5 (by decide)
    have c6 : w.cell? ⟨k.br, 6, none⟩ = some (.int .u32 m.index) := h.c 6 (by decide)
    have f3 := h.fz 3
    have f4 := h.fz 4
    have f5 := h.fz 5
    have f6 := h.fz 6
    have hmk := make32
    clear hst h
    go_enter Tryz.func18, Tryz.ntmps18
    go_wp2_with fail
    refine bodyPost_end (results_none rfl _ _ _) rfl ?_
    obtain ⟨B, hB⟩ : ∃ o, o = Obj.cells (madeCells #[.int .u32 0] 32) 40 := ⟨_, rfl⟩
    have M1 := (H.out.grow (vbelow1 w B)).newR (by rw [hB]; exact own_zero32 w k.B H.out.low.2)
    have C1 : Chw k vr vl (.slice (some ⟨w.heap.size, 0, none⟩) 32 32) vl w ((w.alloc B).setCell ⟨k.br, 3, none⟩ (.slice (some ⟨w.heap.size, 0, none⟩) 32 32)) := Chw.newR (Nat.le_refl _)
    obtain ⟨M2, C2⟩ := M1.setPc 0
    obtain ⟨M3, C3⟩ := M2.setSeq 0
    obtain ⟨M4, C4⟩ := M3.setIndex 0
    have C5 := ((C1.trans C2).trans C3).trans C4
    rw [World.setCell_alloc_past _ _ _ _ lb, World.setCell_alloc_past _ _ _ _ (by simpa using lb), World.setCell_alloc_past _ _ _ _ (by simpa using lb), World.setCell_alloc_past _ _ _ _ (by simpa using lb)] at M4 C5
    rw [hB] at M4 C5
    exact ⟨_, rfl, by rw [HE.out]; exact M4, C5⟩
  · have HE : Hid (failD m = m) := by show _ = _; unfold failD; rw [if_neg hst]
    have g1 : (m.state == 0) = false := beq_eq_false_iff_ne.2 hst
    clear hst h
    go_enter Tryz.func18, Tryz.ntmps18
    go_wp2_with fail
    refine bodyPost_end (results_none rfl _ _ _) rfl ?_
    exact ⟨vr, rfl, by rw [HE.out]; exact H.out, Chw.refl _ _ _ _⟩
def WStepP (k : WK) (vr vl : Value) (m : Dv) (w : World) (e : Ending) (w' : World) : Prop := ∃ vl', e = .returned (.tuple #[]) ∧ Wm k w' vr vl' (stepD k.code k.inp m) ∧ Chw k vr vl vr vl' w w'
theorem keepX_s5 {S : Nat → Prop} (w : World) {g : Nat} (a b c d e : Value) (hne : ∀ b, S b → b ≠ g) : KeepX S w (((((w.setCell ⟨g, 0, none⟩ a).setCell ⟨g, 1, none⟩ b).setCell ⟨g, 2, none⟩ c).setCell ⟨g, 3, none⟩ d).setCell ⟨g, 4, none⟩ e) := keepX_set5 w a b c d e hne
theorem wstep_c (h : Wm k w vr vl m) (hk : k.ok) (hm : Dok m) (hs : m.steps ≤ 1000000) :
    Calls Tryz.prog 17 #[.pointer (some ⟨k.br, 0, none⟩)] w (WStepP k vr vl m w) := by
  have c9 : w.cell? ⟨k.br, 9, none⟩ = some (.int .i64 m.state) := h.c 9 (by decide)
  have f9 := h.fz 9
  have lb := h.brLt.2
  have H := Lib.hid h
  by_cases hst : m.state = 0
  · rw [hst] at c9
    have cP : w.cell? ⟨k.br, 4, none⟩ = some (.int .i64 m.pc) := h.c 4 (by decide)
    have cC : w.cell? ⟨k.br, 0, none⟩ = some k.vc := h.c 0 (by decide)
    obtain ⟨ac, cc, eC⟩ := h.cc.form
    rw [eC] at cC
    have hp := hm.pb
    have hcl := hk.cl
    obtain ⟨N, hN⟩ : ∃ N : Nat, m.pc / 4 = (N : Int) := ⟨(m.pc / 4).toNat, by omega⟩
    by_cases hr : m.pc % 4 = 0 ∧ m.pc / 4 < (k.code.length : Int)
    · have hlt : N < k.code.length := by omega
      have HE : Hid (stepD k.code k.inp m = match decD (k.code.getD N 0) with
          | none => { m with state := 2 }
          | some i => match doD k.inp m i with
            | none => { m with state := 2 }
            | some m' => { m' with steps := m.steps + 1 }) := by
        show _ = _
        unfold stepD
        rw [if_neg (by rw [hst]; decide), if_pos hr, hN, Int.toNat_natCast]
        rfl
      have hx := hk.cb N
      have CD : Hid (∀ w, Calls Tryz.prog 30 #[.int .u32 (k.code.getD N 0)] w fun e w' => e = .returned (decV (decD (k.code.getD N 0))) ∧ Below w.heap.size w w') := fun w => (rdecode_c _ w hx.1 hx.2).mono fun e w' h => ⟨decPost_val hx.1 hx.2 h.1, h.2⟩
      have HI : Hid (∀ i, decD (k.code.getD N 0) = some i → IvOk i) := fun i hi => decD_ok hx.1 hx.2 hi
      obtain ⟨bc, oc, cc2, eC2, xC, lc⟩ := src_at h.cc h.below N hlt
      rw [eC] at eC2
      simp only [Value.slice.injEq] at eC2
      obtain ⟨rfl, -, rfl⟩ := eC2
      have g1 : (m.pc % 4 != 0) = false := by rw [hr.1]; rfl
      have g2 : decide ((k.code.length : Int) ≤ (N : Int)) = false := decide_eq_false (by omega)
      have g3 : decide (k.code.length ≤ N) = false := decide_eq_false (by omega)
      generalize k.code.getD N 0 = x at *
      clear hr eC hst h
      cases hD : decD x with
      | none =>
        rw [hD] at CD HE
        have CD : Hid (∀ w, Calls Tryz.prog 30 #[.int .u32 x] w fun e w' => e = .returned (.tuple #[.agg #[.int .i64 0, .int .i64 0, .int .i64 0, .int .i64 0, .int .i64 0], .int .i64 3]) ∧ Below w.heap.size w w') := CD
        have HE : Hid (stepD k.code k.inp m = { m with state := 2 }) := HE
        clear hD HI
        go_enter Tryz.func17, Tryz.ntmps17
        go_wp2_with fail
        go_quiet (fail)
        have M2 := Lib.hid (H.out.grow (below_drewN3 w nq))
        have C2 : Hid (Chw k vr vl vr vl w (w.drewN nq)) := Chw.of_below (below_drewN3 w nq)
        have cP : (w.drewN nq).cell? ⟨k.br, 4, none⟩ = _ := cP
        have cC : (w.drewN nq).cell? ⟨k.br, 0, none⟩ = _ := cC
        have xC : (w.drewN nq).cell? ⟨bc, oc + N, none⟩ = _ := xC
        have lb : k.br < (w.drewN nq).heap.size := lb
        have lc : bc < (w.drewN nq).heap.size := lc
        clear c9 f9
        generalize w.drewN nq = W2 at *
        go_wp2_with fail
        refine wp_region_junk (fun x => x = k.br ∨ x = bc) (by kernel_rfl) ?_
        refine J_mobs [0, 1, 2, 3, 4, 5, 6, 7, 8, 9, 10] _ _ _ _ (by kernel_rfl) ?_
        simp only [List.map_cons, List.map_nil, List.getElem?_toArray, List.getElem?_cons_succ, List.getElem?_cons_zero, Option.getD_some, List.size_toArray, List.length_cons, List.length_nil, Nat.reduceAdd, Nat.reduceSub]
        repeat (go_big_quiet_step (fail))
        refine wpQuiet_nil ?_
        clear hN
        refine J_call 11 _ (.tuple #[.agg #[.int .i64 0, .int .i64 0, .int .i64 0, .int .i64 0, .int .i64 0], .int .i64 3]) rfl (by kernel_rfl) rfl ?_ ?_
        all_goals simp only [List.getElem_toArray, List.getElem_cons_succ, List.getElem_cons_zero]
        · intro wk hk
          go_wp2_with fail
          refine (CD.out _).mono ?_
          rintro e wz ⟨rfl, hb⟩
          go_wp2_with fail
          exact ⟨rfl, hb⟩
        simp only [Act.put, List.setIfInBounds_toArray, List.set_cons_succ, List.set_cons_zero]
        refine J_mobs [12, 13, 14] _ _ _ _ (by kernel_rfl) ?_
        simp only [List.map_cons, List.map_nil, List.getElem?_toArray, List.getElem?_cons_succ, List.getElem?_cons_zero, Option.getD_some, List.size_toArray, List.length_cons, List.length_nil, Nat.reduceAdd, Nat.reduceSub]
        repeat (go_big_quiet_step (fail))
        refine wpQuiet_nil ?_
        refine J_loud1 15 _ rfl (by kernel_rfl) ?_
        simp only [List.getElem_toArray, List.getElem_cons_succ, List.getElem_cons_zero]
        intro wj hj
        have B3 : Hid (Below W2.heap.size W2 wj) := hj
        clear hj
        go_wp2_with fail
        refine ⟨KeepX.below (vbelow1 wj _), ?_⟩
        have B4 : Hid (Below W2.heap.size W2 _) := B3.out.trans ((vbelow1 wj (.cells #[.int .i64 0, .int .i64 0, .int .i64 0, .int .i64 0, .int .i64 0] 68)).mono B3.out.size)
        have h5 := heap_alloc_new wj (.cells #[.int .i64 0, .int .i64 0, .int .i64 0, .int .i64 0, .int .i64 0] 68)
        obtain ⟨g5, hg5⟩ : ∃ g5, g5 = wj.heap.size := ⟨_, rfl⟩
        have l5 : g5 < (wj.alloc (.cells #[.int .i64 0, .int .i64 0, .int .i64 0, .int .i64 0, .int .i64 0] 68)).heap.size := by rw [hg5]; simp
        have n5 : W2.heap.size ≤ g5 := by rw [hg5]; exact B3.out.size
        rw [← hg5] at h5 ⊢
        clear hg5 B3
        generalize wj.alloc (.cells #[.int .i64 0, .int .i64 0, .int .i64 0, .int .i64 0, .int .i64 0] 68) = W4 at *
        refine J_loud1 16 _ rfl (by kernel_rfl) ?_
        simp only [List.getElem_toArray, List.getElem_cons_succ, List.getElem_cons_zero]
        intro wj hj
        have h5 := (hj.block g5 l5).trans h5
        have B5 : Hid (Below W2.heap.size W2 wj) := B4.out.trans (hj.mono B4.out.size)
        have l5 : g5 < wj.heap.size := by have := hj.size; omega
        clear hj B4
        have q0 := cell_of_heap h5 0
        have q1 := cell_of_heap h5 1
        have q2 := cell_of_heap h5 2
        have q3 := cell_of_heap h5 3
        have q4 := cell_of_heap h5 4
        have qf := fun o => frozen_of_heap h5 o
        simp only [List.getElem?_toArray, List.getElem?_cons_zero, List.getElem?_cons_succ] at q0 q1 q2 q3 q4
        clear h5
        go_wp2_with fail
        refine ⟨keepX_s5 wj _ _ _ _ _ (fun b hb => by rcases hb with rfl | rfl <;> omega), ?_⟩
        obtain ⟨W6, hW6⟩ : ∃ W6, W6 = (((((wj.setCell ⟨g5, 0, none⟩ (.int .i64 0)).setCell ⟨g5, 1, none⟩ (.int .i64 0)).setCell ⟨g5, 2, none⟩ (.int .i64 0)).setCell ⟨g5, 3, none⟩ (.int .i64 0)).setCell ⟨g5, 4, none⟩ (.int .i64 0)) := ⟨_, rfl⟩
        rw [← hW6]
        have B6 : Hid (Below W2.heap.size W2 W6) := by rw [hW6]; exact below_set5 B5.out n5 _ _ _ _ _
        have p0 : W6.cell? ⟨g5, 0, none⟩ = some (.int .i64 0) := by rw [hW6]; simp [go_sem, q0, q1, q2, q3, q4, l5]
        have p1 : W6.cell? ⟨g5, 1, none⟩ = some (.int .i64 0) := by rw [hW6]; simp [go_sem, q0, q1, q2, q3, q4, l5]
        have p2 : W6.cell? ⟨g5, 2, none⟩ = some (.int .i64 0) := by rw [hW6]; simp [go_sem, q0, q1, q2, q3, q4, l5]
        have p3 : W6.cell? ⟨g5, 3, none⟩ = some (.int .i64 0) := by rw [hW6]; simp [go_sem, q0, q1, q2, q3, q4, l5]
        have p4 : W6.cell? ⟨g5, 4, none⟩ = some (.int .i64 0) := by rw [hW6]; simp [go_sem, q0, q1, q2, q3, q4, l5]
        have l6 : g5 < W6.heap.size := by rw [hW6]; simpa using l5
        clear hW6 q0 q1 q2 q3 q4 qf B5 l5
        refine J_mobs [17] _ _ _ _ (by kernel_rfl) ?_
        simp only [List.map_cons, List.map_nil, List.getElem?_toArray, List.getElem?_cons_succ, List.getElem?_cons_zero, Option.getD_some, List.size_toArray, List.length_cons, List.length_nil, Nat.reduceAdd, Nat.reduceSub]
        repeat (go_big_quiet_step (fail))
        refine wpQuiet_nil ?_
        refine J_done (by kernel_rfl) (fun wj hj => ?_) _
        have p0 := (hj.cell (p := ⟨g5, 0, none⟩) l6).trans p0
        have p1 := (hj.cell (p := ⟨g5, 1, none⟩) l6).trans p1
        have p2 := (hj.cell (p := ⟨g5, 2, none⟩) l6).trans p2
        have p3 := (hj.cell (p := ⟨g5, 3, none⟩) l6).trans p3
        have p4 := (hj.cell (p := ⟨g5, 4, none⟩) l6).trans p4
        have l7 : g5 < wj.heap.size := by have := hj.size; omega
        have B7 : Hid (Below W2.heap.size W2 wj) := B6.out.trans (hj.mono B6.out.size)
        have M7 := Lib.hid (M2.out.grow B7.out)
        have C7 := Lib.hid (C2.out.trans (Chw.of_below (k := k) (vr := vr) (vl := vl) B7.out))
        have lb := M7.out.brLt.2
        clear hj B6 l6 M2 C2 B7 cP cC xC
        have c9 : wj.cell? ⟨k.br, 9, none⟩ = some (.int .i64 m.state) := M7.out.c 9 (by decide)
        have f9 := M7.out.fz 9
        go_wp2_with fail
        refine bodyPost_end (results_none rfl _ _ _) rfl ?_
        obtain ⟨u1, u2⟩ := M7.out.setState 2
        exact ⟨vl, rfl, by rw [HE.out]; exact u1, C7.out.trans u2⟩
      | some i =>
        have hi := HI.out i hD
        have CO : Hid (∀ W, Wm k W vr vl m → Calls Tryz.prog 31 #[.pointer (some ⟨k.br, 0, none⟩), ivV i] W fun e w' => ∃ vl', e = .returned (.bool (doD k.inp m i).isSome) ∧ Wm k w' vr vl' ((doD k.inp m i).getD m) ∧ Chw k vr vl vr vl' W w') := fun W hW => wdo_c hW hk hm hs i hi
        have HB : Hid (∀ m1, doD k.inp m i = some m1 → m1.steps = m.steps) := fun m1 e => (doD_ok hk.ib hm hi e).2.2.2
        have tb := hm.tb
        rw [hD] at CD HE
        obtain ⟨iop, ird, irx, iry, iim⟩ := i
        have CD : Hid (∀ w, Calls Tryz.prog 30 #[.int .u32 x] w fun e w' => e = .returned (.tuple #[.agg #[.int .i64 iop, .int .i64 ird, .int .i64 irx, .int .i64 iry, .int .i64 iim], .int .i64 0]) ∧ Below w.heap.size w w') := CD
        dsimp only at HE
        clear hD HI hi
        generalize doD k.inp m ⟨iop, ird, irx, iry, iim⟩ = dd at CO HE HB
        have CO : Hid (∀ W, Wm k W vr vl m → Calls Tryz.prog 31 #[.pointer (some ⟨k.br, 0, none⟩), .agg #[.int .i64 iop, .int .i64 ird, .int .i64 irx, .int .i64 iry, .int .i64 iim]] W fun e w' => ∃ vl', e = .returned (.bool dd.isSome) ∧ Wm k w' vr vl' (dd.getD m) ∧ Chw k vr vl vr vl' W w') := CO
        go_enter Tryz.func17, Tryz.ntmps17
        go_wp2_with fail
        go_quiet (fail)
        have M2 := Lib.hid (H.out.grow (below_drewN3 w nq))
        have C2 : Hid (Chw k vr vl vr vl w (w.drewN nq)) := Chw.of_below (below_drewN3 w nq)
        have cP : (w.drewN nq).cell? ⟨k.br, 4, none⟩ = _ := cP
        have cC : (w.drewN nq).cell? ⟨k.br, 0, none⟩ = _ := cC
        have xC : (w.drewN nq).cell? ⟨bc, oc + N, none⟩ = _ := xC
        have lb : k.br < (w.drewN nq).heap.size := lb
        have lc : bc < (w.drewN nq).heap.size := lc
        clear c9 f9
        generalize w.drewN nq = W2 at *
        go_wp2_with fail
        refine wp_region_junk (fun x => x = k.br ∨ x = bc) (by kernel_rfl) ?_
        refine J_mobs [0, 1, 2, 3, 4, 5, 6, 7, 8, 9, 10] _ _ _ _ (by kernel_rfl) ?_
        simp only [List.map_cons, List.map_nil, List.getElem?_toArray, List.getElem?_cons_succ, List.getElem?_cons_zero, Option.getD_some, List.size_toArray, List.length_cons, List.length_nil, Nat.reduceAdd, Nat.reduceSub]
        repeat (go_big_quiet_step (fail))
        refine wpQuiet_nil ?_
        clear hN
        refine J_call 11 _ (.tuple #[.agg #[.int .i64 iop, .int .i64 ird, .int .i64 irx, .int .i64 iry, .int .i64 iim], .int .i64 0]) rfl (by kernel_rfl) rfl ?_ ?_
        all_goals simp only [List.getElem_toArray, List.getElem_cons_succ, List.getElem_cons_zero]
        · intro wk hk
          go_wp2_with fail
          refine (CD.out _).mono ?_
          rintro e wz ⟨rfl, hb⟩
          go_wp2_with fail
          exact ⟨rfl, hb⟩
        simp only [Act.put, List.setIfInBounds_toArray, List.set_cons_succ, List.set_cons_zero]
        refine J_mobs [12, 13, 14] _ _ _ _ (by kernel_rfl) ?_
        simp only [List.map_cons, List.map_nil, List.getElem?_toArray, List.getElem?_cons_succ, List.getElem?_cons_zero, Option.getD_some, List.size_toArray, List.length_cons, List.length_nil, Nat.reduceAdd, Nat.reduceSub]
        repeat (go_big_quiet_step (fail))
        refine wpQuiet_nil ?_
        refine J_loud1 15 _ rfl (by kernel_rfl) ?_
        simp only [List.getElem_toArray, List.getElem_cons_succ, List.getElem_cons_zero]
        intro wj hj
        have B3 : Hid (Below W2.heap.size W2 wj) := hj
        clear hj
        go_wp2_with fail
        refine ⟨KeepX.below (vbelow1 wj _), ?_⟩
        have B4 : Hid (Below W2.heap.size W2 _) := B3.out.trans ((vbelow1 wj (.cells #[.int .i64 0, .int .i64 0, .int .i64 0, .int .i64 0, .int .i64 0] 68)).mono B3.out.size)
        have h5 := heap_alloc_new wj (.cells #[.int .i64 0, .int .i64 0, .int .i64 0, .int .i64 0, .int .i64 0] 68)
        obtain ⟨g5, hg5⟩ : ∃ g5, g5 = wj.heap.size := ⟨_, rfl⟩
        have l5 : g5 < (wj.alloc (.cells #[.int .i64 0, .int .i64 0, .int .i64 0, .int .i64 0, .int .i64 0] 68)).heap.size := by rw [hg5]; simp
        have n5 : W2.heap.size ≤ g5 := by rw [hg5]; exact B3.out.size
        rw [← hg5] at h5 ⊢
        clear hg5 B3
        generalize wj.alloc (.cells #[.int .i64 0, .int .i64 0, .int .i64 0, .int .i64 0, .int .i64 0] 68) = W4 at *
        refine J_loud1 16 _ rfl (by kernel_rfl) ?_
        simp only [List.getElem_toArray, List.getElem_cons_succ, List.getElem_cons_zero]
        intro wj hj
        have h5 := (hj.block g5 l5).trans h5
        have B5 : Hid (Below W2.heap.size W2 wj) := B4.out.trans (hj.mono B4.out.size)
        have l5 : g5 < wj.heap.size := by have := hj.size; omega
        clear hj B4
        have q0 := cell_of_heap h5 0
        have q1 := cell_of_heap h5 1
        have q2 := cell_of_heap h5 2
        have q3 := cell_of_heap h5 3
        have q4 := cell_of_heap h5 4
        have qf := fun o => frozen_of_heap h5 o
        simp only [List.getElem?_toArray, List.getElem?_cons_zero, List.getElem?_cons_succ] at q0 q1 q2 q3 q4
        clear h5
        go_wp2_with fail
        refine ⟨keepX_s5 wj _ _ _ _ _ (fun b hb => by rcases hb with rfl | rfl <;> omega), ?_⟩
        obtain ⟨W6, hW6⟩ : ∃ W6, W6 = (((((wj.setCell ⟨g5, 0, none⟩ (.int .i64 iop)).setCell ⟨g5, 1, none⟩ (.int .i64 ird)).setCell ⟨g5, 2, none⟩ (.int .i64 irx)).setCell ⟨g5, 3, none⟩ (.int .i64 iry)).setCell ⟨g5, 4, none⟩ (.int .i64 iim)) := ⟨_, rfl⟩
        rw [← hW6]
        have B6 : Hid (Below W2.heap.size W2 W6) := by rw [hW6]; exact below_set5 B5.out n5 _ _ _ _ _
        have p0 : W6.cell? ⟨g5, 0, none⟩ = some (.int .i64 iop) := by rw [hW6]; simp [go_sem, q0, q1, q2, q3, q4, l5]
        have p1 : W6.cell? ⟨g5, 1, none⟩ = some (.int .i64 ird) := by rw [hW6]; simp [go_sem, q0, q1, q2, q3, q4, l5]
        have p2 : W6.cell? ⟨g5, 2, none⟩ = some (.int .i64 irx) := by rw [hW6]; simp [go_sem, q0, q1, q2, q3, q4, l5]
        have p3 : W6.cell? ⟨g5, 3, none⟩ = some (.int .i64 iry) := by rw [hW6]; simp [go_sem, q0, q1, q2, q3, q4, l5]
        have p4 : W6.cell? ⟨g5, 4, none⟩ = some (.int .i64 iim) := by rw [hW6]; simp [go_sem, q0, q1, q2, q3, q4, l5]
        have l6 : g5 < W6.heap.size := by rw [hW6]; simpa using l5
        clear hW6 q0 q1 q2 q3 q4 qf B5 l5
        refine J_mobs [17] _ _ _ _ (by kernel_rfl) ?_
        simp only [List.map_cons, List.map_nil, List.getElem?_toArray, List.getElem?_cons_succ, List.getElem?_cons_zero, Option.getD_some, List.size_toArray, List.length_cons, List.length_nil, Nat.reduceAdd, Nat.reduceSub]
        repeat (go_big_quiet_step (fail))
        refine wpQuiet_nil ?_
        refine J_done (by kernel_rfl) (fun wj hj => ?_) _
        have p0 := (hj.cell (p := ⟨g5, 0, none⟩) l6).trans p0
        have p1 := (hj.cell (p := ⟨g5, 1, none⟩) l6).trans p1
        have p2 := (hj.cell (p := ⟨g5, 2, none⟩) l6).trans p2
        have p3 := (hj.cell (p := ⟨g5, 3, none⟩) l6).trans p3
        have p4 := (hj.cell (p := ⟨g5, 4, none⟩) l6).trans p4
        have l7 : g5 < wj.heap.size := by have := hj.size; omega
        have B7 : Hid (Below W2.heap.size W2 wj) := B6.out.trans (hj.mono B6.out.size)
        have M7 := Lib.hid (M2.out.grow B7.out)
        have C7 := Lib.hid (C2.out.trans (Chw.of_below (k := k) (vr := vr) (vl := vl) B7.out))
        have lb := M7.out.brLt.2
        clear hj B6 l6 M2 C2 B7 cP cC xC
        go_wp2_with fail
        cases dd with
        | none =>
          have CO : Hid (∀ W, Wm k W vr vl m → Calls Tryz.prog 31 #[.pointer (some ⟨k.br, 0, none⟩), .agg #[.int .i64 iop, .int .i64 ird, .int .i64 irx, .int .i64 iry, .int .i64 iim]] W fun e w' => ∃ vl', e = .returned (.bool false) ∧ Wm k w' vr vl' m ∧ Chw k vr vl vr vl' W w') := CO
          have HE : Hid (stepD k.code k.inp m = { m with state := 2 }) := HE
          refine (CO.out _ M7.out).mono ?_
          rintro e w4 ⟨vl', rfl, M4, C4⟩
          clear HB
          have M4 := Lib.hid M4
          have C4 := Lib.hid C4
          have c9 : w4.cell? ⟨k.br, 9, none⟩ = some (.int .i64 m.state) := M4.out.c 9 (by decide)
          have f9 := M4.out.fz 9
          have lb := M4.out.brLt.2
          go_wp2_with fail
          refine bodyPost_end (results_none rfl _ _ _) rfl ?_
          obtain ⟨u1, u2⟩ := M4.out.setState 2
          exact ⟨vl', rfl, by rw [HE.out]; exact u1, (C7.out.trans C4.out).trans u2⟩
        | some m1 =>
          have CO : Hid (∀ W, Wm k W vr vl m → Calls Tryz.prog 31 #[.pointer (some ⟨k.br, 0, none⟩), .agg #[.int .i64 iop, .int .i64 ird, .int .i64 irx, .int .i64 iry, .int .i64 iim]] W fun e w' => ∃ vl', e = .returned (.bool true) ∧ Wm k w' vr vl' m1 ∧ Chw k vr vl vr vl' W w') := CO
          have hst1 := HB.out m1 rfl
          have HE : Hid (stepD k.code k.inp m = { m1 with steps := m1.steps + 1 }) := by show _ = _; rw [HE.out, hst1]
          rw [← hst1] at hs tb
          refine (CO.out _ M7.out).mono ?_
          rintro e w4 ⟨vl', rfl, M4, C4⟩
          clear HB hst1
          have M4 := Lib.hid M4
          have C4 := Lib.hid C4
          have c8 : w4.cell? ⟨k.br, 8, none⟩ = some (.int .i64 m1.steps) := M4.out.c 8 (by decide)
          have f8 := M4.out.fz 8
          have lb := M4.out.brLt.2
          go_wp2_with fail
          refine bodyPost_end (results_none rfl _ _ _) rfl ?_
          obtain ⟨u1, u2⟩ := M4.out.setSteps (m1.steps + 1)
          exact ⟨vl', rfl, by rw [HE.out]; exact u1, (C7.out.trans C4.out).trans u2⟩
    · have HE : Hid (stepD k.code k.inp m = { m with state := 2 }) := by
        show _ = _
        unfold stepD
        rw [if_neg (by rw [hst]; decide), if_neg hr]
      clear hst h
      by_cases h4 : m.pc % 4 = 0
      · have g1 : (m.pc % 4 != 0) = false := by rw [h4]; rfl
        have g2 : decide ((k.code.length : Int) ≤ (N : Int)) = true := decide_eq_true (by have : ¬ m.pc / 4 < (k.code.length : Int) := fun e => hr ⟨h4, e⟩; omega)
        have g3 : decide (k.code.length ≤ N) = true := decide_eq_true (by have : ¬ m.pc / 4 < (k.code.length : Int) := fun e => hr ⟨h4, e⟩; omega)
        clear hr h4 eC
        go_enter Tryz.func17, Tryz.ntmps17
        go_wp2_with fail
        go_quiet (fail)
        have c9 : (w.drewN nq).cell? ⟨k.br, 9, none⟩ = _ := c9
        have f9 : (w.drewN nq).frozen? ⟨k.br, 9, none⟩ = _ := f9
        have lb : k.br < (w.drewN nq).heap.size := lb
        have M1 := Lib.hid (H.out.grow (below_drewN3 w nq))
        have C1 : Hid (Chw k vr vl vr vl w (w.drewN nq)) := Chw.of_below (below_drewN3 w nq)
        generalize w.drewN nq = W1 at *
        go_wp2_with fail
        refine bodyPost_end (results_none rfl _ _ _) rfl ?_
        obtain ⟨u1, u2⟩ := M1.out.setState 2
        exact ⟨vl, rfl, by rw [HE.out]; exact u1, C1.out.trans u2⟩
      · have g1 : (m.pc % 4 != 0) = true := bne_iff_ne.2 h4
        clear hr h4 eC hN
        go_enter Tryz.func17, Tryz.ntmps17
        go_wp2_with fail
        go_quiet (fail)
        have c9 : (w.drewN nq).cell? ⟨k.br, 9, none⟩ = _ := c9
        have f9 : (w.drewN nq).frozen? ⟨k.br, 9, none⟩ = _ := f9
        have lb : k.br < (w.drewN nq).heap.size := lb
        have M1 := Lib.hid (H.out.grow (below_drewN3 w nq))
        have C1 : Hid (Chw k vr vl vr vl w (w.drewN nq)) := Chw.of_below (below_drewN3 w nq)
        generalize w.drewN nq = W1 at *
        go_wp2_with fail
        refine bodyPost_end (results_none rfl _ _ _) rfl ?_
        obtain ⟨u1, u2⟩ := M1.out.setState 2
        exact ⟨vl, rfl, by rw [HE.out]; exact u1, C1.out.trans u2⟩
  · have HE : Hid (stepD k.code k.inp m = m) := by show _ = _; unfold stepD; rw [if_pos hst]
    have g1 : (m.state != 0) = true := bne_iff_ne.2 hst
    clear hst h
    go_enter Tryz.func17, Tryz.ntmps17
    go_wp2_with fail
    refine bodyPost_end (results_none rfl _ _ _) rfl ?_
    exact ⟨vl, rfl, by rw [HE.out]; exact H.out, Chw.refl _ _ _ _⟩
end
section
variable {k : WK} {w : World} {vr vl : Value} {m : Dv}
theorem FV.at {w : World} {fb : Nat} {v : Value} {L : List Int} (h : FV w fb v L) (j : Nat) (hj : j < L.length) : ∃ o c, v = .slice (some ⟨fb, o, none⟩) L.length c ∧ w.cell? ⟨fb, o + j, none⟩ = some (.int .i64 (L.getD j 0)) := by
  rcases h with ⟨-, rfl⟩ | ⟨o, c, e, h1, h2, h3⟩
  · exact absurd hj (Nat.not_lt_zero j)
  · exact ⟨o, c, e, h3 j hj⟩
theorem FV.form {w : World} {fb : Nat} {v : Value} {L : List Int} (h : FV w fb v L) : ∃ a c, v = .slice a L.length c := by
  rcases h with ⟨⟨a, c, rfl⟩, rfl⟩ | ⟨o, c, e, -⟩
  · exact ⟨a, c, rfl⟩
  · exact ⟨_, _, e⟩
structure WRunI (k : WK) (vr vl : Value) (w : World) (n : Int) (R : Dv) (q : Nat) (wr : World) (f : Nat) (vr' vl' : Value) (m' : Dv) (L' : List Int) : Prop where
  M : Wm k wr vr' vl' m'
  C : Chw k vr vl vr' vl' w wr
  ok : Dok m'
  st : m'.steps ≤ 1000000
  R' : runD k.code k.inp n f L' m' = R
  mu : muD n m' ≤ f
  q' : q = muD n m'
theorem wrun_c (h : Wm k w vr vl m) (hk : k.ok) (hm : Dok m) (n : Int) (hn : n ≤ 1000000) (hs : m.steps ≤ 1000000) (L : List Int) (fb : Nat) (v : Value) (hv : FV w fb v L) (hL : L.length ≤ 1000000)
    (hf : fb ≠ k.br ∧ some fb ≠ k.vd.ownBlock ∧ some fb ≠ vr.ownBlock ∧ some fb ≠ vl.ownBlock) :
    Calls Tryz.prog 15 #[.pointer (some ⟨k.br, 0, none⟩), .int .i64 n, v] w fun e w' => ∃ vr' vl', e = .returned (.tuple #[]) ∧ Wm k w' vr' vl' (runT k.code k.inp n L m) ∧ Chw k vr vl vr' vl' w w' := by
  have HI : Hid (WRunI k vr vl w n (runT k.code k.inp n L m) (muD n m) w ((n - m.steps).toNat + 1) vr vl m L) := ⟨h, Chw.refl _ _ _ _, hm, hs, rfl, by unfold muD; split <;> omega, rfl⟩
  have HS : Hid (∀ W vr' vl' m', Wm k W vr' vl' m' → Dok m' → m'.steps ≤ 1000000 → Calls Tryz.prog 17 #[.pointer (some ⟨k.br, 0, none⟩)] W (WStepP k vr' vl' m' W)) := fun W vr' vl' m' a b c => wstep_c a hk b c
  have HF : Hid (∀ W vr' vl' m', Wm k W vr' vl' m' → Calls Tryz.prog 18 #[.pointer (some ⟨k.br, 0, none⟩)] W fun e w' => ∃ vr2, e = .returned (.tuple #[]) ∧ Wm k w' vr2 vl' (failD m') ∧ Chw k vr' vl' vr2 vl' W w') := fun W vr' vl' m' a => wfail_c a
  have HK := Lib.hid hk
  have HX : Hid (∀ {vr' vl' wx o x}, Chw k vr vl vr' vl' w wx → w.cell? ⟨fb, o, none⟩ = some x → wx.cell? ⟨fb, o, none⟩ = some x) := fun hc hx => hc.cell hf.1 hf.2.1 hf.2.2.1 hf.2.2.2 hx
  have HV := Lib.hid hv
  obtain ⟨av, cv, rfl⟩ := hv.form
  generalize runT k.code k.inp n L m = R at *
  clear h hk hm hs hv hf
  go_enter Tryz.func15, Tryz.ntmps15
  go_wp2_with fail
  go_loopg [6] (muD n m) (fun q i wr => ∃ (f : Nat) (vr' vl' : Value) (m' : Dv) (kk : Nat), i = .int .i64 (kk : Int) ∧ kk ≤ L.length ∧ Hid (WRunI k vr vl w n R q wr f vr' vl' m' (L.drop kk)))
  case atStart => exact ⟨_, _, _, _, 0, rfl, Nat.zero_le _, HI⟩
  case round =>
    obtain ⟨f, vr', vl', m', k0, rfl, hk0, I⟩ := hrel
    have HM := Lib.hid I.out.M
    have HQ := Lib.hid I.out.q'
    by_cases hc : m'.state = 0 ∧ m'.steps < n
    · obtain ⟨hc1, hc2⟩ := hc
      have g1 : decide (m'.steps < n) = true := decide_eq_true hc2
      have hmu : muD n m' = (n - m'.steps).toNat + 1 := by unfold muD; rw [if_pos hc1]
      obtain ⟨f, rfl⟩ : ∃ f0, f = f0 + 1 := ⟨f - 1, by have := I.out.mu; omega⟩
      have HMU : Hid (muD n m' ≤ f + 1) := I.out.mu
      have HR : Hid (_ = R) := I.out.R'
      rw [runD_go hc1 hc2 f] at HR
      have HOK := Lib.hid I.out.ok
      have HST := Lib.hid I.out.st
      have hst := HST.out
      have htb := HOK.out.tb
      have HM1 : Hid (muD n (stepD k.code k.inp m') + 1 ≤ muD n m') := muD_step hc1 hc2 hc1 rfl
      have HM2 : Hid (muD n (stepD k.code k.inp (failD m')) + 1 ≤ muD n m') := muD_step hc1 hc2 (failD_state hc1) (failD_ok HOK.out).2.2
      have HS1 : Hid ((stepD k.code k.inp m').steps ≤ 1000000) := by show _ ≤ _; have := (stepD_ok HK.out.cb HK.out.ib HOK.out).2.2.2.2; omega
      have HS2 : Hid ((stepD k.code k.inp (failD m')).steps ≤ 1000000) := by show _ ≤ _; have := (stepD_ok HK.out.cb HK.out.ib (failD_ok HOK.out).1).2.2.2.2; have := (failD_ok HOK.out).2.2; omega
      have IC := Lib.hid I.out.C
      have c9 : wr.cell? ⟨k.br, 9, none⟩ = some (.int .i64 m'.state) := HM.out.c 9 (by decide)
      have c8 : wr.cell? ⟨k.br, 8, none⟩ = some (.int .i64 m'.steps) := HM.out.c 8 (by decide)
      rw [hc1] at c9
      have lb := HM.out.brLt.2
      clear I hmu
      go_wp2_with fail
      go_loopw [6] (fun i wr => ∃ (kk : Nat), i = .int .i64 (kk : Int) ∧ kk ≤ L.length ∧ Hid (dropD m'.steps (L.drop kk) = dropD m'.steps (L.drop k0)) ∧ Hid (Wm k wr vr' vl' m') ∧ Hid (Chw k vr vl vr' vl' w wr)) (fun i _ => L.length - (intOf i).toNat)
      case atStart => exact ⟨k0, rfl, hk0, rfl, HM, IC⟩
      case round =>
        clear HM IC c9 c8 lb
        obtain ⟨kk, rfl, hkk, HD, HM, IC⟩ := hrel
        have c9 : wr.cell? ⟨k.br, 9, none⟩ = some (.int .i64 m'.state) := HM.out.c 9 (by decide)
        have c8 : wr.cell? ⟨k.br, 8, none⟩ = some (.int .i64 m'.steps) := HM.out.c 8 (by decide)
        rw [hc1] at c9
        have lb := HM.out.brLt.2
        rw [← HD.out] at HR
        by_cases hlt : kk < L.length
        · obtain ⟨o, c, ev, hx⟩ := HV.out.at kk hlt
          simp only [Value.slice.injEq] at ev
          obtain ⟨rfl, -, rfl⟩ := ev
          have hx := HX.out IC.out hx
          have hdr : L.drop kk = L.getD kk 0 :: L.drop (kk + 1) := by
            rw [List.drop_eq_getElem_cons hlt]
            simp [List.getD, hlt]
          rw [hdr] at HR HD
          generalize L.getD kk 0 = x at *
          have gl : decide ((kk : Int) < (L.length : Int)) = true := decide_eq_true (by omega)
          have gl' : decide (kk < L.length) = true := decide_eq_true hlt
          by_cases hxs : x < m'.steps
          · have gx : decide (x < m'.steps) = true := decide_eq_true hxs
            have HD2 : Hid (dropD m'.steps (L.drop (kk + 1)) = dropD m'.steps (L.drop k0)) := by
              show _ = _
              rw [← HD.out]
              conv => rhs; unfold dropD; rw [if_pos hxs]
            clear HR HD hdr
            go_wp2_with fail
            go_quiet (fail)
            have IC := Lib.hid (IC.out.trans (Chw.of_below (k := k) (vr := vr') (vl := vl') (below_drewN3 wr nq)))
            have HM := Lib.hid (HM.out.grow (below_drewN3 wr nq))
            try have hx : (wr.drewN nq).cell? ⟨fb, o + kk, none⟩ = _ := hx
            have c9 : (wr.drewN nq).cell? ⟨k.br, 9, none⟩ = _ := c9
            have c8 : (wr.drewN nq).cell? ⟨k.br, 8, none⟩ = _ := c8
            have lb : k.br < (wr.drewN nq).heap.size := lb
            generalize wr.drewN nq = wr at *
            go_wp2_with fail
            exact ⟨⟨kk + 1, rfl, by omega, HD2, HM, IC⟩, by simp [intOf]; omega⟩
          · have gx : decide (x < m'.steps) = false := decide_eq_false hxs
            have hdd : dropD m'.steps (x :: L.drop (kk + 1)) = x :: L.drop (kk + 1) := by unfold dropD; rw [if_neg hxs]
            rw [hdd] at HR
            clear hdd HD
            have hdr := Lib.hid hdr
            by_cases hxe : x = m'.steps
            · have HR : Hid (runD k.code k.inp n f (L.drop (kk + 1)) (stepD k.code k.inp (failD m')) = R) := by have := HR.out; dsimp only at this; rw [if_pos hxe] at this; exact this
              have ge : (x == m'.steps) = true := beq_iff_eq.2 hxe
              have HOKF := Lib.hid (failD_ok HOK.out).1
              have HSTF : Hid ((failD m').steps ≤ 1000000) := by show _ ≤ _; rw [(failD_ok HOK.out).2.2]; exact hst
              clear hxe hxs
              go_wp2_with fail
              go_quiet (fail)
              have IC := Lib.hid (IC.out.trans (Chw.of_below (k := k) (vr := vr') (vl := vl') (below_drewN3 wr nq)))
              have HM := Lib.hid (HM.out.grow (below_drewN3 wr nq))
              try have hx : (wr.drewN nq).cell? ⟨fb, o + kk, none⟩ = _ := hx
              have c9 : (wr.drewN nq).cell? ⟨k.br, 9, none⟩ = _ := c9
              have c8 : (wr.drewN nq).cell? ⟨k.br, 8, none⟩ = _ := c8
              have lb : k.br < (wr.drewN nq).heap.size := lb
              generalize wr.drewN nq = wr at *
              go_wp2_with fail
              go_quiet (fail)
              have IC := Lib.hid (IC.out.trans (Chw.of_below (k := k) (vr := vr') (vl := vl') (below_drewN3 wr nq)))
              have HM := Lib.hid (HM.out.grow (below_drewN3 wr nq))
              try have hx : (wr.drewN nq).cell? ⟨fb, o + kk, none⟩ = _ := hx
              have c9 : (wr.drewN nq).cell? ⟨k.br, 9, none⟩ = _ := c9
              have c8 : (wr.drewN nq).cell? ⟨k.br, 8, none⟩ = _ := c8
              have lb : k.br < (wr.drewN nq).heap.size := lb
              generalize wr.drewN nq = wr at *
              go_wp2_with fail
              refine (HF.out _ vr' vl' m' HM.out).mono ?_
              rintro e w3 ⟨vr2, rfl, M3, C3⟩
              have IC := Lib.hid (IC.out.trans C3)
              have HM := Lib.hid M3
              clear C3 M3 c9 c8 lb
              go_wp2_with fail
              refine (HS.out _ vr2 vl' (failD m') (HM.out) (HOKF.out) (HSTF.out)).mono ?_
              rintro e w4 ⟨vl2, rfl, M4, C4⟩
              have M4 := Lib.hid M4
              have C4 := Lib.hid C4
              go_wp2_with fail
              go_roundg (muD n (stepD k.code k.inp (failD m')))
              case rel =>
                have HN : WRunI k vr vl w n R (muD n (stepD k.code k.inp (failD m'))) w4 f vr2 vl2 (stepD k.code k.inp (failD m')) (L.drop ((kk + 1))) := ⟨M4.out, (IC.out).trans C4.out, (stepD_ok HK.out.cb HK.out.ib (HOKF.out)).1, HS2.out, HR.out, by have := HM2.out; have := HMU.out; omega, rfl⟩
                exact ⟨f, vr2, vl2, _, (kk + 1), rfl, by omega, Lib.hid HN⟩
              case measure => have := HM2.out; rw [HQ.out]; omega
            · have HR : Hid (runD k.code k.inp n f (L.drop kk) (stepD k.code k.inp m') = R) := by have := HR.out; dsimp only at this; rw [if_neg hxe, ← hdr.out] at this; exact this
              have ge : (x == m'.steps) = false := beq_eq_false_iff_ne.2 hxe
              clear hxe hxs
              go_wp2_with fail
              go_quiet (fail)
              have IC := Lib.hid (IC.out.trans (Chw.of_below (k := k) (vr := vr') (vl := vl') (below_drewN3 wr nq)))
              have HM := Lib.hid (HM.out.grow (below_drewN3 wr nq))
              try have hx : (wr.drewN nq).cell? ⟨fb, o + kk, none⟩ = _ := hx
              have c9 : (wr.drewN nq).cell? ⟨k.br, 9, none⟩ = _ := c9
              have c8 : (wr.drewN nq).cell? ⟨k.br, 8, none⟩ = _ := c8
              have lb : k.br < (wr.drewN nq).heap.size := lb
              generalize wr.drewN nq = wr at *
              go_wp2_with fail
              go_quiet (fail)
              have IC := Lib.hid (IC.out.trans (Chw.of_below (k := k) (vr := vr') (vl := vl') (below_drewN3 wr nq)))
              have HM := Lib.hid (HM.out.grow (below_drewN3 wr nq))
              try have hx : (wr.drewN nq).cell? ⟨fb, o + kk, none⟩ = _ := hx
              have c9 : (wr.drewN nq).cell? ⟨k.br, 9, none⟩ = _ := c9
              have c8 : (wr.drewN nq).cell? ⟨k.br, 8, none⟩ = _ := c8
              have lb : k.br < (wr.drewN nq).heap.size := lb
              generalize wr.drewN nq = wr at *
              go_wp2_with fail
              refine (HS.out _ vr' vl' m' (HM.out) (HOK.out) (HST.out)).mono ?_
              rintro e w4 ⟨vl2, rfl, M4, C4⟩
              have M4 := Lib.hid M4
              have C4 := Lib.hid C4
              go_wp2_with fail
              go_roundg (muD n (stepD k.code k.inp m'))
              case rel =>
                have HN : WRunI k vr vl w n R (muD n (stepD k.code k.inp m')) w4 f vr' vl2 (stepD k.code k.inp m') (L.drop (kk)) := ⟨M4.out, (IC.out).trans C4.out, (stepD_ok HK.out.cb HK.out.ib (HOK.out)).1, HS1.out, HR.out, by have := HM1.out; have := HMU.out; omega, rfl⟩
                exact ⟨f, vr', vl2, _, kk, rfl, by omega, Lib.hid HN⟩
              case measure => have := HM1.out; rw [HQ.out]; omega
        · obtain rfl : kk = L.length := by omega
          have hdr : L.drop L.length = [] := List.drop_length
          rw [hdr] at HR
          have HR : Hid (runD k.code k.inp n f (L.drop L.length) (stepD k.code k.inp m') = R) := by show _ = _; rw [hdr]; exact HR.out
          have gl : decide ((L.length : Int) < (L.length : Int)) = false := decide_eq_false (by omega)
          have gl' : decide (L.length < L.length) = false := decide_eq_false (by omega)
          clear HD hdr hlt
          go_wp2_with fail
          go_quiet (fail)
          have IC := Lib.hid (IC.out.trans (Chw.of_below (k := k) (vr := vr') (vl := vl') (below_drewN3 wr nq)))
          have HM := Lib.hid (HM.out.grow (below_drewN3 wr nq))
          try have hx : (wr.drewN nq).cell? ⟨fb, o + kk, none⟩ = _ := hx
          have c9 : (wr.drewN nq).cell? ⟨k.br, 9, none⟩ = _ := c9
          have c8 : (wr.drewN nq).cell? ⟨k.br, 8, none⟩ = _ := c8
          have lb : k.br < (wr.drewN nq).heap.size := lb
          generalize wr.drewN nq = wr at *
          go_wp2_with fail
          go_quiet (fail)
          have IC := Lib.hid (IC.out.trans (Chw.of_below (k := k) (vr := vr') (vl := vl') (below_drewN3 wr nq)))
          have HM := Lib.hid (HM.out.grow (below_drewN3 wr nq))
          try have hx : (wr.drewN nq).cell? ⟨fb, o + kk, none⟩ = _ := hx
          have c9 : (wr.drewN nq).cell? ⟨k.br, 9, none⟩ = _ := c9
          have c8 : (wr.drewN nq).cell? ⟨k.br, 8, none⟩ = _ := c8
          have lb : k.br < (wr.drewN nq).heap.size := lb
          generalize wr.drewN nq = wr at *
          go_wp2_with fail
          refine (HS.out _ vr' vl' m' (HM.out) (HOK.out) (HST.out)).mono ?_
          rintro e w4 ⟨vl2, rfl, M4, C4⟩
          have M4 := Lib.hid M4
          have C4 := Lib.hid C4
          go_wp2_with fail
          go_roundg (muD n (stepD k.code k.inp m'))
          case rel =>
            have HN : WRunI k vr vl w n R (muD n (stepD k.code k.inp m')) w4 f vr' vl2 (stepD k.code k.inp m') (L.drop (L.length)) := ⟨M4.out, (IC.out).trans C4.out, (stepD_ok HK.out.cb HK.out.ib (HOK.out)).1, HS1.out, HR.out, by have := HM1.out; have := HMU.out; omega, rfl⟩
            exact ⟨f, vr', vl2, _, L.length, rfl, by omega, Lib.hid HN⟩
          case measure => have := HM1.out; rw [HQ.out]; omega
    · have hR : Hid (m' = R) := by show _ = _; rw [← I.out.R', runD_stop hc]
      have c9 : wr.cell? ⟨k.br, 9, none⟩ = some (.int .i64 m'.state) := HM.out.c 9 (by decide)
      have c8 : wr.cell? ⟨k.br, 8, none⟩ = some (.int .i64 m'.steps) := HM.out.c 8 (by decide)
      have lb := HM.out.brLt.2
      by_cases h0 : m'.state = 0
      · have g0 : (m'.state == 0) = true := beq_iff_eq.2 h0
        have g1 : decide (m'.steps < n) = false := decide_eq_false (fun e => hc ⟨h0, e⟩)
        clear hc h0
        go_wp2_with fail
        refine bodyPost_end (results_none rfl _ _ _) rfl ?_
        exact ⟨vr', vl', rfl, by rw [← hR.out]; exact I.out.M, I.out.C⟩
      · have g0 : (m'.state == 0) = false := beq_eq_false_iff_ne.2 h0
        clear hc h0
        go_wp2_with fail
        refine bodyPost_end (results_none rfl _ _ _) rfl ?_
        exact ⟨vr', vl', rfl, by rw [← hR.out]; exact I.out.M, I.out.C⟩
end
instance (nc nd : Nat) : Decidable (mayD nc nd) := by unfold mayD; infer_instance
theorem rmay_c (nc nd : Nat) (w : World) (h1 : nc ≤ 1000000) (h2 : nd ≤ 1000000) :
    Calls Tryz.prog 9 #[.int .i64 (nc : Int), .int .i64 (nd : Int)] w fun e w' => e = .returned (.int .i64 (if mayD nc nd then 0 else 1)) ∧ w = w' := by
  by_cases hm : mayD nc nd
  · rw [if_pos hm]
    obtain ⟨m1, m2, m3, m4, m5⟩ := hm
    have g1 : decide ((nc : Int) < 1) = false := decide_eq_false (by omega)
    have g2 : decide ((32768 : Int) < (nc : Int)) = false := decide_eq_false (by omega)
    have g3 : decide ((nd : Int) < 4) = false := decide_eq_false (by omega)
    have g4 : decide ((65536 : Int) < (nd : Int)) = false := decide_eq_false (by omega)
    have g5 : ((nd : Int) % 4 != 0) = false := by rw [show (nd : Int) % 4 = 0 by omega]; rfl
    go_enter Tryz.func9, Tryz.ntmps9
    go_wp2_with fail
    go_ret
    exact ⟨rfl, rfl⟩
  · rw [if_neg hm]
    by_cases q1 : 1 ≤ nc
    · have g1 : decide ((nc : Int) < 1) = false := decide_eq_false (by omega)
      by_cases q2 : nc ≤ 32768
      · have g2 : decide ((32768 : Int) < (nc : Int)) = false := decide_eq_false (by omega)
        by_cases q3 : 4 ≤ nd
        · have g3 : decide ((nd : Int) < 4) = false := decide_eq_false (by omega)
          by_cases q4 : nd ≤ 65536
          · have g4 : decide ((65536 : Int) < (nd : Int)) = false := decide_eq_false (by omega)
            have q5 : nd % 4 ≠ 0 := fun e => hm ⟨q1, q2, q3, q4, e⟩
            have g5 : ((nd : Int) % 4 != 0) = true := bne_iff_ne.2 (by omega)
            clear hm
            go_enter Tryz.func9, Tryz.ntmps9
            go_wp2_with fail
            go_ret
            exact ⟨rfl, rfl⟩
          · have g4 : decide ((65536 : Int) < (nd : Int)) = true := decide_eq_true (by omega)
            clear hm
            go_enter Tryz.func9, Tryz.ntmps9
            go_wp2_with fail
            go_ret
            exact ⟨rfl, rfl⟩
        · have g3 : decide ((nd : Int) < 4) = true := decide_eq_true (by omega)
          clear hm
          go_enter Tryz.func9, Tryz.ntmps9
          go_wp2_with fail
          go_ret
          exact ⟨rfl, rfl⟩
      · have g2 : decide ((32768 : Int) < (nc : Int)) = true := decide_eq_true (by omega)
        clear hm
        go_enter Tryz.func9, Tryz.ntmps9
        go_wp2_with fail
        go_ret
        exact ⟨rfl, rfl⟩
    · have g1 : decide ((nc : Int) < 1) = true := decide_eq_true (by omega)
      clear hm
      go_enter Tryz.func9, Tryz.ntmps9
      go_wp2_with fail
      go_ret
      exact ⟨rfl, rfl⟩
/-- a machine of the document just begun -/
def BegP (wp : World) (C D I : List Int) (w : World) (e : Ending) (w' : World) : Prop := ∃ (k : WK) (vr : Value), e = .returned (.pointer (some ⟨k.br, 0, none⟩)) ∧ k.wp = wp ∧ k.B = w.heap.size ∧ k.code = C ∧ k.inp = I ∧ Wm k w' vr (.slice none 0 0) (beginD D) ∧ Below w.heap.size w w'
theorem beg_wm {wp w wj : World} {C D I : List Int} {aC aD aI : Option Addr} {cC cD cI : Nat} (hb0 : Below wp.heap.size wp w) (hC : Src wp (.slice aC C.length cC) C.length (C.map (Value.int .u32))) (hI : Src wp (.slice aI I.length cI) I.length (I.map (Value.int .u32)))
    (hD : wj.ownsRow w.heap.size 5 1 (.slice aD D.length cD) D.length (D.map (Value.int .u8))) (hb : Below w.heap.size w wj) :
    BegP wp C D I w (.returned (.pointer (some ⟨wj.heap.size + 1, 0, none⟩))) ((wj.alloc (.cells (madeCells #[.int .u32 0] 32) 40)).alloc (.cells #[.slice aC C.length cC, .slice aD D.length cD, .slice aI I.length cI, .slice (some ⟨wj.heap.size, 0, none⟩) 32 32, .int .i64 0, .int .u32 0, .int .u32 0, .slice none 0 0, .int .i64 0, .int .i64 0, .int .u32 0] 43)) := by
  obtain ⟨w1, hw1⟩ : ∃ w1, w1 = wj.alloc (.cells (madeCells #[.int .u32 0] 32) 40) := ⟨_, rfl⟩
  have hz : w1.heap.size = wj.heap.size + 1 := by rw [hw1]; simp
  have hR := own_zero32 wj w.heap.size hb.size
  have hB1 : Below wj.heap.size wj w1 := by rw [hw1]; exact vbelow1 wj _
  rw [← hw1] at hR ⊢
  have hB2 := vbelow1 w1 (.cells #[.slice aC C.length cC, .slice aD D.length cD, .slice aI I.length cI, .slice (some ⟨wj.heap.size, 0, none⟩) 32 32, .int .i64 0, .int .u32 0, .int .u32 0, .slice none 0 0, .int .i64 0, .int .i64 0, .int .u32 0] 43)
  have hBB := (hb.trans (hB1.mono hb.size)).trans (hB2.mono (Nat.le_trans hb.size hB1.size))
  rw [← hz]
  refine ⟨⟨wp, w.heap.size, w1.heap.size, .slice aC C.length cC, .slice aD D.length cD, .slice aI I.length cI, C, I⟩, .slice (some ⟨wj.heap.size, 0, none⟩) 32 32, rfl, rfl, rfl, rfl, rfl, ⟨?_, own_below (own_below hD hB1) hB2, own_below hR hB2, World.ownsRow_nil _ _ _ _, hC, hI, ⟨hb0.size, hBB.size⟩, hb0.trans (hBB.mono hb0.size)⟩, hBB⟩
  exact ⟨rfl, .inr ⟨w1.heap.size, 1, _, rfl, Nat.le_trans hb.size hB1.size, heap_alloc_new w1 _, Nat.le_refl _, by decide, rfl, rfl⟩⟩
theorem rbegin_c (wp : World) (vc vd vi : Value) (C D I : List Int) (w : World) (hb0 : Below wp.heap.size wp w) (hc : Src wp vc C.length (C.map (Value.int .u32))) (hd : Src wp vd D.length (D.map (Value.int .u8))) (hi : Src wp vi I.length (I.map (Value.int .u32))) (hl : D.length ≤ 1000000) (hdb : ∀ j, 0 ≤ D.getD j 0 ∧ D.getD j 0 < 256) :
    Calls Tryz.prog 14 #[vc, vd, vi] w (BegP wp C D I w) := by
  obtain ⟨ac, cc, rfl⟩ := hc.form
  obtain ⟨ad, cd, rfl⟩ := hd.form
  obtain ⟨ai, ci, rfl⟩ := hi.form
  have HC := Lib.hid hc
  have HI := Lib.hid hi
  have HB0 := Lib.hid hb0
  have HD : Hid (∀ j, j < D.length → ∃ b o, ad = some ⟨b, o, none⟩ ∧ w.cell? ⟨b, o + j, none⟩ = some (.int .u8 (D.getD j 0)) ∧ b < w.heap.size) := fun j hj => by
    rcases hd with ⟨e, h0, -⟩ | ⟨ad', c, e, hcl⟩
    · omega
    · simp only [Value.slice.injEq] at e
      obtain ⟨b, o, rfl, hx⟩ := hcl j (.int .u8 (D.getD j 0)) (by simp [List.getD, hj])
      have hlt := World.block_lt_of_cell? wp _ hx
      exact ⟨b, o, e.1, (hb0.cell (p := ⟨b, o + j, none⟩) hlt).trans hx, Nat.lt_of_lt_of_le hlt hb0.size⟩
  have hmk := make32
  clear hc hd hi hb0 hdb
  go_enter Tryz.func14, Tryz.ntmps14
  go_wp2_with fail
  go_loopw [7, 8] (fun dv i wr => ∃ (j : Nat), i = .int .i64 (j : Int) ∧ j ≤ D.length ∧ Hid (wr.ownsRow w.heap.size 5 1 dv j ((D.take j).map (Value.int .u8))) ∧ Hid (Below w.heap.size w wr)) (fun _ i _ => D.length - (intOf i).toNat)
  case atStart => exact ⟨0, rfl, Nat.zero_le _, World.ownsRow_nil _ _ _ _, Below.refl _ _⟩
  case round =>
    obtain ⟨j, rfl, hj, HO, HB⟩ := hrel
    obtain ⟨ao, co, rfl⟩ := vown_form HO.out
    by_cases hlt : j < D.length
    · obtain ⟨b, o, rfl, hx, lx⟩ := HD.out j hlt
      have hx := (HB.out.cell (p := ⟨b, o + j, none⟩) lx).trans hx
      have lx : b < wr.heap.size := Nat.lt_of_lt_of_le lx HB.out.size
      have ht : D.take (j + 1) = D.take j ++ [D.getD j 0] := by rw [List.take_succ]; simp [List.getD, hlt]
      have HT := Lib.hid ht
      generalize D.getD j 0 = x at *
      have g1 : decide ((j : Int) < (D.length : Int)) = true := decide_eq_true (by omega)
      have g2 : decide (j < D.length) = true := decide_eq_true hlt
      have O2 := Lib.hid (own_below HO.out (vbelow1 wr (.cells #[.int .u8 x] 5)))
      clear ht
      go_wp2_with (at_builtin; refine appG 23 5 vinfoU8 Tryz.underlying23 rfl (by decide) (by decide) [.int .u8 x] rfl (by simp [Value.oneCell']) O2.out rfl rfl rfl rfl (cell_newL _ _ _ _ rfl) (by omega) (by have := HB.out.size; simp; omega) ?_; intro o6 w6 O6 G6 D6; obtain ⟨a6, c6, ho6⟩ := vown_form O6; have B6 : Hid (Below w.heap.size w w6) := below_grown (HB.out.trans ((vbelow1 wr (.cells #[.int .u8 x] 5)).mono HB.out.size)) G6 (by have := HB.out.size; simp; omega) (fun c e => (own_lt O2.out e).1); have O6 := Lib.hid O6; clear G6 D6; subst ho6)
      go_roundw
      case rel => exact ⟨j + 1, rfl, by omega, by show World.ownsRow _ _ _ _ _ _ _; rw [HT.out, List.map_append]; exact O6.out, B6⟩
      case measure => simp [intOf]; omega
    · obtain rfl : j = D.length := by omega
      have HO2 : Hid (wr.ownsRow w.heap.size 5 1 (.slice ao D.length co) D.length (D.map (Value.int .u8))) := by have := HO.out; rw [List.take_length] at this; exact this
      have g1 : decide ((D.length : Int) < (D.length : Int)) = false := decide_eq_false (by omega)
      have g2 : decide (D.length < D.length) = false := decide_eq_false (by omega)
      clear HO hlt
      go_wp2_with fail
      go_ret
      exact beg_wm HB0.out HC.out HI.out HO2.out HB.out
end Go.Proofs.YtabmbhhodecmfaaGreat
