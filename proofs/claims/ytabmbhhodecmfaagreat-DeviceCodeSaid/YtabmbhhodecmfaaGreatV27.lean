/-
  Two machines alike; two machines in one memory.
-/
import Derived.Test.YtabmbhhodecmfaaGreatV24
import Derived.Test.YtabmbhhodecmfaaGreatV28
import Derived.Test.YtabmbhhodecmfaaGreatN2
set_option linter.all false
namespace Go.Proofs.YtabmbhhodecmfaaGreat
open Go.ChangeShapes Go.WideShapes Go.ChangeAt Go.RowKit
set_option maxHeartbeats 4000000
set_option linter.unusedVariables false
set_option maxRecDepth 100000

theorem log_cell {l : List (Int × Int)} (j : Nat) (hj : j < l.length) : (logV l)[j * 2]? = some (.int .u32 (l.getD j (0, 0)).1) ∧ (logV l)[j * 2 + 1]? = some (.int .u32 (l.getD j (0, 0)).2) := by
  have h := flat_at (fun x : Int × Int => [Value.int .u32 x.1, Value.int .u32 x.2]) 2 (fun _ => rfl) l j
  have h0 := h 0 hj (by decide)
  have h1 := h 1 hj (by decide)
  have e : l.getD j default = l.getD j (0, 0) := rfl
  rw [e] at h0 h1
  exact ⟨h0, h1⟩
/-- a row of records read -/
theorem own_log {w : World} {B n c : Nat} {e : TypeId} {a : Option Addr} {l : List (Int × Int)} (h : w.ownsRow B e 2 (.slice a n c) l.length (logV l)) (j : Nat) (hj : j < l.length) : ∃ g, a = some ⟨g, 0, none⟩ ∧ n = l.length ∧ w.cell? ⟨g, j * 2, none⟩ = some (.int .u32 (l.getD j (0, 0)).1) ∧ w.cell? ⟨g, j * 2 + 1, none⟩ = some (.int .u32 (l.getD j (0, 0)).2) ∧ g < w.heap.size := by
  have H := h
  obtain ⟨-, ⟨-, h0⟩ | ⟨g, cap, cur, e1, hb, hgg, hn, hc, -⟩⟩ := h
  · omega
  · simp only [Value.slice.injEq] at e1
    obtain ⟨rfl, rfl, rfl⟩ := e1
    obtain ⟨x0, x1⟩ := log_cell j hj
    exact ⟨g, rfl, rfl, (H.cellAt (j * 2) (by omega)).trans x0, (H.cellAt (j * 2 + 1) (by omega)).trans x1, (own_lt H rfl).2⟩
theorem own_ints {kd : IntKind} {w : World} {B n c : Nat} {e : TypeId} {a : Option Addr} {l : List Int} {m : Nat} (h : w.ownsRow B e 1 (.slice a n c) m (l.map (Value.int kd))) (hm : m = l.length) (j : Nat) (hj : j < l.length) : ∃ g, a = some ⟨g, 0, none⟩ ∧ n = l.length ∧ w.cell? ⟨g, j, none⟩ = some (.int kd (l.getD j 0)) ∧ g < w.heap.size := by
  have H := h
  obtain ⟨-, ⟨-, h0⟩ | ⟨g, cap, cur, e1, hb, hgg, hn, hc, -⟩⟩ := h
  · omega
  · simp only [Value.slice.injEq] at e1
    obtain ⟨rfl, rfl, rfl⟩ := e1
    refine ⟨g, rfl, hm, ?_, (own_lt H rfl).2⟩
    rw [H.cellAt j (by omega)]
    simp [List.getD, hj]
theorem gpc (bm : Nat) (w : World) (x : Int) (h : w.cell? ⟨bm, 32, none⟩ = some (.int .u32 x)) : Calls Tryz.prog 22 #[.pointer (some ⟨bm, 0, none⟩)] w fun e w' => e = .returned (.int .u32 x) ∧ w = w' := by
  have lb : bm < w.heap.size := World.block_lt_of_cell? w _ h
  go_enter Tryz.func22, Tryz.ntmps22
  go_wp2_with fail
  go_ret
  exact ⟨rfl, rfl⟩
theorem gsteps (bm : Nat) (w : World) (x : Int) (h : w.cell? ⟨bm, 40, none⟩ = some (.int .i64 x)) : Calls Tryz.prog 13 #[.pointer (some ⟨bm, 0, none⟩)] w fun e w' => e = .returned (.int .i64 x) ∧ w = w' := by
  have lb : bm < w.heap.size := World.block_lt_of_cell? w _ h
  go_enter Tryz.func13, Tryz.ntmps13
  go_wp2_with fail
  go_ret
  exact ⟨rfl, rfl⟩
theorem gstate (bm : Nat) (w : World) (x : Int) (h : w.cell? ⟨bm, 41, none⟩ = some (.int .i64 x)) : Calls Tryz.prog 25 #[.pointer (some ⟨bm, 0, none⟩)] w fun e w' => e = .returned (.int .i64 x) ∧ w = w' := by
  have lb : bm < w.heap.size := World.block_lt_of_cell? w _ h
  go_enter Tryz.func25, Tryz.ntmps25
  go_wp2_with fail
  go_ret
  exact ⟨rfl, rfl⟩
theorem gexit (bm : Nat) (w : World) (x : Int) (h : w.cell? ⟨bm, 42, none⟩ = some (.int .u32 x)) : Calls Tryz.prog 29 #[.pointer (some ⟨bm, 0, none⟩)] w fun e w' => e = .returned (.int .u32 x) ∧ w = w' := by
  have lb : bm < w.heap.size := World.block_lt_of_cell? w _ h
  go_enter Tryz.func29, Tryz.ntmps29
  go_wp2_with fail
  go_ret
  exact ⟨rfl, rfl⟩
section
variable {k : VK} {q : WK} {w : World} {vl vr vs : Value} {m : Dv} {ts : List Mt}
theorem alike_c (h : Vm k w vl m ts) (h' : Wm q w vr vs m) (hm : Dok m) (hs : m.steps ≤ 1000000) (hst : True) :
    Calls Tryz.prog 16 #[.pointer (some ⟨k.bm, 0, none⟩), .pointer (some ⟨q.br, 0, none⟩)] w fun e w' => e = .returned (.bool true) ∧ Below w.heap.size w w' := by
  have hll : m.log.length ≤ 1000000 := by have := hm.lb; omega
  have hdl := hm.dl
  have CL : Hid (∀ W, Below w.heap.size w W → Calls Tryz.prog 12 #[.pointer (some ⟨k.bm, 0, none⟩)] W fun e w' => ∃ v', e = .returned v' ∧ w'.ownsRow W.heap.size 66 2 v' m.log.length (logV m.log) ∧ Below W.heap.size W w') := fun W hW => vlog_c (h.grow hW) hll
  have CD : Hid (∀ W, Below w.heap.size w W → Calls Tryz.prog 20 #[.pointer (some ⟨k.bm, 0, none⟩)] W fun e w' => ∃ v', e = .returned v' ∧ w'.ownsRow W.heap.size 5 1 v' m.data.length (m.data.map (Value.int .u8)) ∧ Below W.heap.size W w') := fun W hW => vdata_c (h.grow hW) (by omega)
  have H := Lib.hid h
  have H' := Lib.hid h'
  have HM := Lib.hid hm
  clear h h' hm
  go_enter Tryz.func16, Tryz.ntmps16
  go_wp2_with (first | (go_at_call 12; (with_reducible refine (CL.out w (Below.refl _ _)).mono ?_); rintro e w1 ⟨vL, rfl, OL, B1⟩; obtain ⟨aL, cL, eL⟩ := vown_form OL; have OL := Lib.hid OL; have B1 := Lib.hid B1; subst eL) | (go_at_call 20; (with_reducible refine (CD.out w1 B1.out).mono ?_); rintro e w2 ⟨vD, rfl, OD, B2⟩; obtain ⟨aD, cD, eD⟩ := vown_form OD; have OD := Lib.hid OD; have B2 := Lib.hid B2; subst eD))
  have OL := Lib.hid (vown_base (own_below OL.out B2.out) (Nat.le_refl _))
  have BB := Lib.hid (B1.out.trans (B2.out.mono B1.out.size))
  have OD := Lib.hid (vown_base OD.out B1.out.size)
  have M := Lib.hid (H.out.grow BB.out)
  have M' := Lib.hid (H'.out.grow BB.out)
  clear B1 B2 CL CD H H'
  have cP : w2.cell? ⟨k.bm, 32, none⟩ = some (.int .u32 m.pc) := M.out.c 0 (by decide)
  have cS : w2.cell? ⟨k.bm, 40, none⟩ = some (.int .i64 m.steps) := M.out.c 8 (by decide)
  have cT : w2.cell? ⟨k.bm, 41, none⟩ = some (.int .i64 m.state) := M.out.c 9 (by decide)
  have cE : w2.cell? ⟨k.bm, 42, none⟩ = some (.int .u32 m.exit) := M.out.c 10 (by decide)
  obtain ⟨a_s, cs, es⟩ := vown_form M'.out.ll
  obtain ⟨ad, cd, ed⟩ := vown_form M'.out.dd
  have d1 : w2.cell? ⟨q.br, 1, none⟩ = some q.vd := M'.out.c 1 (by decide)
  have d4 : w2.cell? ⟨q.br, 4, none⟩ = some (.int .i64 m.pc) := M'.out.c 4 (by decide)
  have d7 : w2.cell? ⟨q.br, 7, none⟩ = some vs := M'.out.c 7 (by decide)
  have d8 : w2.cell? ⟨q.br, 8, none⟩ = some (.int .i64 m.steps) := M'.out.c 8 (by decide)
  have d9 : w2.cell? ⟨q.br, 9, none⟩ = some (.int .i64 m.state) := M'.out.c 9 (by decide)
  have d10 : w2.cell? ⟨q.br, 10, none⟩ = some (.int .u32 m.exit) := M'.out.c 10 (by decide)
  rw [ed] at d1
  rw [es] at d7
  have lq := M'.out.brLt.2
  have hpb := HM.out.pb
  have es := Lib.hid es
  have ed := Lib.hid ed
  refine wp_region_junk (fun _ => True) (by kernel_rfl) ?_
  refine J_mobs [0, 1, 2, 3, 4, 5, 6, 7, 8, 9, 10, 11, 12, 13, 14, 15, 16, 17, 18, 19, 22, 23, 24, 25] _ _ _ _ (by kernel_rfl) ?_
  simp only [List.map_cons, List.map_nil, List.getElem?_toArray, List.getElem?_cons_succ, List.getElem?_cons_zero, Option.getD_some, List.size_toArray, List.length_cons, List.length_nil, Nat.reduceAdd, Nat.reduceSub]
  repeat (go_big_quiet_step (fail))
  refine wpQuiet_nil ?_
  refine J_call 20 _ (.int .u32 m.pc) rfl (by kernel_rfl) rfl ?_ ?_
  all_goals simp only [List.getElem_toArray, List.getElem_cons_succ, List.getElem_cons_zero]
  · intro wk hk
    go_wp2_with fail
    refine (gpc k.bm wk m.pc (hk k.bm 32 _ trivial cP)).mono ?_
    rintro e wz ⟨rfl, rfl⟩
    go_wp2_with fail
    exact ⟨rfl, Below.refl _ _⟩
  simp only [Act.put, List.setIfInBounds_toArray, List.set_cons_succ, List.set_cons_zero]
  refine J_mobs [21, 26, 27, 28, 29, 31, 32, 33, 34] _ _ _ _ (by kernel_rfl) ?_
  simp only [List.map_cons, List.map_nil, List.getElem?_toArray, List.getElem?_cons_succ, List.getElem?_cons_zero, Option.getD_some, List.size_toArray, List.length_cons, List.length_nil, Nat.reduceAdd, Nat.reduceSub]
  repeat (go_big_quiet_step (fail))
  refine wpQuiet_nil ?_
  refine J_call 30 _ (.int .i64 m.steps) rfl (by kernel_rfl) rfl ?_ ?_
  all_goals simp only [List.getElem_toArray, List.getElem_cons_succ, List.getElem_cons_zero]
  · intro wk hk
    go_wp2_with fail
    refine (gsteps k.bm wk m.steps (hk k.bm 40 _ trivial cS)).mono ?_
    rintro e wz ⟨rfl, rfl⟩
    go_wp2_with fail
    exact ⟨rfl, Below.refl _ _⟩
  simp only [Act.put, List.setIfInBounds_toArray, List.set_cons_succ, List.set_cons_zero]
  refine J_mobs [35, 36, 37, 38, 40, 41, 42, 43] _ _ _ _ (by kernel_rfl) ?_
  simp only [List.map_cons, List.map_nil, List.getElem?_toArray, List.getElem?_cons_succ, List.getElem?_cons_zero, Option.getD_some, List.size_toArray, List.length_cons, List.length_nil, Nat.reduceAdd, Nat.reduceSub]
  repeat (go_big_quiet_step (fail))
  refine wpQuiet_nil ?_
  refine J_call 39 _ (.int .i64 m.state) rfl (by kernel_rfl) rfl ?_ ?_
  all_goals simp only [List.getElem_toArray, List.getElem_cons_succ, List.getElem_cons_zero]
  · intro wk hk
    go_wp2_with fail
    refine (gstate k.bm wk m.state (hk k.bm 41 _ trivial cT)).mono ?_
    rintro e wz ⟨rfl, rfl⟩
    go_wp2_with fail
    exact ⟨rfl, Below.refl _ _⟩
  simp only [Act.put, List.setIfInBounds_toArray, List.set_cons_succ, List.set_cons_zero]
  refine J_mobs [44, 45, 46, 47, 49, 50, 51, 52] _ _ _ _ (by kernel_rfl) ?_
  simp only [List.map_cons, List.map_nil, List.getElem?_toArray, List.getElem?_cons_succ, List.getElem?_cons_zero, Option.getD_some, List.size_toArray, List.length_cons, List.length_nil, Nat.reduceAdd, Nat.reduceSub]
  repeat (go_big_quiet_step (fail))
  refine wpQuiet_nil ?_
  refine J_call 48 _ (.int .u32 m.exit) rfl (by kernel_rfl) rfl ?_ ?_
  all_goals simp only [List.getElem_toArray, List.getElem_cons_succ, List.getElem_cons_zero]
  · intro wk hk
    go_wp2_with fail
    refine (gexit k.bm wk m.exit (hk k.bm 42 _ trivial cE)).mono ?_
    rintro e wz ⟨rfl, rfl⟩
    go_wp2_with fail
    exact ⟨rfl, Below.refl _ _⟩
  simp only [Act.put, List.setIfInBounds_toArray, List.set_cons_succ, List.set_cons_zero]
  refine J_mobs [53, 54] _ _ _ _ (by kernel_rfl) ?_
  simp only [List.map_cons, List.map_nil, List.getElem?_toArray, List.getElem?_cons_succ, List.getElem?_cons_zero, Option.getD_some, List.size_toArray, List.length_cons, List.length_nil, Nat.reduceAdd, Nat.reduceSub]
  repeat (go_big_quiet_step (fail))
  refine wpQuiet_nil ?_
  refine J_done (by kernel_rfl) (fun w3 h3 => ?_) _
  have M := Lib.hid (M.out.grow h3)
  have M' := Lib.hid (M'.out.grow h3)
  have OL := Lib.hid (own_below OL.out h3)
  have OD := Lib.hid (own_below OD.out h3)
  have BB := Lib.hid (BB.out.trans (h3.mono BB.out.size))
  clear h3 cP cS cT cE d1 d4 d7 d8 d9 d10 lq
  go_wp2_with fail
  have cut1 := trivial
  go_loopw [7] (fun i wr => ∃ j : Nat, i = .int .i64 (j : Int) ∧ j ≤ m.log.length ∧ Hid (Below w3.heap.size w3 wr)) (fun i _ => m.log.length - (intOf i).toNat)
  case atStart => exact ⟨0, rfl, Nat.zero_le _, Below.refl _ _⟩
  case round =>
    obtain ⟨j, rfl, hj, B4⟩ := hrel
    by_cases hlt : j < m.log.length
    · obtain ⟨gl, rfl, -, x0, x1, lgl⟩ := own_log (own_below OL.out B4.out) j hlt
      have O2 := (M'.out.grow B4.out).ll
      rw [es.out] at O2
      obtain ⟨gs, rfl, -, y0, y1, lgs⟩ := own_log O2 j hlt
      have d7 : wr.cell? ⟨q.br, 7, none⟩ = some vs := (M'.out.grow B4.out).c 7 (by decide)
      rw [es.out] at d7
      have lq := (M'.out.grow B4.out).brLt.2
      have g1 : decide ((j : Int) < (m.log.length : Int)) = true := decide_eq_true (by omega)
      have g2 : decide (j < m.log.length) = true := decide_eq_true hlt
      clear O2
      generalize (m.log.getD j (0, 0)).1 = u at *
      generalize (m.log.getD j (0, 0)).2 = v at *
      go_wp2_with fail
      go_quiet (fail)
      have B5 := Lib.hid (B4.out.trans ((below_drewN3 wr nq).mono B4.out.size))
      clear x0 x1 y0 y1 d7
      go_wp2_with fail
      exact ⟨⟨j + 1, rfl, by omega, B5⟩, by simp [intOf]; omega⟩
    · obtain rfl : j = m.log.length := by omega
      have g1 : decide ((m.log.length : Int) < (m.log.length : Int)) = false := decide_eq_false (by omega)
      have g2 : decide (m.log.length < m.log.length) = false := decide_eq_false (by omega)
      have M := Lib.hid (M.out.grow B4.out)
      have M' := Lib.hid (M'.out.grow B4.out)
      have OD := Lib.hid (own_below OD.out B4.out)
      have BB := Lib.hid (BB.out.trans (B4.out.mono BB.out.size))
      clear B4 OL hlt
      go_wp2_with fail
      obtain ⟨w4, hw4⟩ : ∃ w4, w4 = wr := ⟨_, rfl⟩
      rw [← hw4] at M M' OD BB ⊢
      clear hw4
      go_loopw [8] (fun i wr => ∃ j : Nat, i = .int .i64 (j : Int) ∧ j ≤ m.data.length ∧ Hid (Below w4.heap.size w4 wr)) (fun i _ => m.data.length - (intOf i).toNat)
      case atStart => exact ⟨0, rfl, Nat.zero_le _, Below.refl _ _⟩
      case round =>
        obtain ⟨j, rfl, hj, B4⟩ := hrel
        by_cases hlt : j < m.data.length
        · obtain ⟨gl, rfl, -, x0, lgl⟩ := own_ints (own_below OD.out B4.out) rfl j hlt
          have O2 := (M'.out.grow B4.out).dd
          rw [ed.out] at O2
          obtain ⟨gs, rfl, -, y0, lgs⟩ := own_ints O2 rfl j hlt
          have d1 : wr.cell? ⟨q.br, 1, none⟩ = some q.vd := (M'.out.grow B4.out).c 1 (by decide)
          rw [ed.out] at d1
          have lq := (M'.out.grow B4.out).brLt.2
          have g1 : decide ((j : Int) < (m.data.length : Int)) = true := decide_eq_true (by omega)
          have g2 : decide (j < m.data.length) = true := decide_eq_true hlt
          clear O2
          generalize m.data.getD j 0 = u at *
          go_wp2_with fail
          go_quiet (fail)
          have B5 := Lib.hid (B4.out.trans ((below_drewN3 wr nq).mono B4.out.size))
          clear x0 y0 d1
          go_wp2_with fail
          exact ⟨⟨j + 1, rfl, by omega, B5⟩, by simp [intOf]; omega⟩
        · obtain rfl : j = m.data.length := by omega
          have g1 : decide ((m.data.length : Int) < (m.data.length : Int)) = false := decide_eq_false (by omega)
          have g2 : decide (m.data.length < m.data.length) = false := decide_eq_false (by omega)
          have M := Lib.hid (M.out.grow B4.out)
          have M' := Lib.hid (M'.out.grow B4.out)
          have BB := Lib.hid (BB.out.trans (B4.out.mono BB.out.size))
          clear B4 OD hlt
          go_wp2_with fail
          obtain ⟨w5, hw5⟩ : ∃ w5, w5 = wr := ⟨_, rfl⟩
          rw [← hw5] at M M' BB ⊢
          clear hw5
          go_loopw [9] (fun i wr => ∃ j : Nat, i = .int .i64 (j : Int) ∧ j ≤ 32 ∧ Hid (Below w5.heap.size w5 wr)) (fun i _ => 32 - (intOf i).toNat)
          case atStart => exact ⟨0, rfl, Nat.zero_le _, Below.refl _ _⟩
          case round =>
            obtain ⟨j, rfl, hj, B4⟩ := hrel
            have MG := Lib.hid (M.out.grow B4.out)
            have MG' := Lib.hid (M'.out.grow B4.out)
            by_cases hlt : j < 32
            · obtain ⟨gr, gc, er, -, lgr, hrl, hcap⟩ := MG'.out.rF
              obtain ⟨y0, -, -⟩ := MG'.out.cR er j hlt
              have d3 : wr.cell? ⟨q.br, 3, none⟩ = some vr := MG'.out.c 3 (by decide)
              rw [er] at d3
              have lq := MG'.out.brLt.2
              have CR := vreg_c (MG.out.grow (Below.drew (Below.refl wr.heap.size wr))) (j : Int)
              rw [show regT m (j : Int) = m.regs.getD j 0 by unfold regT; rw [if_pos (by omega)]; rfl] at CR
              have CR := Lib.hid CR
              have g1 : decide ((j : Int) < 32) = true := decide_eq_true (by omega)
              have g2 : decide (j < 32) = true := decide_eq_true hlt
              clear er
              have HRD := Lib.hid (rfl : m.regs.getD j 0 = m.regs.getD j 0)
              generalize m.regs.getD j 0 = u at y0 CR
              have d3 : wr.drew.cell? ⟨q.br, 3, none⟩ = _ := d3
              have y0 : wr.drew.cell? ⟨gr, j, none⟩ = _ := y0
              have lq : q.br < wr.drew.heap.size := lq
              have B5 : Hid (Below w5.heap.size w5 wr.drew) := B4.out.trans ((Below.drew (Below.refl wr.heap.size wr)).mono B4.out.size)
              go_wp2_with fail
              refine wp_region_game (fun x => x = q.br ∨ x = gr) (by kernel_rfl) ?_
              show wpE _ _ _ _ _ _ _ wr.drew
              generalize wr.drew = w6 at *
              refine E_mob2s [0, 1, 3, 4, 5, 6, 7, 8, 9] _ _ _ _ (by kernel_rfl) ?_
              simp only [List.map_cons, List.map_nil, List.getElem?_toArray, List.getElem?_cons_succ, List.getElem?_cons_zero, Option.getD_some, List.size_toArray, List.length_cons, List.length_nil, Nat.reduceAdd, Nat.reduceSub]
              repeat (go_big_quiet_step (fail))
              refine wpQuiet_nil ?_
              refine E_loud1 2 _ rfl (by kernel_rfl) ?_
              simp only [List.getElem_toArray, List.getElem_cons_succ, List.getElem_cons_zero]
              go_wp2_with fail
              refine CR.out.mono ?_
              rintro e w7 ⟨rfl, rfl⟩
              go_wp2_with fail
              refine ⟨Keep.refl _ _, ?_⟩
              refine E_mob2s [10] _ _ _ _ (by kernel_rfl) ?_
              simp only [List.map_cons, List.map_nil, List.getElem?_toArray, List.getElem?_cons_succ, List.getElem?_cons_zero, Option.getD_some, List.size_toArray, List.length_cons, List.length_nil, Nat.reduceAdd, Nat.reduceSub]
              repeat (go_big_quiet_step (fail))
              refine wpQuiet_nil ?_
              refine E_done (by kernel_rfl) ?_ _
              go_wp2_with fail
              exact ⟨⟨j + 1, rfl, by omega, B5⟩, by simp [intOf]; omega⟩
            · obtain rfl : j = 32 := by omega
              have C1 := vreg_c MG.out (-1)
              rw [show regT m (-1) = 0 from rfl] at C1
              have C1 := Lib.hid C1
              have C2 := vreg_c MG.out 32
              rw [show regT m 32 = 0 from rfl] at C2
              have C2 := Lib.hid C2
              go_wp2_with (first | (go_at_call 21; (with_reducible refine C1.out.mono ?_); rintro e w7 ⟨rfl, rfl⟩) | (go_at_call 21; (with_reducible refine C2.out.mono ?_); rintro e w7 ⟨rfl, rfl⟩))
              go_ret
              exact ⟨rfl, BB.out.trans (B4.out.mono BB.out.size)⟩
end
theorem ne_own {w : World} {B B' s s' n n' : Nat} {e e' : TypeId} {v v' : Value} {xs xs' : List Value} (h : w.ownsRow B e s v n xs) (h' : w.ownsRow B' e' s' v' n' xs') (he : e ≠ e') {g : Nat} (hg : v.ownBlock = some g) : some g ≠ v'.ownBlock := by
  rcases vm_ne (a := 0) (b := 0) h h' he with h1 | h1
  · rw [h1] at hg; cases hg
  · rw [← hg]; exact h1
/-- the device's fixed blocks lie below the document's -/
structure Lo (k : VK) (q : WK) : Prop where
  bm : k.bm < q.B
  bt : k.bt < q.B
  vc : ∀ g, k.vc.ownBlock = some g → g < q.B
  vd : ∀ g, k.vd.ownBlock = some g → g < q.B
  vi : ∀ g, k.vi.ownBlock = some g → g < q.B
  wp : q.wp.heap.size ≤ k.B
section
variable {k : VK} {q : WK} {w w' : World} {vl vl' vr vr' vs vs' : Value} {m m' : Dv} {ts : List Mt}
theorem Vm.lo (h : Vm k w vl m ts) (hB : w.heap.size ≤ q.B) (hw : q.wp.heap.size ≤ k.B) : Lo k q :=
  ⟨by have := h.bmLt.2; omega, by have := h.btLt.2; omega, fun g e => by have := (own_lt h.cc e).2; omega, fun g e => by have := (own_lt h.dd e).2; omega, fun g e => by have := (own_lt h.ii e).2; omega, hw⟩
theorem Vm.chw (h : Vm k w vl m ts) (h' : Wm q w vr vs m') (lo : Lo k q) (hc : Chw q vr vs vr' vs' w w') : Vm k w' vl m ts := by
  have hbr := h'.brLt.1
  have hd : ∀ g, q.vd.ownBlock = some g → q.B ≤ g := fun g e => (own_lt h'.dd e).1
  have hr : ∀ g, vr.ownBlock = some g → q.B ≤ g := fun g e => (own_lt h'.rr e).1
  have hl : ∀ g, vs.ownBlock = some g → q.B ≤ g := fun g e => (own_lt h'.ll e).1
  have low : ∀ g, g < q.B → g < w.heap.size → w'.heap[g]? = w.heap[g]? := fun g h1 h2 => hc.keep g h2 (by omega) (fun e => by have := hd g e.symm; omega) (fun e => by have := hr g e.symm; omega) (fun e => by have := hl g e.symm; omega)
  refine ⟨own_same h.bx (fun g e h2 => low g (by cases e; exact lo.bm) h2), own_same h.cc (fun g e h2 => low g (lo.vc g e) h2), own_same h.mt (fun g e h2 => low g (by cases e; exact lo.bt) h2), own_same h.dd (fun g e h2 => low g (lo.vd g e) h2), own_same h.ii (fun g e h2 => low g (lo.vi g e) h2), own_same h.ll (fun g e h2 => ?_), h.rl, h.tl, h.tr, Nat.le_trans h.low hc.size⟩
  refine hc.keep g h2 ?_ (ne_own h.ll h'.dd (by decide) e) (ne_own h.ll h'.rr (by decide) e) (ne_own h.ll h'.ll (by decide) e)
  have := ne_own h.ll h'.bx (by decide) e
  intro e2; exact this (by rw [e2]; rfl)
theorem Wm.chv (h' : Wm q w vr vs m') (h : Vm k w vl m ts) (lo : Lo k q) (hc : Chv k vl vl' w w') : Wm q w' vr vs m' := by
  have key : ∀ {s n : Nat} {e : TypeId} {v : Value} {xs : List Value}, w.ownsRow q.B e s v n xs → e ≠ 66 → w'.ownsRow q.B e s v n xs := fun hr he => own_same hr fun g e1 h2 => by
    have hb := (own_lt hr e1).1
    refine hc.keep g h2 (by have := lo.bm; omega) (by have := lo.bt; omega) (fun e2 => by have := lo.vd g e2.symm; omega) (ne_own hr h.ll he e1)
  have hB : k.B ≤ k.bm := h.bmLt.1
  refine ⟨key h'.bx (by decide), key h'.dd (by decide), key h'.rr (by decide), key h'.ll (by decide), h'.cc, h'.ii, ⟨h'.low.1, Nat.le_trans h'.low.2 hc.size⟩, h'.below.trans (hc.below (by have := h'.low; omega) ?_ ?_ ?_ ?_)⟩
  · have := lo.wp; omega
  · have := lo.wp; have := h.btLt.1; omega
  · intro g e; have := lo.wp; have := (own_lt h.dd e).1; omega
  · intro g e; have := lo.wp; have := (own_lt h.ll e).1; omega
/-- a bound below which the device changes nothing -/
theorem Vm.chvBelow (h : Vm k w vl m ts) (hc : Chv k vl vl' w w') : Below k.B w w' :=
  hc.below h.low h.bmLt.1 h.btLt.1 (fun g e => (own_lt h.dd e).1) (fun g e => (own_lt h.ll e).1)
theorem Wm.chwBelow (h : Wm q w vr vs m) (hc : Chw q vr vs vr' vs' w w') : Below q.B w w' :=
  hc.below h.brLt.1 (fun g e => (own_lt h.dd e).1) (fun g e => (own_lt h.rr e).1) (fun g e => (own_lt h.ll e).1) h.low.2
end
end Go.Proofs.YtabmbhhodecmfaaGreat
