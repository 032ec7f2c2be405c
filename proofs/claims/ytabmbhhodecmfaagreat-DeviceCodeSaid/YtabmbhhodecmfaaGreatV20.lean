/-
  The document's stores, a register set, a failure of the power.
-/
import Derived.Test.YtabmbhhodecmfaaGreatV19
import Derived.Test.YtabmbhhodecmfaaGreatN2
set_option linter.all false
namespace Go.Proofs.YtabmbhhodecmfaaGreat
open Go.ChangeShapes Go.WideShapes Go.ChangeAt Go.RowKit
set_option maxHeartbeats 2000000
set_option linter.unusedVariables false
set_option maxRecDepth 20000

theorem winfoRec : (Tryz.prog.info? 67).map (fun i => (i.zero, i.size, i.bytes)) = some (some (.agg #[.int .u32 0, .int .u32 0]), 2, 8) := by kernel_rfl
section
variable {k : WK} {w : World} {vr vl : Value} {m : Dv}
theorem wport_seq (v : Int) (h : Wm k w vr vl m) :
    Calls Tryz.prog 48 #[.pointer (some ⟨k.br, 0, none⟩), .int .i64 18, .int .i64 536870912, .int .u32 v] w fun e w' => e = .returned (.bool true) ∧ Wm k w' vr vl { m with seq := v } ∧ Chw k vr vl vr vl w w' := by
  have HS := Lib.hid (h.setSeq v)
  have cF : w.cell? ⟨k.br, 5, none⟩ = some (.int .u32 m.seq) := h.c 5 (by decide)
  have fz := h.fz 5
  have lb := h.brLt.2
  clear h
  generalize k.br = bm at *
  go_enter Tryz.func48, Tryz.ntmps48
  go_wp2_with fail
  go_ret
  exact ⟨rfl, HS.out⟩
theorem wport_index (v : Int) (h : Wm k w vr vl m) :
    Calls Tryz.prog 48 #[.pointer (some ⟨k.br, 0, none⟩), .int .i64 18, .int .i64 536870920, .int .u32 v] w fun e w' => e = .returned (.bool true) ∧ Wm k w' vr vl { m with index := v } ∧ Chw k vr vl vr vl w w' := by
  have HS := Lib.hid (h.setIndex v)
  have cF : w.cell? ⟨k.br, 6, none⟩ = some (.int .u32 m.index) := h.c 6 (by decide)
  have fz := h.fz 6
  have lb := h.brLt.2
  clear h
  generalize k.br = bm at *
  go_enter Tryz.func48, Tryz.ntmps48
  go_wp2_with fail
  go_ret
  exact ⟨rfl, HS.out⟩
theorem wport_halt (v : Int) (h : Wm k w vr vl m) :
    Calls Tryz.prog 48 #[.pointer (some ⟨k.br, 0, none⟩), .int .i64 18, .int .i64 536870928, .int .u32 v] w fun e w' => e = .returned (.bool true) ∧ Wm k w' vr vl { m with state := 1, exit := v } ∧ Chw k vr vl vr vl w w' := by
  obtain ⟨s1, s2⟩ := h.setState 1
  obtain ⟨s3, s4⟩ := s1.setExit v
  have HS : Hid (Wm k _ vr vl { m with state := 1, exit := v } ∧ Chw k vr vl vr vl w _) := ⟨s3, s2.trans s4⟩
  have cF : w.cell? ⟨k.br, 9, none⟩ = some (.int .i64 m.state) := h.c 9 (by decide)
  have cG : w.cell? ⟨k.br, 10, none⟩ = some (.int .u32 m.exit) := h.c 10 (by decide)
  have fz := h.fz 9
  have fy := h.fz 10
  have lb := h.brLt.2
  clear h s1 s2 s3 s4
  generalize k.br = bm at *
  go_enter Tryz.func48, Tryz.ntmps48
  go_wp2_with fail
  go_ret
  exact ⟨rfl, HS.out⟩
theorem wport_out (v : Int) (h : Wm k w vr vl m) (hl : m.log.length ≤ 1000000) :
    Calls Tryz.prog 48 #[.pointer (some ⟨k.br, 0, none⟩), .int .i64 18, .int .i64 536870916, .int .u32 v] w fun e w' => ∃ vl', e = .returned (.bool true) ∧ Wm k w' vr vl' { m with log := m.log ++ [(m.seq, v)] } ∧ Chw k vr vl vr vl' w w' := by
  have H := Lib.hid h
  have BD := Lib.hid (Below.drew (Below.refl w.heap.size w))
  have cL : w.drew.cell? ⟨k.br, 7, none⟩ = some vl := h.c 7 (by decide)
  have cS : w.drew.cell? ⟨k.br, 5, none⟩ = some (.int .u32 m.seq) := h.c 5 (by decide)
  have lb : k.br < w.drew.heap.size := h.brLt.2
  clear h
  go_enter Tryz.func48, Tryz.ntmps48
  go_wp2_with fail
  refine wp_region_game (fun x => x = k.br) (by kernel_rfl) ?_
  show wpE _ _ _ _ _ _ _ w.drew
  have HD := Lib.hid (H.out.grow BD.out)
  generalize w.drew = W1 at *
  clear H
  refine E_mob2s [0, 1, 2, 3, 4, 5, 6, 7, 8, 9, 10] _ _ _ _ (by kernel_rfl) ?_
  simp only [List.map_cons, List.map_nil, List.getElem?_toArray, List.getElem?_cons_succ, List.getElem?_cons_zero, Option.getD_some, List.size_toArray, List.length_cons, List.length_nil, Nat.reduceAdd, Nat.reduceSub]
  repeat (go_big_quiet_step (fail))
  refine wpQuiet_nil ?_
  refine E_loud1 11 _ rfl (by kernel_rfl) ?_
  simp only [List.getElem_toArray, List.getElem_cons_succ, List.getElem_cons_zero]
  go_wp2_with fail
  refine ⟨vkeep (vbelow1 _ _) (fun x hx => by cases hx; omega), ?_⟩
  have B2 := Lib.hid (vbelow1 W1 (.cells #[.int .u32 m.seq, .int .u32 v] 67))
  have O2 := Lib.hid (own_below HD.out.ll B2.out)
  refine E_loud1 12 _ rfl (by kernel_rfl) ?_
  simp only [List.getElem_toArray, List.getElem_cons_succ, List.getElem_cons_zero]
  refine appG 41 67 winfoRec Tryz.underlying41 rfl (by decide) (by decide) [.int .u32 m.seq, .int .u32 v] rfl (by simp [Value.oneCell']) O2.out rfl rfl rfl rfl (cell_newL _ _ _ _ rfl) (by omega) (by have := HD.out.low.2; have := B2.out.size; omega) ?_
  intro o6 w6 O6 G6 D6
  have D7 : o6.ownBlock = vl.ownBlock ∨ o6.ownBlock = some (W1.alloc (.cells #[.int .u32 m.seq, .int .u32 v] 67)).heap.size := D6
  obtain ⟨a6, c6, ho6⟩ := vown_form O6
  obtain ⟨s1, s2⟩ := (HD.out.grow B2.out).appLog G6 O6 D7
  have HS : Hid (Wm k _ vr o6 { m with log := m.log ++ [(m.seq, v)] } ∧ Chw k vr vl vr o6 w _) := ⟨s1, ((Chw.of_below BD.out).trans (Chw.of_below B2.out)).trans s2⟩
  have HK6 : Hid (Keep (fun x => x = k.br) (W1.alloc (.cells #[.int .u32 m.seq, .int .u32 v] 67)) w6) := fun x p hx => by
    refine World.cell?_of_block (a := ⟨x, p, none⟩) (G6.block x (by cases hx; have := B2.out.size; simp; omega) ?_)
    cases hx
    rcases vm_ne (a := 0) (b := 0) (HD.out.grow B2.out).bx O2.out (by decide) with h | h
    · cases h
    · exact h
  have bx6 := (HD.out.grow B2.out).bx.kept G6 (vm_ne (a := 0) (b := 0) (HD.out.grow B2.out).bx O2.out (by decide))
  have f6 := bx6.frozenAt 7
  have q6 : w6.cell? ⟨k.br, 7, none⟩ = some vl := bx6.cellAt 7 (by decide)
  have l6 : k.br < w6.heap.size := by have := G6.size; have := B2.out.size; omega
  clear G6 D6 D7 O6 B2 O2 HD bx6 s1 s2 cL cS BD
  subst ho6
  go_wp2_with fail
  refine ⟨HK6.out, ?_⟩
  refine E_mob2s [13, 14] _ _ _ _ (by kernel_rfl) ?_
  simp only [List.map_cons, List.map_nil, List.getElem?_toArray, List.getElem?_cons_succ, List.getElem?_cons_zero, Option.getD_some, List.size_toArray, List.length_cons, List.length_nil, Nat.reduceAdd, Nat.reduceSub]
  repeat (go_big_quiet_step (fail))
  refine wpQuiet_nil ?_
  refine E_last 15 _ rfl (by kernel_rfl) ?_
  simp only [List.getElem_toArray, List.getElem_cons_succ, List.getElem_cons_zero]
  go_wp2_with fail
  refine E_done (by kernel_rfl) ?_ _
  go_wp2_with fail
  go_ret
  exact ⟨_, rfl, HS.out⟩
theorem wport_yes (at' v : Int) (h : Wm k w vr vl m) (hl : m.log.length ≤ 1000000) (m' : Dv) (hp : portD m at' v = some m') :
    Calls Tryz.prog 48 #[.pointer (some ⟨k.br, 0, none⟩), .int .i64 18, .int .i64 at', .int .u32 v] w fun e w' => ∃ vl', e = .returned (.bool true) ∧ Wm k w' vr vl' m' ∧ Chw k vr vl vr vl' w w' := by
  unfold portD at hp
  split at hp
  · rename_i e; subst e; cases hp; exact (wport_seq v h).mono fun e w' h => ⟨vl, h⟩
  split at hp
  · rename_i e; subst e; cases hp; exact wport_out v h hl
  split at hp
  · rename_i e; subst e; cases hp; exact (wport_index v h).mono fun e w' h => ⟨vl, h⟩
  split at hp
  · rename_i e; subst e; cases hp; exact (wport_halt v h).mono fun e w' h => ⟨vl, h⟩
  · cases hp
theorem port_ne {at' v : Int} (hp : portD m at' v = none) : (at' - 536870912 == 0) = false ∧ (at' - 536870912 == 4) = false ∧ (at' - 536870912 == 8) = false ∧ (at' - 536870912 == 16) = false := by
  have h1 : ¬ at' = 536870912 := fun h => by subst h; simp [portD] at hp
  have h2 : ¬ at' = 536870916 := fun h => by subst h; simp [portD] at hp
  have h3 : ¬ at' = 536870920 := fun h => by subst h; simp [portD] at hp
  have h4 : ¬ at' = 536870928 := fun h => by subst h; simp [portD] at hp
  exact ⟨beq_eq_false_iff_ne.2 (by omega), beq_eq_false_iff_ne.2 (by omega), beq_eq_false_iff_ne.2 (by omega), beq_eq_false_iff_ne.2 (by omega)⟩
theorem wstore_no (op at' v : Int) (h : Wm k w vr vl m) (hm : Dok m) (h1 : 0 ≤ at') (h2 : at' < 4294967296) (ho : 16 ≤ op) (ho' : op ≤ 18) (hp : op = 18 → portD m at' v = none) (hl : liesP m at' (sizeP op) = false) :
    Calls Tryz.prog 48 #[.pointer (some ⟨k.br, 0, none⟩), .int .i64 op, .int .i64 at', .int .u32 v] w fun e w' => e = .returned (.bool false) ∧ w = w' := by
  have CS := Lib.hid (fun w => rsize_d op w (by omega) (by omega))
  have CP := rin_c at' (sizeP op) h hm h1 h2 (sizeP_or op)
  rw [hl] at CP
  have CP := Lib.hid CP
  clear h hl
  generalize k.br = bm at *
  have hc : op = 16 ∨ op = 17 ∨ op = 18 := by omega
  clear ho ho'
  rcases hc with rfl | rfl | rfl
  case inr.inr =>
    obtain ⟨g1, g2, g3, g4⟩ := port_ne (hp rfl)
    clear hp
    go_enter Tryz.func48, Tryz.ntmps48
    go_wp2_with (first | (go_at_call 76; (with_reducible refine (CS.out _).mono ?_); rintro e w1 ⟨rfl, rfl⟩) | (go_at_call 77; (with_reducible refine CP.out.mono ?_); rintro e w1 ⟨rfl, rfl⟩))
    go_ret
    exact ⟨rfl, rfl⟩
  all_goals
    clear hp
    go_enter Tryz.func48, Tryz.ntmps48
    go_wp2_with (first | (go_at_call 76; (with_reducible refine (CS.out _).mono ?_); rintro e w1 ⟨rfl, rfl⟩) | (go_at_call 77; (with_reducible refine CP.out.mono ?_); rintro e w1 ⟨rfl, rfl⟩))
    go_ret
    exact ⟨rfl, rfl⟩
theorem wstore_yes (op at' v : Int) (h : Wm k w vr vl m) (hm : Dok m) (h1 : 0 ≤ at') (h2 : at' < 4294967296) (hv1 : 0 ≤ v) (hv2 : v < 4294967296) (ho : 16 ≤ op) (ho' : op ≤ 18) (hp : op = 18 → portD m at' v = none) (hl : liesP m at' (sizeP op) = true) :
    Calls Tryz.prog 48 #[.pointer (some ⟨k.br, 0, none⟩), .int .i64 op, .int .i64 at', .int .u32 v] w fun e w' => e = .returned (.bool true) ∧ Wm k w' vr vl { m with data := putP m.data (at' - 268435456).toNat v (sizeP op).toNat } ∧ Chw k vr vl vr vl w w' := by
  have CS := Lib.hid (fun w => rsize_d op w (by omega) (by omega))
  have CP := rin_c at' (sizeP op) h hm h1 h2 (sizeP_or op)
  rw [hl] at CP
  obtain ⟨-, q1, q2⟩ := liesP_ends _ _ _ hl
  obtain ⟨N, hN⟩ : ∃ N : Nat, at' - 268435456 = (N : Int) := ⟨(at' - 268435456).toNat, by omega⟩
  rw [show (at' - 268435456).toNat = N by omega]
  have CP := Lib.hid CP
  obtain ⟨g, c, eD, hcap⟩ := h.cD (by have := hm.dl; omega)
  have hdl := hm.dl
  have q3 : (N : Int) + sizeP op ≤ m.data.length := by omega
  have H := Lib.hid h
  clear h hl hm q1
  have hc : op = 16 ∨ op = 17 ∨ op = 18 := by omega
  clear ho ho'
  rcases hc with rfl | rfl | rfl
  · clear hp
    have q3 : N + 1 ≤ m.data.length := by have : sizeP 16 = 1 := rfl; omega
    have hN2 : N ≤ 65535 := by omega
    have CS : Hid (∀ w, Calls Tryz.prog 76 #[.int .i64 16] w fun e w' => e = .returned (.int .i64 1) ∧ w = w') := CS
    have CP : Hid (Calls Tryz.prog 77 #[.pointer (some ⟨k.br, 0, none⟩), .int .i64 at', .int .i64 1] w fun e w' => e = .returned (.bool true) ∧ w = w') := CP
    go_enter Tryz.func48, Tryz.ntmps48
    go_wp2_with (first | (go_at_call 76; (with_reducible refine (CS.out _).mono ?_); rintro e w1 ⟨rfl, rfl⟩) | (go_at_call 77; (with_reducible refine CP.out.mono ?_); rintro e w1 ⟨rfl, rfl⟩))
    go_loopw [11, 12] (fun lv i wr => ∃ j : Nat, j ≤ 1 ∧ i = .int .i64 (j : Int) ∧ lv = .int .i64 (v / 256 ^ j) ∧ Hid (Wm k wr vr vl { m with data := putP m.data N v j }) ∧ Hid (Chw k vr vl vr vl w wr)) (fun _ i _ => 1 - (intOf i).toNat)
    case atStart => exact ⟨0, Nat.zero_le _, rfl, congrArg (Value.int .i64) (by simp), H.out, Chw.refl _ _ _ _⟩
    case round =>
      obtain ⟨j, hj, rfl, rfl, M, KK⟩ := hrel
      by_cases hlj : j < 1
      · match j, hlj with
        | 0, _ =>
          have hcc := M.out.cDat eD (N) (by show _ < (putP m.data N v 0).length; rw [putP_len]; omega)
          obtain ⟨hc, fz, lg⟩ := hcc
          have cD : wr.cell? ⟨k.br, 1, none⟩ = some k.vd := M.out.c 1 (by decide)
          rw [eD] at cD
          have lb := M.out.brLt.2
          obtain ⟨HS1, HS2⟩ := M.out.setD (show k.vd = .slice (some ⟨g, 0, none⟩) (putP m.data N v 0).length c by rw [putP_len]; exact eD) (N) (v / 256 ^ 0 % 256)
          have HQ : Hid (v / 256 ^ 0 / 256 = v / 256 ^ (0 + 1)) := by show _ = _; rw [Int.ediv_ediv_of_nonneg (by decide)]; rfl
          have HE : Hid (putP m.data N v (0 + 1) = (putP m.data N v 0).set (N) (v / 256 ^ 0 % 256)) := rfl
          have hq1 : 0 ≤ v / 256 ^ 0 := Int.ediv_nonneg hv1 (by decide)
          have hq2 : v / 256 ^ 0 < 4294967296 := Int.lt_of_le_of_lt (Int.ediv_le_self _ hv1) hv2
          have HW : IntKind.i64.wrap (N : Int) = (N : Int) := IntWalk.i64_in _ (by omega)
          have HS1 := Lib.hid HS1
          have HS2 := Lib.hid (KK.out.trans HS2)
          clear M KK
          generalize v / 256 ^ 0 = q at *
          go_wp2_with fail
          go_roundw
          case rel => exact ⟨0 + 1, by decide, rfl, congrArg (Value.int .i64) HQ.out, by show Wm _ _ _ _ _; rw [HE.out]; exact HS1.out, HS2⟩
          case measure => decide
      · obtain rfl : j = 1 := by omega
        go_wp2_with fail
        go_ret
        exact ⟨rfl, M.out, KK.out⟩
  · clear hp
    have q3 : N + 2 ≤ m.data.length := by have : sizeP 17 = 2 := rfl; omega
    have hN2 : N ≤ 65534 := by omega
    have CS : Hid (∀ w, Calls Tryz.prog 76 #[.int .i64 17] w fun e w' => e = .returned (.int .i64 2) ∧ w = w') := CS
    have CP : Hid (Calls Tryz.prog 77 #[.pointer (some ⟨k.br, 0, none⟩), .int .i64 at', .int .i64 2] w fun e w' => e = .returned (.bool true) ∧ w = w') := CP
    go_enter Tryz.func48, Tryz.ntmps48
    go_wp2_with (first | (go_at_call 76; (with_reducible refine (CS.out _).mono ?_); rintro e w1 ⟨rfl, rfl⟩) | (go_at_call 77; (with_reducible refine CP.out.mono ?_); rintro e w1 ⟨rfl, rfl⟩))
    go_loopw [11, 12] (fun lv i wr => ∃ j : Nat, j ≤ 2 ∧ i = .int .i64 (j : Int) ∧ lv = .int .i64 (v / 256 ^ j) ∧ Hid (Wm k wr vr vl { m with data := putP m.data N v j }) ∧ Hid (Chw k vr vl vr vl w wr)) (fun _ i _ => 2 - (intOf i).toNat)
    case atStart => exact ⟨0, Nat.zero_le _, rfl, congrArg (Value.int .i64) (by simp), H.out, Chw.refl _ _ _ _⟩
    case round =>
      obtain ⟨j, hj, rfl, rfl, M, KK⟩ := hrel
      by_cases hlj : j < 2
      · match j, hlj with
        | 0, _ =>
          have hcc := M.out.cDat eD (N) (by show _ < (putP m.data N v 0).length; rw [putP_len]; omega)
          obtain ⟨hc, fz, lg⟩ := hcc
          have cD : wr.cell? ⟨k.br, 1, none⟩ = some k.vd := M.out.c 1 (by decide)
          rw [eD] at cD
          have lb := M.out.brLt.2
          obtain ⟨HS1, HS2⟩ := M.out.setD (show k.vd = .slice (some ⟨g, 0, none⟩) (putP m.data N v 0).length c by rw [putP_len]; exact eD) (N) (v / 256 ^ 0 % 256)
          have HQ : Hid (v / 256 ^ 0 / 256 = v / 256 ^ (0 + 1)) := by show _ = _; rw [Int.ediv_ediv_of_nonneg (by decide)]; rfl
          have HE : Hid (putP m.data N v (0 + 1) = (putP m.data N v 0).set (N) (v / 256 ^ 0 % 256)) := rfl
          have hq1 : 0 ≤ v / 256 ^ 0 := Int.ediv_nonneg hv1 (by decide)
          have hq2 : v / 256 ^ 0 < 4294967296 := Int.lt_of_le_of_lt (Int.ediv_le_self _ hv1) hv2
          have HW : IntKind.i64.wrap (N : Int) = (N : Int) := IntWalk.i64_in _ (by omega)
          have HS1 := Lib.hid HS1
          have HS2 := Lib.hid (KK.out.trans HS2)
          clear M KK
          generalize v / 256 ^ 0 = q at *
          go_wp2_with fail
          go_roundw
          case rel => exact ⟨0 + 1, by decide, rfl, congrArg (Value.int .i64) HQ.out, by show Wm _ _ _ _ _; rw [HE.out]; exact HS1.out, HS2⟩
          case measure => decide
        | 1, _ =>
          have hcc := M.out.cDat eD (N + 1) (by show _ < (putP m.data N v 1).length; rw [putP_len]; omega)
          obtain ⟨hc, fz, lg⟩ := hcc
          have cD : wr.cell? ⟨k.br, 1, none⟩ = some k.vd := M.out.c 1 (by decide)
          rw [eD] at cD
          have lb := M.out.brLt.2
          obtain ⟨HS1, HS2⟩ := M.out.setD (show k.vd = .slice (some ⟨g, 0, none⟩) (putP m.data N v 1).length c by rw [putP_len]; exact eD) (N + 1) (v / 256 ^ 1 % 256)
          have HQ : Hid (v / 256 ^ 1 / 256 = v / 256 ^ (1 + 1)) := by show _ = _; rw [Int.ediv_ediv_of_nonneg (by decide)]; rfl
          have HE : Hid (putP m.data N v (1 + 1) = (putP m.data N v 1).set (N + 1) (v / 256 ^ 1 % 256)) := rfl
          have hq1 : 0 ≤ v / 256 ^ 1 := Int.ediv_nonneg hv1 (by decide)
          have hq2 : v / 256 ^ 1 < 4294967296 := Int.lt_of_le_of_lt (Int.ediv_le_self _ hv1) hv2
          have HW : IntKind.i64.wrap ((N : Int) + 1) = (N : Int) + 1 := IntWalk.i64_in _ (by omega)
          have HS1 := Lib.hid HS1
          have HS2 := Lib.hid (KK.out.trans HS2)
          clear M KK
          generalize v / 256 ^ 1 = q at *
          go_wp2_with fail
          go_roundw
          case rel => exact ⟨1 + 1, by decide, rfl, congrArg (Value.int .i64) HQ.out, by show Wm _ _ _ _ _; rw [HE.out]; exact HS1.out, HS2⟩
          case measure => decide
      · obtain rfl : j = 2 := by omega
        go_wp2_with fail
        go_ret
        exact ⟨rfl, M.out, KK.out⟩
  · obtain ⟨g1, g2, g3, g4⟩ := port_ne (hp rfl)
    clear hp
    have q3 : N + 4 ≤ m.data.length := by have : sizeP 18 = 4 := rfl; omega
    have hN2 : N ≤ 65532 := by omega
    have CS : Hid (∀ w, Calls Tryz.prog 76 #[.int .i64 18] w fun e w' => e = .returned (.int .i64 4) ∧ w = w') := CS
    have CP : Hid (Calls Tryz.prog 77 #[.pointer (some ⟨k.br, 0, none⟩), .int .i64 at', .int .i64 4] w fun e w' => e = .returned (.bool true) ∧ w = w') := CP
    go_enter Tryz.func48, Tryz.ntmps48
    go_wp2_with (first | (go_at_call 76; (with_reducible refine (CS.out _).mono ?_); rintro e w1 ⟨rfl, rfl⟩) | (go_at_call 77; (with_reducible refine CP.out.mono ?_); rintro e w1 ⟨rfl, rfl⟩))
    go_loopw [11, 12] (fun lv i wr => ∃ j : Nat, j ≤ 4 ∧ i = .int .i64 (j : Int) ∧ lv = .int .i64 (v / 256 ^ j) ∧ Hid (Wm k wr vr vl { m with data := putP m.data N v j }) ∧ Hid (Chw k vr vl vr vl w wr)) (fun _ i _ => 4 - (intOf i).toNat)
    case atStart => exact ⟨0, Nat.zero_le _, rfl, congrArg (Value.int .i64) (by simp), H.out, Chw.refl _ _ _ _⟩
    case round =>
      obtain ⟨j, hj, rfl, rfl, M, KK⟩ := hrel
      by_cases hlj : j < 4
      · match j, hlj with
        | 0, _ =>
          have hcc := M.out.cDat eD (N) (by show _ < (putP m.data N v 0).length; rw [putP_len]; omega)
          obtain ⟨hc, fz, lg⟩ := hcc
          have cD : wr.cell? ⟨k.br, 1, none⟩ = some k.vd := M.out.c 1 (by decide)
          rw [eD] at cD
          have lb := M.out.brLt.2
          obtain ⟨HS1, HS2⟩ := M.out.setD (show k.vd = .slice (some ⟨g, 0, none⟩) (putP m.data N v 0).length c by rw [putP_len]; exact eD) (N) (v / 256 ^ 0 % 256)
          have HQ : Hid (v / 256 ^ 0 / 256 = v / 256 ^ (0 + 1)) := by show _ = _; rw [Int.ediv_ediv_of_nonneg (by decide)]; rfl
          have HE : Hid (putP m.data N v (0 + 1) = (putP m.data N v 0).set (N) (v / 256 ^ 0 % 256)) := rfl
          have hq1 : 0 ≤ v / 256 ^ 0 := Int.ediv_nonneg hv1 (by decide)
          have hq2 : v / 256 ^ 0 < 4294967296 := Int.lt_of_le_of_lt (Int.ediv_le_self _ hv1) hv2
          have HW : IntKind.i64.wrap (N : Int) = (N : Int) := IntWalk.i64_in _ (by omega)
          have HS1 := Lib.hid HS1
          have HS2 := Lib.hid (KK.out.trans HS2)
          clear M KK
          generalize v / 256 ^ 0 = q at *
          go_wp2_with fail
          go_roundw
          case rel => exact ⟨0 + 1, by decide, rfl, congrArg (Value.int .i64) HQ.out, by show Wm _ _ _ _ _; rw [HE.out]; exact HS1.out, HS2⟩
          case measure => decide
        | 1, _ =>
          have hcc := M.out.cDat eD (N + 1) (by show _ < (putP m.data N v 1).length; rw [putP_len]; omega)
          obtain ⟨hc, fz, lg⟩ := hcc
          have cD : wr.cell? ⟨k.br, 1, none⟩ = some k.vd := M.out.c 1 (by decide)
          rw [eD] at cD
          have lb := M.out.brLt.2
          obtain ⟨HS1, HS2⟩ := M.out.setD (show k.vd = .slice (some ⟨g, 0, none⟩) (putP m.data N v 1).length c by rw [putP_len]; exact eD) (N + 1) (v / 256 ^ 1 % 256)
          have HQ : Hid (v / 256 ^ 1 / 256 = v / 256 ^ (1 + 1)) := by show _ = _; rw [Int.ediv_ediv_of_nonneg (by decide)]; rfl
          have HE : Hid (putP m.data N v (1 + 1) = (putP m.data N v 1).set (N + 1) (v / 256 ^ 1 % 256)) := rfl
          have hq1 : 0 ≤ v / 256 ^ 1 := Int.ediv_nonneg hv1 (by decide)
          have hq2 : v / 256 ^ 1 < 4294967296 := Int.lt_of_le_of_lt (Int.ediv_le_self _ hv1) hv2
          have HW : IntKind.i64.wrap ((N : Int) + 1) = (N : Int) + 1 := IntWalk.i64_in _ (by omega)
          have HS1 := Lib.hid HS1
          have HS2 := Lib.hid (KK.out.trans HS2)
          clear M KK
          generalize v / 256 ^ 1 = q at *
          go_wp2_with fail
          go_roundw
          case rel => exact ⟨1 + 1, by decide, rfl, congrArg (Value.int .i64) HQ.out, by show Wm _ _ _ _ _; rw [HE.out]; exact HS1.out, HS2⟩
          case measure => decide
        | 2, _ =>
          have hcc := M.out.cDat eD (N + 2) (by show _ < (putP m.data N v 2).length; rw [putP_len]; omega)
          obtain ⟨hc, fz, lg⟩ := hcc
          have cD : wr.cell? ⟨k.br, 1, none⟩ = some k.vd := M.out.c 1 (by decide)
          rw [eD] at cD
          have lb := M.out.brLt.2
          obtain ⟨HS1, HS2⟩ := M.out.setD (show k.vd = .slice (some ⟨g, 0, none⟩) (putP m.data N v 2).length c by rw [putP_len]; exact eD) (N + 2) (v / 256 ^ 2 % 256)
          have HQ : Hid (v / 256 ^ 2 / 256 = v / 256 ^ (2 + 1)) := by show _ = _; rw [Int.ediv_ediv_of_nonneg (by decide)]; rfl
          have HE : Hid (putP m.data N v (2 + 1) = (putP m.data N v 2).set (N + 2) (v / 256 ^ 2 % 256)) := rfl
          have hq1 : 0 ≤ v / 256 ^ 2 := Int.ediv_nonneg hv1 (by decide)
          have hq2 : v / 256 ^ 2 < 4294967296 := Int.lt_of_le_of_lt (Int.ediv_le_self _ hv1) hv2
          have HW : IntKind.i64.wrap ((N : Int) + 2) = (N : Int) + 2 := IntWalk.i64_in _ (by omega)
          have HS1 := Lib.hid HS1
          have HS2 := Lib.hid (KK.out.trans HS2)
          clear M KK
          generalize v / 256 ^ 2 = q at *
          go_wp2_with fail
          go_roundw
          case rel => exact ⟨2 + 1, by decide, rfl, congrArg (Value.int .i64) HQ.out, by show Wm _ _ _ _ _; rw [HE.out]; exact HS1.out, HS2⟩
          case measure => decide
        | 3, _ =>
          have hcc := M.out.cDat eD (N + 3) (by show _ < (putP m.data N v 3).length; rw [putP_len]; omega)
          obtain ⟨hc, fz, lg⟩ := hcc
          have cD : wr.cell? ⟨k.br, 1, none⟩ = some k.vd := M.out.c 1 (by decide)
          rw [eD] at cD
          have lb := M.out.brLt.2
          obtain ⟨HS1, HS2⟩ := M.out.setD (show k.vd = .slice (some ⟨g, 0, none⟩) (putP m.data N v 3).length c by rw [putP_len]; exact eD) (N + 3) (v / 256 ^ 3 % 256)
          have HQ : Hid (v / 256 ^ 3 / 256 = v / 256 ^ (3 + 1)) := by show _ = _; rw [Int.ediv_ediv_of_nonneg (by decide)]; rfl
          have HE : Hid (putP m.data N v (3 + 1) = (putP m.data N v 3).set (N + 3) (v / 256 ^ 3 % 256)) := rfl
          have hq1 : 0 ≤ v / 256 ^ 3 := Int.ediv_nonneg hv1 (by decide)
          have hq2 : v / 256 ^ 3 < 4294967296 := Int.lt_of_le_of_lt (Int.ediv_le_self _ hv1) hv2
          have HW : IntKind.i64.wrap ((N : Int) + 3) = (N : Int) + 3 := IntWalk.i64_in _ (by omega)
          have HS1 := Lib.hid HS1
          have HS2 := Lib.hid (KK.out.trans HS2)
          clear M KK
          generalize v / 256 ^ 3 = q at *
          go_wp2_with fail
          go_roundw
          case rel => exact ⟨3 + 1, by decide, rfl, congrArg (Value.int .i64) HQ.out, by show Wm _ _ _ _ _; rw [HE.out]; exact HS1.out, HS2⟩
          case measure => decide
      · obtain rfl : j = 4 := by omega
        go_wp2_with fail
        go_ret
        exact ⟨rfl, M.out, KK.out⟩
theorem wstore_c (op at' v : Int) (h : Wm k w vr vl m) (hm : Dok m) (hs : m.steps ≤ 1000000) (h1 : 0 ≤ at') (h2 : at' < 4294967296) (hv1 : 0 ≤ v) (hv2 : v < 4294967296) (ho : 16 ≤ op) (ho' : op ≤ 18) :
    Calls Tryz.prog 48 #[.pointer (some ⟨k.br, 0, none⟩), .int .i64 op, .int .i64 at', .int .u32 v] w fun e w' => ∃ vl', e = .returned (.bool (storeD m op at' v).isSome) ∧ Wm k w' vr vl' ((storeD m op at' v).getD m) ∧ Chw k vr vl vr vl' w w' := by
  rw [storeD_eq]
  have hll : m.log.length ≤ 1000000 := by have := hm.lb; omega
  by_cases hp : op = 18 ∧ ∃ m', portD m at' v = some m'
  · obtain ⟨rfl, m', hp⟩ := hp
    simp only [if_true, hp, Option.isSome_some, Option.getD_some]
    exact wport_yes at' v h hll m' hp
  · have hn : op = 18 → portD m at' v = none := fun e => by
      cases h : portD m at' v with
      | none => rfl
      | some m' => exact absurd ⟨e, m', h⟩ hp
    have e : (if op = 18 then portD m at' v else none) = none := by
      by_cases e : op = 18
      · rw [if_pos e, hn e]
      · rw [if_neg e]
    rw [e]
    cases hl : liesP m at' (sizeP op)
    · refine (wstore_no op at' v h hm h1 h2 ho ho' hn hl).mono ?_
      rintro e w' ⟨rfl, rfl⟩
      exact ⟨vl, by simp, by simpa using h, Chw.refl _ _ _ _⟩
    · refine (wstore_yes op at' v h hm h1 h2 hv1 hv2 ho ho' hn hl).mono ?_
      rintro e w' ⟨rfl, h1, h2⟩
      exact ⟨vl, by simp, by simpa using h1, h2⟩
/-- a register set -/
theorem wset_c (h : Wm k w vr vl m) (r v : Int) (hr : 0 ≤ r ∧ r < 32) :
    Calls Tryz.prog 44 #[.pointer (some ⟨k.br, 0, none⟩), .int .i64 r, .int .u32 v] w fun e w' => e = .returned (.tuple #[]) ∧ Wm k w' vr vl (setD m r v) ∧ Chw k vr vl vr vl w w' := by
  obtain ⟨n, rfl⟩ := Int.eq_ofNat_of_zero_le hr.1
  have hn : n < 32 := by omega
  by_cases h0 : 0 < n
  · have e : setD m (n : Int) v = { m with regs := m.regs.set n v } := by unfold setD; rw [if_pos (by omega)]; rfl
    rw [e]
    obtain ⟨g, c, er, -, lg, -, hcap⟩ := h.rF
    have HS := Lib.hid (h.setR er n v)
    obtain ⟨cR, fR, -⟩ := h.cR er n hn
    have cV : w.cell? ⟨k.br, 3, none⟩ = some vr := h.c 3 (by decide)
    rw [er] at cV
    have lb := h.brLt.2
    have g1 : decide ((0 : Int) < (n : Int)) = true := decide_eq_true (by omega)
    have g2 : decide (0 < n) = true := decide_eq_true h0
    clear h e er hr
    generalize k.br = bm at *
    go_enter Tryz.func44, Tryz.ntmps44
    go_wp2_with fail
    refine bodyPost_end (results_none rfl _ _ _) rfl ?_
    exact ⟨rfl, HS.out⟩
  · obtain rfl : n = 0 := by omega
    have e : setD m ((0 : Nat) : Int) v = m := by unfold setD; rw [if_neg (by omega)]
    rw [e]
    have H := Lib.hid h
    clear h e
    generalize k.br = bm at *
    go_enter Tryz.func44, Tryz.ntmps44
    go_wp2_with fail
    refine bodyPost_end (results_none rfl _ _ _) rfl ?_
    exact ⟨rfl, H.out, Chw.refl _ _ _ _⟩
end
end Go.Proofs.YtabmbhhodecmfaaGreat
