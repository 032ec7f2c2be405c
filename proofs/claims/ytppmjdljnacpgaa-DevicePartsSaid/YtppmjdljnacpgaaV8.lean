/-
  A store of the device.
-/
import Derived.Test.YtppmjdljnacpgaaV7
import Derived.Test.YtppmjdljnacpgaaN2
set_option linter.all false
namespace Go.Proofs.Ytppmjdljnacpgaa
open Go.ChangeShapes Go.WideShapes Go.ChangeAt Go.RowKit
set_option maxHeartbeats 2000000
set_option linter.unusedVariables false
set_option maxRecDepth 20000

theorem putP_len (mem : List Int) (n : Nat) (v : Int) : ∀ i, (putP mem n v i).length = mem.length
  | 0 => rfl
  | i + 1 => by unfold putP; rw [List.length_set]; exact putP_len mem n v i
theorem putP_1 (mem : List Int) (n : Nat) (v : Int) : putP mem n v (0 + 1) = (putP mem n v 0).set n (v % 256) := by simp [putP]
theorem putP_4 (mem : List Int) (n : Nat) (v : Int) (h1 : 0 ≤ v) (h2 : v < 4294967296) : putP mem n v (3 + 1) = (putP mem n v 3).set (n + 3) (v / 16777216) := by
  show (putP mem n v 3).set (n + 3) (v / 256 ^ 3 % 256) = _
  rw [show v / 256 ^ 3 % 256 = v / 16777216 by omega]
section
variable {k : VK} {w : World} {vl : Value} {m : Dv} {ts : List Mt}
theorem Vm.cDat (h : Vm k w vl m ts) {g L c : Nat} (hd : k.vd = .slice (some ⟨g, 0, none⟩) L c) (j : Nat) (hj : j < m.data.length) : w.cell? ⟨g, j, none⟩ = some (.int .u8 (m.data.getD j 0)) ∧ w.frozen? ⟨g, j, none⟩ = false ∧ g < w.heap.size := by
  have H := h.dd
  rw [hd] at H
  have hL : L = m.data.length := by
    obtain ⟨-, ⟨e, -⟩ | ⟨g', cap, cur, e, -⟩⟩ := id H
    · cases e
    · simp only [Value.slice.injEq] at e; exact e.2.1
  subst hL
  refine ⟨?_, H.frozenAt j, (own_lt H rfl).2⟩
  rw [H.cellAt j (by simpa using hj)]
  simp [List.getD, hj]
theorem vstore_no (op at' v : Int) (h : Vm k w vl m ts) (hm : Dok m) (h1 : 0 ≤ at') (h2 : at' < 4294967296) (ho : 16 ≤ op) (ho' : op ≤ 18) (hp : op = 18 → portD m at' v = none) (hl : liesP m at' (sizeP op) = false) :
    Calls Try.prog 58 #[.pointer (some ⟨k.bm, 0, none⟩), .int .i64 op, .int .u32 at', .int .u32 v] w fun e w' => e = .returned (.bool false) ∧ w = w' := by
  have CS := Lib.hid (fun w => dsize_c op w (by omega) (by omega))
  have CP := vplace_c at' (sizeP op) h hm h1 h2 (sizeP_or op)
  rw [hl] at CP
  simp only [Bool.false_eq_true, if_false] at CP
  have CP := Lib.hid CP
  have CO := Lib.hid fun hp w => vport_no (m := m) at' v w k.bm hp
  clear h hl
  generalize k.bm = bm at *
  have hc : op = 16 ∨ op = 17 ∨ op = 18 := by omega
  clear ho ho'
  rcases hc with rfl | rfl | rfl
  case inr.inr =>
    have CO := Lib.hid (CO.out (hp rfl))
    clear hp
    go_enter Try.func58, Try.ntmps58
    go_wp2_with (first | (go_at_call 62; (with_reducible refine (CS.out _).mono ?_); rintro e w1 ⟨rfl, rfl⟩) | (go_at_call 63; (with_reducible refine CP.out.mono ?_); rintro e w1 ⟨rfl, rfl⟩) | (go_at_call 64; (with_reducible refine (CO.out _).mono ?_); rintro e w1 ⟨rfl, rfl⟩))
    go_ret
    exact ⟨rfl, rfl⟩
  all_goals
    clear hp
    go_enter Try.func58, Try.ntmps58
    go_wp2_with (first | (go_at_call 62; (with_reducible refine (CS.out _).mono ?_); rintro e w1 ⟨rfl, rfl⟩) | (go_at_call 63; (with_reducible refine CP.out.mono ?_); rintro e w1 ⟨rfl, rfl⟩))
    go_ret
    exact ⟨rfl, rfl⟩
theorem vstore_port (at' v : Int) (h : Vm k w vl m ts) (hl : m.log.length ≤ 1000000) (m' : Dv) (hp : portD m at' v = some m') :
    Calls Try.prog 58 #[.pointer (some ⟨k.bm, 0, none⟩), .int .i64 18, .int .u32 at', .int .u32 v] w fun e w' => ∃ vl', e = .returned (.bool true) ∧ Vm k w' vl' m' ts ∧ Chv k vl vl' w w' := by
  have CO := Lib.hid (vport_yes at' v h hl m' hp)
  clear h hp
  generalize hb : k.bm = bm at *
  go_enter Try.func58, Try.ntmps58
  go_wp2_with (go_at_call 64; (with_reducible refine CO.out.mono ?_); rintro e w1 ⟨vl', rfl, hr⟩)
  go_ret
  exact ⟨vl', rfl, hr⟩
theorem vstore_yes (op at' v : Int) (h : Vm k w vl m ts) (hm : Dok m) (h1 : 0 ≤ at') (h2 : at' < 4294967296) (hv1 : 0 ≤ v) (hv2 : v < 4294967296) (ho : 16 ≤ op) (ho' : op ≤ 18) (hp : op = 18 → portD m at' v = none) (hl : liesP m at' (sizeP op) = true) :
    Calls Try.prog 58 #[.pointer (some ⟨k.bm, 0, none⟩), .int .i64 op, .int .u32 at', .int .u32 v] w fun e w' => e = .returned (.bool true) ∧ Vm k w' vl { m with data := putP m.data (at' - 268435456).toNat v (sizeP op).toNat } ts ∧ Chv k vl vl w w' := by
  have CS := Lib.hid (fun w => dsize_c op w (by omega) (by omega))
  have CP := vplace_c at' (sizeP op) h hm h1 h2 (sizeP_or op)
  rw [hl] at CP
  simp only [if_true] at CP
  have CO := Lib.hid fun hp w => vport_no (m := m) at' v w k.bm hp
  obtain ⟨-, q1, q2⟩ := liesP_ends _ _ _ hl
  obtain ⟨N, hN⟩ : ∃ N : Nat, at' - 268435456 = (N : Int) := ⟨(at' - 268435456).toNat, by omega⟩
  rw [hN] at CP ⊢
  rw [Int.toNat_natCast]
  have CP := Lib.hid CP
  obtain ⟨g, c, eD, -, hcap, -, -⟩ := h.cD (by have := hm.dl; omega)
  have hdl := hm.dl
  have q3 : (N : Int) + sizeP op ≤ m.data.length := by omega
  have H := Lib.hid h
  clear h hl hm q1 q2 hN h1 h2
  have hc : op = 16 ∨ op = 17 ∨ op = 18 := by omega
  clear ho ho'
  rcases hc with rfl | rfl | rfl
  · clear hp
    have q3 : N + 1 ≤ m.data.length := by have : sizeP 16 = 1 := rfl; omega
    have hN2 : N ≤ 65535 := by omega
    have CS : Hid (∀ w, Calls Try.prog 62 #[.int .i64 16] w fun e w' => e = .returned (.int .i64 1) ∧ w = w') := CS
    have CP : Hid (Calls Try.prog 63 #[.pointer (some ⟨k.bm, 0, none⟩), .int .u32 at', .int .i64 1] w fun e w' => e = .returned (.tuple #[.int .i64 (N : Int), .bool true]) ∧ w = w') := CP
    have CPP := CP
    go_enter Try.func58, Try.ntmps58
    go_wp2_with (first | (go_at_call 62; (with_reducible refine (CS.out _).mono ?_); rintro e w1 ⟨rfl, rfl⟩) | (go_at_call 63; (with_reducible refine CPP.out.mono ?_); rintro e w1 ⟨rfl, rfl⟩) | (go_at_call 64; (with_reducible refine (CO.out _).mono ?_); rintro e w1 ⟨rfl, rfl⟩))
    go_loopw [33] (fun i wr => ∃ j : Nat, j ≤ 1 ∧ i = .int .i64 (j : Int) ∧ Hid (Vm k wr vl { m with data := putP m.data N v j } ts) ∧ Hid (Chv k vl vl w wr)) (fun i _ => 1 - (intOf i).toNat)
    case atStart => exact ⟨0, Nat.zero_le _, rfl, H.out, Chv.refl _ _ _⟩
    case round =>
      obtain ⟨j, hj, rfl, M, KK⟩ := hrel
      by_cases hlj : j < 1
      · match j, hlj with
        | 0, _ =>
          have hcc := M.out.cDat eD (N) (by show _ < (putP m.data N v 0).length; rw [putP_len]; omega)
          obtain ⟨hc, fz, lg⟩ := hcc
          have cD := M.out.c 5 (by decide)
          simp only [List.getElem?_cons_succ, List.getElem?_cons_zero] at cD
          rw [eD] at cD
          have lb := M.out.bmLt.2
          have BD := Lib.hid (Below.drew (Below.refl wr.heap.size wr))
          have MD := Lib.hid (M.out.grow BD.out)
          have KD := Lib.hid (KK.out.trans (Chv.of_below BD.out))
          have hc : wr.drew.cell? ⟨g, N, none⟩ = _ := hc
          have fz : wr.drew.frozen? ⟨g, N, none⟩ = false := fz
          have cD : wr.drew.cell? ⟨k.bm, 37, none⟩ = _ := cD
          have lb : k.bm < wr.drew.heap.size := lb
          have lg : g < wr.drew.heap.size := lg
          have HW : IntKind.i64.wrap (N : Int) = (N : Int) := IntWalk.i64_in _ (by omega)
          clear M KK BD
          go_wp2_with fail
          refine wp_region_game (fun x => x = k.bm) (by kernel_rfl) ?_
          show wpE _ _ _ _ _ _ _ wr.drew
          generalize wr.drew = W1 at hc fz cD lb lg MD KD ⊢
          obtain ⟨HS1, HS2⟩ := MD.out.setD (show k.vd = .slice (some ⟨g, 0, none⟩) (putP m.data N v 0).length c by rw [putP_len]; exact eD) (N) (v / 256 ^ 0 % 256)
          have HS1 := Lib.hid HS1
          have HS2 := Lib.hid (KD.out.trans HS2)
          clear MD KD eD
          refine E_mob2s [0, 1, 2, 3, 4, 5, 6, 7, 8, 9, 10, 11, 12] _ _ _ _ (by kernel_rfl) ?_
          simp only [List.map_cons, List.map_nil, List.getElem?_toArray, List.getElem?_cons_succ, List.getElem?_cons_zero, Option.getD_some, List.size_toArray, List.length_cons, List.length_nil, Nat.reduceAdd, Nat.reduceSub]
          repeat (go_big_quiet_step (fail))
          refine wpQuiet_nil ?_
          refine E_last 13 _ rfl (by kernel_rfl) ?_
          simp only [List.getElem_toArray, List.getElem_cons_succ, List.getElem_cons_zero]
          go_wp2_with fail
          refine E_done (by kernel_rfl) ?_ _
          go_wp2_with fail
          go_roundw
          case rel => exact ⟨0 + 1, by decide, rfl, by have := HS1.out; simp only [Int.pow_zero, Int.ediv_one] at this; rw [putP_1]; exact this, by have := HS2.out; simp only [Int.pow_zero, Int.ediv_one] at this; exact this⟩
          case measure => decide
      · obtain rfl : j = 1 := by omega
        go_wp2_with fail
        go_ret
        exact ⟨rfl, M.out, KK.out⟩
  · clear hp
    have q3 : N + 2 ≤ m.data.length := by have : sizeP 17 = 2 := rfl; omega
    have hN2 : N ≤ 65534 := by omega
    have CS : Hid (∀ w, Calls Try.prog 62 #[.int .i64 17] w fun e w' => e = .returned (.int .i64 2) ∧ w = w') := CS
    have CP : Hid (Calls Try.prog 63 #[.pointer (some ⟨k.bm, 0, none⟩), .int .u32 at', .int .i64 2] w fun e w' => e = .returned (.tuple #[.int .i64 (N : Int), .bool true]) ∧ w = w') := CP
    have CPP := CP
    go_enter Try.func58, Try.ntmps58
    go_wp2_with (first | (go_at_call 62; (with_reducible refine (CS.out _).mono ?_); rintro e w1 ⟨rfl, rfl⟩) | (go_at_call 63; (with_reducible refine CPP.out.mono ?_); rintro e w1 ⟨rfl, rfl⟩) | (go_at_call 64; (with_reducible refine (CO.out _).mono ?_); rintro e w1 ⟨rfl, rfl⟩))
    go_loopw [33] (fun i wr => ∃ j : Nat, j ≤ 2 ∧ i = .int .i64 (j : Int) ∧ Hid (Vm k wr vl { m with data := putP m.data N v j } ts) ∧ Hid (Chv k vl vl w wr)) (fun i _ => 2 - (intOf i).toNat)
    case atStart => exact ⟨0, Nat.zero_le _, rfl, H.out, Chv.refl _ _ _⟩
    case round =>
      obtain ⟨j, hj, rfl, M, KK⟩ := hrel
      by_cases hlj : j < 2
      · match j, hlj with
        | 0, _ =>
          have hcc := M.out.cDat eD (N) (by show _ < (putP m.data N v 0).length; rw [putP_len]; omega)
          obtain ⟨hc, fz, lg⟩ := hcc
          have cD := M.out.c 5 (by decide)
          simp only [List.getElem?_cons_succ, List.getElem?_cons_zero] at cD
          rw [eD] at cD
          have lb := M.out.bmLt.2
          have BD := Lib.hid (Below.drew (Below.refl wr.heap.size wr))
          have MD := Lib.hid (M.out.grow BD.out)
          have KD := Lib.hid (KK.out.trans (Chv.of_below BD.out))
          have hc : wr.drew.cell? ⟨g, N, none⟩ = _ := hc
          have fz : wr.drew.frozen? ⟨g, N, none⟩ = false := fz
          have cD : wr.drew.cell? ⟨k.bm, 37, none⟩ = _ := cD
          have lb : k.bm < wr.drew.heap.size := lb
          have lg : g < wr.drew.heap.size := lg
          have HW : IntKind.i64.wrap (N : Int) = (N : Int) := IntWalk.i64_in _ (by omega)
          clear M KK BD
          go_wp2_with fail
          refine wp_region_game (fun x => x = k.bm) (by kernel_rfl) ?_
          show wpE _ _ _ _ _ _ _ wr.drew
          generalize wr.drew = W1 at hc fz cD lb lg MD KD ⊢
          obtain ⟨HS1, HS2⟩ := MD.out.setD (show k.vd = .slice (some ⟨g, 0, none⟩) (putP m.data N v 0).length c by rw [putP_len]; exact eD) (N) (v / 256 ^ 0 % 256)
          have HS1 := Lib.hid HS1
          have HS2 := Lib.hid (KD.out.trans HS2)
          clear MD KD eD
          refine E_mob2s [0, 1, 2, 3, 4, 5, 6, 7, 8, 9, 10, 11, 12] _ _ _ _ (by kernel_rfl) ?_
          simp only [List.map_cons, List.map_nil, List.getElem?_toArray, List.getElem?_cons_succ, List.getElem?_cons_zero, Option.getD_some, List.size_toArray, List.length_cons, List.length_nil, Nat.reduceAdd, Nat.reduceSub]
          repeat (go_big_quiet_step (fail))
          refine wpQuiet_nil ?_
          refine E_last 13 _ rfl (by kernel_rfl) ?_
          simp only [List.getElem_toArray, List.getElem_cons_succ, List.getElem_cons_zero]
          go_wp2_with fail
          refine E_done (by kernel_rfl) ?_ _
          go_wp2_with fail
          go_roundw
          case rel => exact ⟨0 + 1, by decide, rfl, by have := HS1.out; simp only [Int.pow_zero, Int.ediv_one] at this; rw [putP_1]; exact this, by have := HS2.out; simp only [Int.pow_zero, Int.ediv_one] at this; exact this⟩
          case measure => decide
        | 1, _ =>
          have hcc := M.out.cDat eD (N + 1) (by show _ < (putP m.data N v 1).length; rw [putP_len]; omega)
          obtain ⟨hc, fz, lg⟩ := hcc
          have cD := M.out.c 5 (by decide)
          simp only [List.getElem?_cons_succ, List.getElem?_cons_zero] at cD
          rw [eD] at cD
          have lb := M.out.bmLt.2
          have BD := Lib.hid (Below.drew (Below.refl wr.heap.size wr))
          have MD := Lib.hid (M.out.grow BD.out)
          have KD := Lib.hid (KK.out.trans (Chv.of_below BD.out))
          have hc : wr.drew.cell? ⟨g, N + 1, none⟩ = _ := hc
          have fz : wr.drew.frozen? ⟨g, N + 1, none⟩ = false := fz
          have cD : wr.drew.cell? ⟨k.bm, 37, none⟩ = _ := cD
          have lb : k.bm < wr.drew.heap.size := lb
          have lg : g < wr.drew.heap.size := lg
          have HW : IntKind.i64.wrap ((N : Int) + 1) = (N : Int) + 1 := IntWalk.i64_in _ (by omega)
          clear M KK BD
          go_wp2_with fail
          refine wp_region_game (fun x => x = k.bm) (by kernel_rfl) ?_
          show wpE _ _ _ _ _ _ _ wr.drew
          generalize wr.drew = W1 at hc fz cD lb lg MD KD ⊢
          obtain ⟨HS1, HS2⟩ := MD.out.setD (show k.vd = .slice (some ⟨g, 0, none⟩) (putP m.data N v 1).length c by rw [putP_len]; exact eD) (N + 1) (v / 256 ^ 1 % 256)
          have HS1 := Lib.hid HS1
          have HS2 := Lib.hid (KD.out.trans HS2)
          clear MD KD eD
          refine E_mob2s [0, 1, 2, 3, 4, 5, 6, 7, 8, 9, 10, 11, 12] _ _ _ _ (by kernel_rfl) ?_
          simp only [List.map_cons, List.map_nil, List.getElem?_toArray, List.getElem?_cons_succ, List.getElem?_cons_zero, Option.getD_some, List.size_toArray, List.length_cons, List.length_nil, Nat.reduceAdd, Nat.reduceSub]
          repeat (go_big_quiet_step (fail))
          refine wpQuiet_nil ?_
          refine E_last 13 _ rfl (by kernel_rfl) ?_
          simp only [List.getElem_toArray, List.getElem_cons_succ, List.getElem_cons_zero]
          go_wp2_with fail
          refine E_done (by kernel_rfl) ?_ _
          go_wp2_with fail
          go_roundw
          case rel => exact ⟨1 + 1, by decide, rfl, by have := HS1.out; exact this, by have := HS2.out; exact this⟩
          case measure => decide
      · obtain rfl : j = 2 := by omega
        go_wp2_with fail
        go_ret
        exact ⟨rfl, M.out, KK.out⟩
  · have CO := Lib.hid (CO.out (hp rfl))
    clear hp
    have q3 : N + 4 ≤ m.data.length := by have : sizeP 18 = 4 := rfl; omega
    have hN2 : N ≤ 65532 := by omega
    have CS : Hid (∀ w, Calls Try.prog 62 #[.int .i64 18] w fun e w' => e = .returned (.int .i64 4) ∧ w = w') := CS
    have CP : Hid (Calls Try.prog 63 #[.pointer (some ⟨k.bm, 0, none⟩), .int .u32 at', .int .i64 4] w fun e w' => e = .returned (.tuple #[.int .i64 (N : Int), .bool true]) ∧ w = w') := CP
    have CPP := CP
    go_enter Try.func58, Try.ntmps58
    go_wp2_with (first | (go_at_call 62; (with_reducible refine (CS.out _).mono ?_); rintro e w1 ⟨rfl, rfl⟩) | (go_at_call 63; (with_reducible refine CPP.out.mono ?_); rintro e w1 ⟨rfl, rfl⟩) | (go_at_call 64; (with_reducible refine (CO.out _).mono ?_); rintro e w1 ⟨rfl, rfl⟩))
    go_loopw [33] (fun i wr => ∃ j : Nat, j ≤ 4 ∧ i = .int .i64 (j : Int) ∧ Hid (Vm k wr vl { m with data := putP m.data N v j } ts) ∧ Hid (Chv k vl vl w wr)) (fun i _ => 4 - (intOf i).toNat)
    case atStart => exact ⟨0, Nat.zero_le _, rfl, H.out, Chv.refl _ _ _⟩
    case round =>
      obtain ⟨j, hj, rfl, M, KK⟩ := hrel
      by_cases hlj : j < 4
      · match j, hlj with
        | 0, _ =>
          have hcc := M.out.cDat eD (N) (by show _ < (putP m.data N v 0).length; rw [putP_len]; omega)
          obtain ⟨hc, fz, lg⟩ := hcc
          have cD := M.out.c 5 (by decide)
          simp only [List.getElem?_cons_succ, List.getElem?_cons_zero] at cD
          rw [eD] at cD
          have lb := M.out.bmLt.2
          have BD := Lib.hid (Below.drew (Below.refl wr.heap.size wr))
          have MD := Lib.hid (M.out.grow BD.out)
          have KD := Lib.hid (KK.out.trans (Chv.of_below BD.out))
          have hc : wr.drew.cell? ⟨g, N, none⟩ = _ := hc
          have fz : wr.drew.frozen? ⟨g, N, none⟩ = false := fz
          have cD : wr.drew.cell? ⟨k.bm, 37, none⟩ = _ := cD
          have lb : k.bm < wr.drew.heap.size := lb
          have lg : g < wr.drew.heap.size := lg
          have HW : IntKind.i64.wrap (N : Int) = (N : Int) := IntWalk.i64_in _ (by omega)
          clear M KK BD
          go_wp2_with fail
          refine wp_region_game (fun x => x = k.bm) (by kernel_rfl) ?_
          show wpE _ _ _ _ _ _ _ wr.drew
          generalize wr.drew = W1 at hc fz cD lb lg MD KD ⊢
          obtain ⟨HS1, HS2⟩ := MD.out.setD (show k.vd = .slice (some ⟨g, 0, none⟩) (putP m.data N v 0).length c by rw [putP_len]; exact eD) (N) (v / 256 ^ 0 % 256)
          have HS1 := Lib.hid HS1
          have HS2 := Lib.hid (KD.out.trans HS2)
          clear MD KD eD
          refine E_mob2s [0, 1, 2, 3, 4, 5, 6, 7, 8, 9, 10, 11, 12] _ _ _ _ (by kernel_rfl) ?_
          simp only [List.map_cons, List.map_nil, List.getElem?_toArray, List.getElem?_cons_succ, List.getElem?_cons_zero, Option.getD_some, List.size_toArray, List.length_cons, List.length_nil, Nat.reduceAdd, Nat.reduceSub]
          repeat (go_big_quiet_step (fail))
          refine wpQuiet_nil ?_
          refine E_last 13 _ rfl (by kernel_rfl) ?_
          simp only [List.getElem_toArray, List.getElem_cons_succ, List.getElem_cons_zero]
          go_wp2_with fail
          refine E_done (by kernel_rfl) ?_ _
          go_wp2_with fail
          go_roundw
          case rel => exact ⟨0 + 1, by decide, rfl, by have := HS1.out; simp only [Int.pow_zero, Int.ediv_one] at this; rw [putP_1]; exact this, by have := HS2.out; simp only [Int.pow_zero, Int.ediv_one] at this; exact this⟩
          case measure => decide
        | 1, _ =>
          have hcc := M.out.cDat eD (N + 1) (by show _ < (putP m.data N v 1).length; rw [putP_len]; omega)
          obtain ⟨hc, fz, lg⟩ := hcc
          have cD := M.out.c 5 (by decide)
          simp only [List.getElem?_cons_succ, List.getElem?_cons_zero] at cD
          rw [eD] at cD
          have lb := M.out.bmLt.2
          have BD := Lib.hid (Below.drew (Below.refl wr.heap.size wr))
          have MD := Lib.hid (M.out.grow BD.out)
          have KD := Lib.hid (KK.out.trans (Chv.of_below BD.out))
          have hc : wr.drew.cell? ⟨g, N + 1, none⟩ = _ := hc
          have fz : wr.drew.frozen? ⟨g, N + 1, none⟩ = false := fz
          have cD : wr.drew.cell? ⟨k.bm, 37, none⟩ = _ := cD
          have lb : k.bm < wr.drew.heap.size := lb
          have lg : g < wr.drew.heap.size := lg
          have HW : IntKind.i64.wrap ((N : Int) + 1) = (N : Int) + 1 := IntWalk.i64_in _ (by omega)
          clear M KK BD
          go_wp2_with fail
          refine wp_region_game (fun x => x = k.bm) (by kernel_rfl) ?_
          show wpE _ _ _ _ _ _ _ wr.drew
          generalize wr.drew = W1 at hc fz cD lb lg MD KD ⊢
          obtain ⟨HS1, HS2⟩ := MD.out.setD (show k.vd = .slice (some ⟨g, 0, none⟩) (putP m.data N v 1).length c by rw [putP_len]; exact eD) (N + 1) (v / 256 ^ 1 % 256)
          have HS1 := Lib.hid HS1
          have HS2 := Lib.hid (KD.out.trans HS2)
          clear MD KD eD
          refine E_mob2s [0, 1, 2, 3, 4, 5, 6, 7, 8, 9, 10, 11, 12] _ _ _ _ (by kernel_rfl) ?_
          simp only [List.map_cons, List.map_nil, List.getElem?_toArray, List.getElem?_cons_succ, List.getElem?_cons_zero, Option.getD_some, List.size_toArray, List.length_cons, List.length_nil, Nat.reduceAdd, Nat.reduceSub]
          repeat (go_big_quiet_step (fail))
          refine wpQuiet_nil ?_
          refine E_last 13 _ rfl (by kernel_rfl) ?_
          simp only [List.getElem_toArray, List.getElem_cons_succ, List.getElem_cons_zero]
          go_wp2_with fail
          refine E_done (by kernel_rfl) ?_ _
          go_wp2_with fail
          go_roundw
          case rel => exact ⟨1 + 1, by decide, rfl, by have := HS1.out; exact this, by have := HS2.out; exact this⟩
          case measure => decide
        | 2, _ =>
          have hcc := M.out.cDat eD (N + 2) (by show _ < (putP m.data N v 2).length; rw [putP_len]; omega)
          obtain ⟨hc, fz, lg⟩ := hcc
          have cD := M.out.c 5 (by decide)
          simp only [List.getElem?_cons_succ, List.getElem?_cons_zero] at cD
          rw [eD] at cD
          have lb := M.out.bmLt.2
          have BD := Lib.hid (Below.drew (Below.refl wr.heap.size wr))
          have MD := Lib.hid (M.out.grow BD.out)
          have KD := Lib.hid (KK.out.trans (Chv.of_below BD.out))
          have hc : wr.drew.cell? ⟨g, N + 2, none⟩ = _ := hc
          have fz : wr.drew.frozen? ⟨g, N + 2, none⟩ = false := fz
          have cD : wr.drew.cell? ⟨k.bm, 37, none⟩ = _ := cD
          have lb : k.bm < wr.drew.heap.size := lb
          have lg : g < wr.drew.heap.size := lg
          have HW : IntKind.i64.wrap ((N : Int) + 2) = (N : Int) + 2 := IntWalk.i64_in _ (by omega)
          clear M KK BD
          go_wp2_with fail
          refine wp_region_game (fun x => x = k.bm) (by kernel_rfl) ?_
          show wpE _ _ _ _ _ _ _ wr.drew
          generalize wr.drew = W1 at hc fz cD lb lg MD KD ⊢
          obtain ⟨HS1, HS2⟩ := MD.out.setD (show k.vd = .slice (some ⟨g, 0, none⟩) (putP m.data N v 2).length c by rw [putP_len]; exact eD) (N + 2) (v / 256 ^ 2 % 256)
          have HS1 := Lib.hid HS1
          have HS2 := Lib.hid (KD.out.trans HS2)
          clear MD KD eD
          refine E_mob2s [0, 1, 2, 3, 4, 5, 6, 7, 8, 9, 10, 11, 12] _ _ _ _ (by kernel_rfl) ?_
          simp only [List.map_cons, List.map_nil, List.getElem?_toArray, List.getElem?_cons_succ, List.getElem?_cons_zero, Option.getD_some, List.size_toArray, List.length_cons, List.length_nil, Nat.reduceAdd, Nat.reduceSub]
          repeat (go_big_quiet_step (fail))
          refine wpQuiet_nil ?_
          refine E_last 13 _ rfl (by kernel_rfl) ?_
          simp only [List.getElem_toArray, List.getElem_cons_succ, List.getElem_cons_zero]
          go_wp2_with fail
          refine E_done (by kernel_rfl) ?_ _
          go_wp2_with fail
          go_roundw
          case rel => exact ⟨2 + 1, by decide, rfl, by have := HS1.out; exact this, by have := HS2.out; exact this⟩
          case measure => decide
        | 3, _ =>
          have hcc := M.out.cDat eD (N + 3) (by show _ < (putP m.data N v 3).length; rw [putP_len]; omega)
          obtain ⟨hc, fz, lg⟩ := hcc
          have cD := M.out.c 5 (by decide)
          simp only [List.getElem?_cons_succ, List.getElem?_cons_zero] at cD
          rw [eD] at cD
          have lb := M.out.bmLt.2
          have BD := Lib.hid (Below.drew (Below.refl wr.heap.size wr))
          have MD := Lib.hid (M.out.grow BD.out)
          have KD := Lib.hid (KK.out.trans (Chv.of_below BD.out))
          have hc : wr.drew.cell? ⟨g, N + 3, none⟩ = _ := hc
          have fz : wr.drew.frozen? ⟨g, N + 3, none⟩ = false := fz
          have cD : wr.drew.cell? ⟨k.bm, 37, none⟩ = _ := cD
          have lb : k.bm < wr.drew.heap.size := lb
          have lg : g < wr.drew.heap.size := lg
          have HW : IntKind.i64.wrap ((N : Int) + 3) = (N : Int) + 3 := IntWalk.i64_in _ (by omega)
          clear M KK BD
          go_wp2_with fail
          refine wp_region_game (fun x => x = k.bm) (by kernel_rfl) ?_
          show wpE _ _ _ _ _ _ _ wr.drew
          generalize wr.drew = W1 at hc fz cD lb lg MD KD ⊢
          obtain ⟨HS1, HS2⟩ := MD.out.setD (show k.vd = .slice (some ⟨g, 0, none⟩) (putP m.data N v 3).length c by rw [putP_len]; exact eD) (N + 3) (v / 256 ^ 3 % 256)
          have e3 : v / 256 ^ 3 % 256 = v / 16777216 := by omega
          rw [e3] at HS1 HS2
          have HS1 := Lib.hid HS1
          have HS2 := Lib.hid (KD.out.trans HS2)
          clear MD KD eD
          refine E_mob2s [0, 1, 2, 3, 4, 5, 6, 7, 8, 9, 10, 11, 12] _ _ _ _ (by kernel_rfl) ?_
          simp only [List.map_cons, List.map_nil, List.getElem?_toArray, List.getElem?_cons_succ, List.getElem?_cons_zero, Option.getD_some, List.size_toArray, List.length_cons, List.length_nil, Nat.reduceAdd, Nat.reduceSub]
          repeat (go_big_quiet_step (fail))
          refine wpQuiet_nil ?_
          refine E_last 13 _ rfl (by kernel_rfl) ?_
          simp only [List.getElem_toArray, List.getElem_cons_succ, List.getElem_cons_zero]
          go_wp2_with fail
          refine E_done (by kernel_rfl) ?_ _
          go_wp2_with fail
          go_roundw
          case rel => exact ⟨3 + 1, by decide, rfl, by have := HS1.out; rw [putP_4 _ _ _ hv1 hv2]; exact this, by have := HS2.out; exact this⟩
          case measure => decide
      · obtain rfl : j = 4 := by omega
        go_wp2_with fail
        go_ret
        exact ⟨rfl, M.out, KK.out⟩
theorem vstore_c (op at' v : Int) (h : Vm k w vl m ts) (hm : Dok m) (hs : m.steps ≤ 1000000) (h1 : 0 ≤ at') (h2 : at' < 4294967296) (hv1 : 0 ≤ v) (hv2 : v < 4294967296) (ho : 16 ≤ op) (ho' : op ≤ 18) :
    Calls Try.prog 58 #[.pointer (some ⟨k.bm, 0, none⟩), .int .i64 op, .int .u32 at', .int .u32 v] w fun e w' => ∃ vl', e = .returned (.bool (storeD m op at' v).isSome) ∧ Vm k w' vl' ((storeD m op at' v).getD m) ts ∧ Chv k vl vl' w w' := by
  rw [storeD_eq]
  have hll : m.log.length ≤ 1000000 := by have := hm.lb; omega
  by_cases hp : op = 18 ∧ ∃ m', portD m at' v = some m'
  · obtain ⟨rfl, m', hp⟩ := hp
    simp only [if_true, hp, Option.isSome_some, Option.getD_some]
    exact vstore_port at' v h hll m' hp
  · have hn : op = 18 → portD m at' v = none := fun e => by
      cases h : portD m at' v with
      | none => rfl
      | some m' => exact absurd ⟨e, m', h⟩ hp
    have e : (if op = 18 then portD m at' v else none) = none := by
      by_cases e : op = 18
      · rw [if_pos e, hn e]
      · rw [if_neg e]
    rw [e]
    cases hl : liesP m at' (sizeP op)
    · refine (vstore_no op at' v h hm h1 h2 ho ho' hn hl).mono ?_
      rintro e w' ⟨rfl, rfl⟩
      exact ⟨vl, by simp, by simpa using h, Chv.refl _ _ _⟩
    · refine (vstore_yes op at' v h hm h1 h2 hv1 hv2 ho ho' hn hl).mono ?_
      rintro e w' ⟨rfl, h1, h2⟩
      exact ⟨vl, by simp, by simpa using h1, h2⟩
end
end Go.Proofs.Ytppmjdljnacpgaa
