/-
  A machine made.
-/
import Derived.Test.YtppmjdljnacpgaaV15
import Derived.Laws.MakeOwn
import Derived.Test.YtppmjdljnacpgaaN2
set_option linter.all false
namespace Go.Proofs.Ytppmjdljnacpgaa
open Go.ChangeShapes Go.WideShapes Go.ChangeAt Go.RowKit
set_option maxHeartbeats 4000000
set_option linter.unusedVariables false
set_option maxRecDepth 20000

theorem Src.form {w : World} {v : Value} {n : Nat} {xs : List Value} (h : Src w v n xs) : ∃ a c, v = .slice a n c := by
  rcases h with ⟨⟨c, rfl⟩, rfl, -⟩ | ⟨ad, c, rfl, -⟩
  · exact ⟨none, c, rfl⟩
  · exact ⟨_, _, rfl⟩
theorem vown_base {w : World} {B B' s n : Nat} {e : TypeId} {v : Value} {xs : List Value} (h : w.ownsRow B e s v n xs) (hb : B' ≤ B) : w.ownsRow B' e s v n xs := by
  obtain ⟨hl, h | ⟨g, cap, cur, e1, e2, r⟩⟩ := h
  · exact ⟨hl, .inl h⟩
  · exact ⟨hl, .inr ⟨g, cap, cur, e1, Nat.le_trans hb e2, r⟩⟩
theorem info_met : (Try.prog.info? 90).map (fun i => (i.zero, i.size, i.bytes)) = some (some (.agg #[.bool false, .bool false, .int .i64 0, .int .i64 0, .int .i64 0, .int .i64 0, .int .i64 0]), 7, 48) := by kernel_rfl
def zmet : Array Value := #[.bool false, .bool false, .int .i64 0, .int .i64 0, .int .i64 0, .int .i64 0, .int .i64 0]
theorem run_make_met (n : Nat) (hn : n ≤ 1000000) (w : World) : (Instr.makeSlice 73 (.int .i64 (n : Int)) (.int .i64 (n : Int))).run Try.prog w = .ok (.slice (some ⟨w.heap.size, 0, none⟩) n n) (w.alloc (.cells (madeCells zmet (n * 7)) 90)) := by
  obtain ⟨i, hi, hz, hs, hb⟩ := info_parts info_met
  have hr := run_make (P := Try.prog) w 73 90 i _ Try.underlying73 hi hz .i64 .i64 n n (by omega) (Int.le_refl _) (by rw [hb]; omega) (by omega)
  simp only [Int.toNat_natCast, hs] at hr
  exact hr
theorem made_met (n : Nat) : (madeCells zmet (n * 7)).toList = (List.replicate n (default : Mt)).flatMap Mt.cells := by
  apply List.ext_getElem?
  intro j
  by_cases hj : j < n * 7
  · have e := flat_at Mt.cells 7 Mt.cells_len (List.replicate n (default : Mt)) (j / 7) (j % 7) (by simp; omega) (Nat.mod_lt _ (by decide))
    rw [show j / 7 * 7 + j % 7 = j by omega] at e
    rw [e]
    have h7 : j % 7 < 7 := Nat.mod_lt _ (by decide)
    simp only [madeCells, Array.toList_map, List.getElem?_map, Array.toList_range, List.getElem?_range hj, Option.map_some]
    have : (List.replicate n (default : Mt)).getD (j / 7) default = default := by
      simp only [List.getD, List.getElem?_replicate]; split <;> rfl
    rw [this]
    show some (zmet[j % 7]!) = (Mt.cells default)[j % 7]?
    have : ∀ r, r < 7 → some (zmet[r]!) = (Mt.cells default)[r]? := by
      intro r hr
      match r, hr with
      | 0, _ => rfl
      | 1, _ => rfl
      | 2, _ => rfl
      | 3, _ => rfl
      | 4, _ => rfl
      | 5, _ => rfl
      | 6, _ => rfl
    exact this _ h7
  · rw [List.getElem?_eq_none (by simp [size_madeCells]; omega), List.getElem?_eq_none (by rw [flat_len Mt.cells 7 Mt.cells_len]; simp; omega)]
theorem own_met (w : World) (n B : Nat) (hn : n ≤ 1000000) (hB : B ≤ w.heap.size) : (w.alloc (.cells (madeCells zmet (n * 7)) 90)).ownsRow B 90 7 (.slice (some ⟨w.heap.size, 0, none⟩) n n) n ((List.replicate n (default : Mt)).flatMap Mt.cells) := by
  refine ⟨by rw [flat_len Mt.cells 7 Mt.cells_len]; simp, .inr ⟨w.heap.size, n, _, rfl, hB, heap_alloc_new w _, Nat.le_refl _, by unfold maxLen; omega, size_madeCells _ _, ?_⟩⟩
  rw [← made_met n]
  exact List.take_of_length_le (by simp [size_madeCells])
def mayD (nc nd : Nat) : Prop := 1 ≤ nc ∧ nc ≤ 32768 ∧ 4 ≤ nd ∧ nd ≤ 65536 ∧ nd % 4 = 0
/-- a machine just made -/
def NewP (C D I : List Int) (w : World) (e : Ending) (w' : World) : Prop := ∃ k : VK, e = .returned (.tuple #[.pointer (some ⟨k.bm, 0, none⟩), .int .i64 0]) ∧ k.B = w.heap.size ∧ k.code = C ∧ k.inp = I ∧ Vm k w' (.slice none 0 0) (beginD D) (List.replicate C.length default) ∧ Below w.heap.size w w'
theorem new_vm {w wj : World} {C D I : List Int} {aC aD aI : Option Addr} {cC cD cI bt : Nat} (hC : wj.ownsRow w.heap.size 24 1 (.slice aC C.length cC) C.length (C.map (Value.int .u32))) (hT : wj.ownsRow w.heap.size 90 7 (.slice (some ⟨bt, 0, none⟩) C.length C.length) C.length ((List.replicate C.length (default : Mt)).flatMap Mt.cells))
    (hD : wj.ownsRow w.heap.size 5 1 (.slice aD D.length cD) D.length (D.map (Value.int .u8))) (hI : wj.ownsRow w.heap.size 24 1 (.slice aI I.length cI) I.length (I.map (Value.int .u32))) (hb : Below w.heap.size w wj) :
    NewP C D I w (.returned (.tuple #[.pointer (some ⟨wj.heap.size, 0, none⟩), .int .i64 0])) (wj.alloc (.cells #[.int .u32 0, .int .u32 0, .int .u32 0, .int .u32 0, .int .u32 0, .int .u32 0, .int .u32 0, .int .u32 0, .int .u32 0, .int .u32 0, .int .u32 0, .int .u32 0, .int .u32 0, .int .u32 0, .int .u32 0, .int .u32 0, .int .u32 0, .int .u32 0, .int .u32 0, .int .u32 0, .int .u32 0, .int .u32 0, .int .u32 0, .int .u32 0, .int .u32 0, .int .u32 0, .int .u32 0, .int .u32 0, .int .u32 0, .int .u32 0, .int .u32 0, .int .u32 0, .int .u32 0, .int .u32 0, .int .u32 0, .slice aC C.length cC, .slice (some ⟨bt, 0, none⟩) C.length C.length, .slice aD D.length cD, .slice aI I.length cI, .slice none 0 0, .int .i64 0, .int .i64 0, .int .u32 0] 79)) := by
  have hB := vbelow1 wj (.cells #[.int .u32 0, .int .u32 0, .int .u32 0, .int .u32 0, .int .u32 0, .int .u32 0, .int .u32 0, .int .u32 0, .int .u32 0, .int .u32 0, .int .u32 0, .int .u32 0, .int .u32 0, .int .u32 0, .int .u32 0, .int .u32 0, .int .u32 0, .int .u32 0, .int .u32 0, .int .u32 0, .int .u32 0, .int .u32 0, .int .u32 0, .int .u32 0, .int .u32 0, .int .u32 0, .int .u32 0, .int .u32 0, .int .u32 0, .int .u32 0, .int .u32 0, .int .u32 0, .int .u32 0, .int .u32 0, .int .u32 0, .slice aC C.length cC, .slice (some ⟨bt, 0, none⟩) C.length C.length, .slice aD D.length cD, .slice aI I.length cI, .slice none 0 0, .int .i64 0, .int .i64 0, .int .u32 0] 79)
  refine ⟨⟨w.heap.size, wj.heap.size, bt, .slice aC C.length cC, .slice aD D.length cD, .slice aI I.length cI, C, I⟩, rfl, rfl, rfl, rfl, ⟨?_, own_below hC hB, own_below hT hB, own_below hD hB, own_below hI hB, World.ownsRow_nil _ _ _ _, by simp [beginD], by simp, ?_, by have := hb.size; simp; omega⟩, hb.trans (hB.mono hb.size)⟩
  · exact ⟨rfl, .inr ⟨wj.heap.size, 1, _, rfl, hb.size, heap_alloc_new wj _, Nat.le_refl _, by decide, rfl, rfl⟩⟩
  · intro j hj
    have : (List.replicate C.length (default : Mt)).getD j default = default := by
      simp only [List.getD, List.getElem?_replicate]; split <;> rfl
    rw [this]
    intro h; cases h
theorem vnew_yes (vc vd vi : Value) (C D I : List Int) (w : World) (hc : Src w vc C.length (C.map (Value.int .u32))) (hd : Src w vd D.length (D.map (Value.int .u8))) (hi : Src w vi I.length (I.map (Value.int .u32))) (hm : mayD C.length D.length) (hil : I.length ≤ 1000000) :
    Calls Try.prog 17 #[vc, vd, vi] w (NewP C D I w) := by
  obtain ⟨m1, m2, m3, m4, m5⟩ := hm
  have HC : Hid (∀ W, Below w.heap.size w W → Calls Try.prog 43 #[vc] W fun e w' => ∃ v', e = .returned v' ∧ w'.ownsRow W.heap.size 24 1 v' C.length (C.map (Value.int .u32)) ∧ Below W.heap.size W w') := fun W hW => clone32 vc _ _ W (hc.keep hW) (by simp) (by omega) (mapV_one _)
  have HD : Hid (∀ W, Below w.heap.size w W → Calls Try.prog 44 #[vd] W fun e w' => ∃ v', e = .returned v' ∧ w'.ownsRow W.heap.size 5 1 v' D.length (D.map (Value.int .u8)) ∧ Below W.heap.size W w') := fun W hW => clone8 vd _ _ W (hd.keep hW) (by simp) (by omega) (mapV_one _)
  have HI : Hid (∀ W, Below w.heap.size w W → Calls Try.prog 43 #[vi] W fun e w' => ∃ v', e = .returned v' ∧ w'.ownsRow W.heap.size 24 1 v' I.length (I.map (Value.int .u32)) ∧ Below W.heap.size W w') := fun W hW => clone32 vi _ _ W (hi.keep hW) (by simp) (by omega) (mapV_one _)
  obtain ⟨ac, cc, rfl⟩ := hc.form
  obtain ⟨ad, cd, rfl⟩ := hd.form
  obtain ⟨ai, ci, rfl⟩ := hi.form
  have hmk := run_make_met C.length (by omega)
  clear hc hd hi
  have g1 : decide ((C.length : Int) < 1) = false := decide_eq_false (by omega)
  have g2 : decide ((32768 : Int) < (C.length : Int)) = false := decide_eq_false (by omega)
  have g3 : decide ((D.length : Int) < 4) = false := decide_eq_false (by omega)
  have g4 : decide ((65536 : Int) < (D.length : Int)) = false := decide_eq_false (by omega)
  have g5 : ((D.length : Int) % 4 != 0) = false := by rw [show (D.length : Int) % 4 = 0 by omega]; rfl
  have BC : Hid (Below w.heap.size w w) := Below.refl _ _
  go_enter Try.func17, Try.ntmps17
  go_wp2_with fail
  refine wp_region_junk (fun _ => True) (by kernel_rfl) ?_
  refine J_mobs [0, 2, 3, 5, 7] _ _ _ _ (by kernel_rfl) ?_
  simp only [List.map_cons, List.map_nil, List.getElem?_toArray, List.getElem?_cons_succ, List.getElem?_cons_zero, Option.getD_some, List.size_toArray, List.length_cons, List.length_nil, Nat.reduceAdd, Nat.reduceSub]
  repeat (go_big_quiet_step (fail))
  refine wpQuiet_nil ?_
  clear g1 g2 g3 g4 g5
  refine J_loud2 1 4 _ _ rfl rfl (by kernel_rfl) ?_ ?_
  · simp only [List.getElem_toArray, List.getElem_cons_succ, List.getElem_cons_zero]
    intro wj hj
    have BC := Lib.hid (BC.out.trans (hj.mono BC.out.size))
    clear hj
    go_wp2_with fail
    refine (HC.out wj BC.out).mono ?_
    rintro e wn ⟨vC, rfl, OCn, hbn⟩
    have OCn := vown_base OCn (B' := w.heap.size) BC.out.size
    obtain ⟨aC, cC, rfl⟩ := vown_form OCn
    have OCn := Lib.hid OCn
    go_wp2_with fail
    refine ⟨KeepX.below hbn, ?_⟩
    have BC := Lib.hid (BC.out.trans (hbn.mono BC.out.size))
    have OC := OCn
    clear hbn
    refine J_loud2 4 6 _ _ rfl rfl (by kernel_rfl) ?_ ?_
    · simp only [List.getElem_toArray, List.getElem_cons_succ, List.getElem_cons_zero]
      intro wj hj
      have BC := Lib.hid (BC.out.trans (hj.mono BC.out.size))
      have OC := Lib.hid (own_below OC.out hj)
      clear hj
      have OTn := own_met wj C.length w.heap.size (by omega) BC.out.size
      have hbn := vbelow1 wj (.cells (madeCells zmet (C.length * 7)) 90)
      go_wp2_with fail
      refine ⟨KeepX.below hbn, ?_⟩
      obtain ⟨bt, hbt⟩ : ∃ bt, bt = wj.heap.size := ⟨_, rfl⟩
      generalize wj.alloc (.cells (madeCells zmet (C.length * 7)) 90) = wn at *
      rw [← hbt] at OTn ⊢
      have OTn := Lib.hid OTn
      clear hbt
      have BC := Lib.hid (BC.out.trans (hbn.mono BC.out.size))
      have OC := Lib.hid (own_below OC.out hbn)
      have OT := OTn
      clear hbn
      refine J_loud1 6 _ rfl (by kernel_rfl) ?_
      simp only [List.getElem_toArray, List.getElem_cons_succ, List.getElem_cons_zero]
      intro wj hj
      have BC := Lib.hid (BC.out.trans (hj.mono BC.out.size))
      have OC := Lib.hid (own_below OC.out hj)
      have OT := Lib.hid (own_below OT.out hj)
      clear hj
      go_wp2_with fail
      refine (HD.out wj BC.out).mono ?_
      rintro e wn ⟨vD, rfl, ODn, hbn⟩
      have ODn := vown_base ODn (B' := w.heap.size) BC.out.size
      obtain ⟨aD, cD, rfl⟩ := vown_form ODn
      have ODn := Lib.hid ODn
      go_wp2_with fail
      refine ⟨KeepX.below hbn, ?_⟩
      have BC := Lib.hid (BC.out.trans (hbn.mono BC.out.size))
      have OC := Lib.hid (own_below OC.out hbn)
      have OT := Lib.hid (own_below OT.out hbn)
      have OD := ODn
      clear hbn
      refine J_loud1 8 _ rfl (by kernel_rfl) ?_
      simp only [List.getElem_toArray, List.getElem_cons_succ, List.getElem_cons_zero]
      intro wj hj
      have BC := Lib.hid (BC.out.trans (hj.mono BC.out.size))
      have OC := Lib.hid (own_below OC.out hj)
      have OT := Lib.hid (own_below OT.out hj)
      have OD := Lib.hid (own_below OD.out hj)
      clear hj
      go_wp2_with fail
      refine (HI.out wj BC.out).mono ?_
      rintro e wn ⟨vI, rfl, OIn, hbn⟩
      have OIn := vown_base OIn (B' := w.heap.size) BC.out.size
      obtain ⟨aI, cI, rfl⟩ := vown_form OIn
      have OIn := Lib.hid OIn
      go_wp2_with fail
      refine ⟨KeepX.below hbn, ?_⟩
      have BC := Lib.hid (BC.out.trans (hbn.mono BC.out.size))
      have OC := Lib.hid (own_below OC.out hbn)
      have OT := Lib.hid (own_below OT.out hbn)
      have OD := Lib.hid (own_below OD.out hbn)
      have OI := OIn
      clear hbn
      refine J_mobs [9] _ _ _ _ (by kernel_rfl) ?_
      simp only [List.map_cons, List.map_nil, List.getElem?_toArray, List.getElem?_cons_succ, List.getElem?_cons_zero, Option.getD_some, List.size_toArray, List.length_cons, List.length_nil, Nat.reduceAdd, Nat.reduceSub]
      repeat (go_big_quiet_step (fail))
      refine wpQuiet_nil ?_
      refine J_loud1 10 _ rfl (by kernel_rfl) ?_
      simp only [List.getElem_toArray, List.getElem_cons_succ, List.getElem_cons_zero]
      intro wj hj
      have BC := Lib.hid (BC.out.trans (hj.mono BC.out.size))
      have OC := Lib.hid (own_below OC.out hj)
      have OT := Lib.hid (own_below OT.out hj)
      have OD := Lib.hid (own_below OD.out hj)
      have OI := Lib.hid (own_below OI.out hj)
      clear hj
      go_wp2_with fail
      have HN := Lib.hid (new_vm OC.out OT.out OD.out OI.out BC.out)
      have hbn := vbelow1 wj (.cells #[.int .u32 0, .int .u32 0, .int .u32 0, .int .u32 0, .int .u32 0, .int .u32 0, .int .u32 0, .int .u32 0, .int .u32 0, .int .u32 0, .int .u32 0, .int .u32 0, .int .u32 0, .int .u32 0, .int .u32 0, .int .u32 0, .int .u32 0, .int .u32 0, .int .u32 0, .int .u32 0, .int .u32 0, .int .u32 0, .int .u32 0, .int .u32 0, .int .u32 0, .int .u32 0, .int .u32 0, .int .u32 0, .int .u32 0, .int .u32 0, .int .u32 0, .int .u32 0, .int .u32 0, .int .u32 0, .int .u32 0, .slice aC C.length cC, .slice (some ⟨bt, 0, none⟩) C.length C.length, .slice aD D.length cD, .slice aI I.length cI, .slice none 0 0, .int .i64 0, .int .i64 0, .int .u32 0] 79)
      refine ⟨KeepX.below hbn, ?_⟩
      clear hbn
      refine J_mobs [11, 12] _ _ _ _ (by kernel_rfl) ?_
      simp only [List.map_cons, List.map_nil, List.getElem?_toArray, List.getElem?_cons_succ, List.getElem?_cons_zero, Option.getD_some, List.size_toArray, List.length_cons, List.length_nil, Nat.reduceAdd, Nat.reduceSub]
      repeat (go_big_quiet_step (fail))
      refine wpQuiet_nil ?_
      refine J_done (by kernel_rfl) (fun wk hk => ?_) _
      go_wp2_with fail
      go_ret2
      obtain ⟨k, e1, e2, e3, e4, e5, e6⟩ := HN.out
      exact ⟨k, e1, e2, e3, e4, e5.grow hk, e6.trans (hk.mono e6.size)⟩
    · simp only [List.getElem_toArray, List.getElem_cons_succ, List.getElem_cons_zero]
      intro wj hj
      have BC := Lib.hid (BC.out.trans (hj.mono BC.out.size))
      have OC := Lib.hid (own_below OC.out hj)
      clear hj
      go_wp2_with fail
      refine (HD.out wj BC.out).mono ?_
      rintro e wn ⟨vD, rfl, ODn, hbn⟩
      have ODn := vown_base ODn (B' := w.heap.size) BC.out.size
      obtain ⟨aD, cD, rfl⟩ := vown_form ODn
      have ODn := Lib.hid ODn
      go_wp2_with fail
      refine ⟨KeepX.below hbn, ?_⟩
      have BC := Lib.hid (BC.out.trans (hbn.mono BC.out.size))
      have OC := Lib.hid (own_below OC.out hbn)
      have OD := ODn
      clear hbn
      refine J_loud2 4 8 _ _ rfl rfl (by kernel_rfl) ?_ ?_
      · simp only [List.getElem_toArray, List.getElem_cons_succ, List.getElem_cons_zero]
        intro wj hj
        have BC := Lib.hid (BC.out.trans (hj.mono BC.out.size))
        have OC := Lib.hid (own_below OC.out hj)
        have OD := Lib.hid (own_below OD.out hj)
        clear hj
        have OTn := own_met wj C.length w.heap.size (by omega) BC.out.size
        have hbn := vbelow1 wj (.cells (madeCells zmet (C.length * 7)) 90)
        go_wp2_with fail
        refine ⟨KeepX.below hbn, ?_⟩
        obtain ⟨bt, hbt⟩ : ∃ bt, bt = wj.heap.size := ⟨_, rfl⟩
        generalize wj.alloc (.cells (madeCells zmet (C.length * 7)) 90) = wn at *
        rw [← hbt] at OTn ⊢
        have OTn := Lib.hid OTn
        clear hbt
        have BC := Lib.hid (BC.out.trans (hbn.mono BC.out.size))
        have OC := Lib.hid (own_below OC.out hbn)
        have OD := Lib.hid (own_below OD.out hbn)
        have OT := OTn
        clear hbn
        refine J_loud1 8 _ rfl (by kernel_rfl) ?_
        simp only [List.getElem_toArray, List.getElem_cons_succ, List.getElem_cons_zero]
        intro wj hj
        have BC := Lib.hid (BC.out.trans (hj.mono BC.out.size))
        have OC := Lib.hid (own_below OC.out hj)
        have OT := Lib.hid (own_below OT.out hj)
        have OD := Lib.hid (own_below OD.out hj)
        clear hj
        go_wp2_with fail
        refine (HI.out wj BC.out).mono ?_
        rintro e wn ⟨vI, rfl, OIn, hbn⟩
        have OIn := vown_base OIn (B' := w.heap.size) BC.out.size
        obtain ⟨aI, cI, rfl⟩ := vown_form OIn
        have OIn := Lib.hid OIn
        go_wp2_with fail
        refine ⟨KeepX.below hbn, ?_⟩
        have BC := Lib.hid (BC.out.trans (hbn.mono BC.out.size))
        have OC := Lib.hid (own_below OC.out hbn)
        have OT := Lib.hid (own_below OT.out hbn)
        have OD := Lib.hid (own_below OD.out hbn)
        have OI := OIn
        clear hbn
        refine J_mobs [9] _ _ _ _ (by kernel_rfl) ?_
        simp only [List.map_cons, List.map_nil, List.getElem?_toArray, List.getElem?_cons_succ, List.getElem?_cons_zero, Option.getD_some, List.size_toArray, List.length_cons, List.length_nil, Nat.reduceAdd, Nat.reduceSub]
        repeat (go_big_quiet_step (fail))
        refine wpQuiet_nil ?_
        refine J_loud1 10 _ rfl (by kernel_rfl) ?_
        simp only [List.getElem_toArray, List.getElem_cons_succ, List.getElem_cons_zero]
        intro wj hj
        have BC := Lib.hid (BC.out.trans (hj.mono BC.out.size))
        have OC := Lib.hid (own_below OC.out hj)
        have OT := Lib.hid (own_below OT.out hj)
        have OD := Lib.hid (own_below OD.out hj)
        have OI := Lib.hid (own_below OI.out hj)
        clear hj
        go_wp2_with fail
        have HN := Lib.hid (new_vm OC.out OT.out OD.out OI.out BC.out)
        have hbn := vbelow1 wj (.cells #[.int .u32 0, .int .u32 0, .int .u32 0, .int .u32 0, .int .u32 0, .int .u32 0, .int .u32 0, .int .u32 0, .int .u32 0, .int .u32 0, .int .u32 0, .int .u32 0, .int .u32 0, .int .u32 0, .int .u32 0, .int .u32 0, .int .u32 0, .int .u32 0, .int .u32 0, .int .u32 0, .int .u32 0, .int .u32 0, .int .u32 0, .int .u32 0, .int .u32 0, .int .u32 0, .int .u32 0, .int .u32 0, .int .u32 0, .int .u32 0, .int .u32 0, .int .u32 0, .int .u32 0, .int .u32 0, .int .u32 0, .slice aC C.length cC, .slice (some ⟨bt, 0, none⟩) C.length C.length, .slice aD D.length cD, .slice aI I.length cI, .slice none 0 0, .int .i64 0, .int .i64 0, .int .u32 0] 79)
        refine ⟨KeepX.below hbn, ?_⟩
        clear hbn
        refine J_mobs [11, 12] _ _ _ _ (by kernel_rfl) ?_
        simp only [List.map_cons, List.map_nil, List.getElem?_toArray, List.getElem?_cons_succ, List.getElem?_cons_zero, Option.getD_some, List.size_toArray, List.length_cons, List.length_nil, Nat.reduceAdd, Nat.reduceSub]
        repeat (go_big_quiet_step (fail))
        refine wpQuiet_nil ?_
        refine J_done (by kernel_rfl) (fun wk hk => ?_) _
        go_wp2_with fail
        go_ret2
        obtain ⟨k, e1, e2, e3, e4, e5, e6⟩ := HN.out
        exact ⟨k, e1, e2, e3, e4, e5.grow hk, e6.trans (hk.mono e6.size)⟩
      · simp only [List.getElem_toArray, List.getElem_cons_succ, List.getElem_cons_zero]
        intro wj hj
        have BC := Lib.hid (BC.out.trans (hj.mono BC.out.size))
        have OC := Lib.hid (own_below OC.out hj)
        have OD := Lib.hid (own_below OD.out hj)
        clear hj
        go_wp2_with fail
        refine (HI.out wj BC.out).mono ?_
        rintro e wn ⟨vI, rfl, OIn, hbn⟩
        have OIn := vown_base OIn (B' := w.heap.size) BC.out.size
        obtain ⟨aI, cI, rfl⟩ := vown_form OIn
        have OIn := Lib.hid OIn
        go_wp2_with fail
        refine ⟨KeepX.below hbn, ?_⟩
        have BC := Lib.hid (BC.out.trans (hbn.mono BC.out.size))
        have OC := Lib.hid (own_below OC.out hbn)
        have OD := Lib.hid (own_below OD.out hbn)
        have OI := OIn
        clear hbn
        refine J_loud1 4 _ rfl (by kernel_rfl) ?_
        simp only [List.getElem_toArray, List.getElem_cons_succ, List.getElem_cons_zero]
        intro wj hj
        have BC := Lib.hid (BC.out.trans (hj.mono BC.out.size))
        have OC := Lib.hid (own_below OC.out hj)
        have OD := Lib.hid (own_below OD.out hj)
        have OI := Lib.hid (own_below OI.out hj)
        clear hj
        have OTn := own_met wj C.length w.heap.size (by omega) BC.out.size
        have hbn := vbelow1 wj (.cells (madeCells zmet (C.length * 7)) 90)
        go_wp2_with fail
        refine ⟨KeepX.below hbn, ?_⟩
        obtain ⟨bt, hbt⟩ : ∃ bt, bt = wj.heap.size := ⟨_, rfl⟩
        generalize wj.alloc (.cells (madeCells zmet (C.length * 7)) 90) = wn at *
        rw [← hbt] at OTn ⊢
        have OTn := Lib.hid OTn
        clear hbt
        have BC := Lib.hid (BC.out.trans (hbn.mono BC.out.size))
        have OC := Lib.hid (own_below OC.out hbn)
        have OD := Lib.hid (own_below OD.out hbn)
        have OI := Lib.hid (own_below OI.out hbn)
        have OT := OTn
        clear hbn
        refine J_mobs [9] _ _ _ _ (by kernel_rfl) ?_
        simp only [List.map_cons, List.map_nil, List.getElem?_toArray, List.getElem?_cons_succ, List.getElem?_cons_zero, Option.getD_some, List.size_toArray, List.length_cons, List.length_nil, Nat.reduceAdd, Nat.reduceSub]
        repeat (go_big_quiet_step (fail))
        refine wpQuiet_nil ?_
        refine J_loud1 10 _ rfl (by kernel_rfl) ?_
        simp only [List.getElem_toArray, List.getElem_cons_succ, List.getElem_cons_zero]
        intro wj hj
        have BC := Lib.hid (BC.out.trans (hj.mono BC.out.size))
        have OC := Lib.hid (own_below OC.out hj)
        have OT := Lib.hid (own_below OT.out hj)
        have OD := Lib.hid (own_below OD.out hj)
        have OI := Lib.hid (own_below OI.out hj)
        clear hj
        go_wp2_with fail
        have HN := Lib.hid (new_vm OC.out OT.out OD.out OI.out BC.out)
        have hbn := vbelow1 wj (.cells #[.int .u32 0, .int .u32 0, .int .u32 0, .int .u32 0, .int .u32 0, .int .u32 0, .int .u32 0, .int .u32 0, .int .u32 0, .int .u32 0, .int .u32 0, .int .u32 0, .int .u32 0, .int .u32 0, .int .u32 0, .int .u32 0, .int .u32 0, .int .u32 0, .int .u32 0, .int .u32 0, .int .u32 0, .int .u32 0, .int .u32 0, .int .u32 0, .int .u32 0, .int .u32 0, .int .u32 0, .int .u32 0, .int .u32 0, .int .u32 0, .int .u32 0, .int .u32 0, .int .u32 0, .int .u32 0, .int .u32 0, .slice aC C.length cC, .slice (some ⟨bt, 0, none⟩) C.length C.length, .slice aD D.length cD, .slice aI I.length cI, .slice none 0 0, .int .i64 0, .int .i64 0, .int .u32 0] 79)
        refine ⟨KeepX.below hbn, ?_⟩
        clear hbn
        refine J_mobs [11, 12] _ _ _ _ (by kernel_rfl) ?_
        simp only [List.map_cons, List.map_nil, List.getElem?_toArray, List.getElem?_cons_succ, List.getElem?_cons_zero, Option.getD_some, List.size_toArray, List.length_cons, List.length_nil, Nat.reduceAdd, Nat.reduceSub]
        repeat (go_big_quiet_step (fail))
        refine wpQuiet_nil ?_
        refine J_done (by kernel_rfl) (fun wk hk => ?_) _
        go_wp2_with fail
        go_ret2
        obtain ⟨k, e1, e2, e3, e4, e5, e6⟩ := HN.out
        exact ⟨k, e1, e2, e3, e4, e5.grow hk, e6.trans (hk.mono e6.size)⟩
  · simp only [List.getElem_toArray, List.getElem_cons_succ, List.getElem_cons_zero]
    intro wj hj
    have BC := Lib.hid (BC.out.trans (hj.mono BC.out.size))
    clear hj
    have OTn := own_met wj C.length w.heap.size (by omega) BC.out.size
    have hbn := vbelow1 wj (.cells (madeCells zmet (C.length * 7)) 90)
    go_wp2_with fail
    refine ⟨KeepX.below hbn, ?_⟩
    obtain ⟨bt, hbt⟩ : ∃ bt, bt = wj.heap.size := ⟨_, rfl⟩
    generalize wj.alloc (.cells (madeCells zmet (C.length * 7)) 90) = wn at *
    rw [← hbt] at OTn ⊢
    have OTn := Lib.hid OTn
    clear hbt
    have BC := Lib.hid (BC.out.trans (hbn.mono BC.out.size))
    have OT := OTn
    clear hbn
    refine J_loud1 1 _ rfl (by kernel_rfl) ?_
    simp only [List.getElem_toArray, List.getElem_cons_succ, List.getElem_cons_zero]
    intro wj hj
    have BC := Lib.hid (BC.out.trans (hj.mono BC.out.size))
    have OT := Lib.hid (own_below OT.out hj)
    clear hj
    go_wp2_with fail
    refine (HC.out wj BC.out).mono ?_
    rintro e wn ⟨vC, rfl, OCn, hbn⟩
    have OCn := vown_base OCn (B' := w.heap.size) BC.out.size
    obtain ⟨aC, cC, rfl⟩ := vown_form OCn
    have OCn := Lib.hid OCn
    go_wp2_with fail
    refine ⟨KeepX.below hbn, ?_⟩
    have BC := Lib.hid (BC.out.trans (hbn.mono BC.out.size))
    have OT := Lib.hid (own_below OT.out hbn)
    have OC := OCn
    clear hbn
    refine J_loud1 6 _ rfl (by kernel_rfl) ?_
    simp only [List.getElem_toArray, List.getElem_cons_succ, List.getElem_cons_zero]
    intro wj hj
    have BC := Lib.hid (BC.out.trans (hj.mono BC.out.size))
    have OC := Lib.hid (own_below OC.out hj)
    have OT := Lib.hid (own_below OT.out hj)
    clear hj
    go_wp2_with fail
    refine (HD.out wj BC.out).mono ?_
    rintro e wn ⟨vD, rfl, ODn, hbn⟩
    have ODn := vown_base ODn (B' := w.heap.size) BC.out.size
    obtain ⟨aD, cD, rfl⟩ := vown_form ODn
    have ODn := Lib.hid ODn
    go_wp2_with fail
    refine ⟨KeepX.below hbn, ?_⟩
    have BC := Lib.hid (BC.out.trans (hbn.mono BC.out.size))
    have OC := Lib.hid (own_below OC.out hbn)
    have OT := Lib.hid (own_below OT.out hbn)
    have OD := ODn
    clear hbn
    refine J_loud1 8 _ rfl (by kernel_rfl) ?_
    simp only [List.getElem_toArray, List.getElem_cons_succ, List.getElem_cons_zero]
    intro wj hj
    have BC := Lib.hid (BC.out.trans (hj.mono BC.out.size))
    have OC := Lib.hid (own_below OC.out hj)
    have OT := Lib.hid (own_below OT.out hj)
    have OD := Lib.hid (own_below OD.out hj)
    clear hj
    go_wp2_with fail
    refine (HI.out wj BC.out).mono ?_
    rintro e wn ⟨vI, rfl, OIn, hbn⟩
    have OIn := vown_base OIn (B' := w.heap.size) BC.out.size
    obtain ⟨aI, cI, rfl⟩ := vown_form OIn
    have OIn := Lib.hid OIn
    go_wp2_with fail
    refine ⟨KeepX.below hbn, ?_⟩
    have BC := Lib.hid (BC.out.trans (hbn.mono BC.out.size))
    have OC := Lib.hid (own_below OC.out hbn)
    have OT := Lib.hid (own_below OT.out hbn)
    have OD := Lib.hid (own_below OD.out hbn)
    have OI := OIn
    clear hbn
    refine J_mobs [9] _ _ _ _ (by kernel_rfl) ?_
    simp only [List.map_cons, List.map_nil, List.getElem?_toArray, List.getElem?_cons_succ, List.getElem?_cons_zero, Option.getD_some, List.size_toArray, List.length_cons, List.length_nil, Nat.reduceAdd, Nat.reduceSub]
    repeat (go_big_quiet_step (fail))
    refine wpQuiet_nil ?_
    refine J_loud1 10 _ rfl (by kernel_rfl) ?_
    simp only [List.getElem_toArray, List.getElem_cons_succ, List.getElem_cons_zero]
    intro wj hj
    have BC := Lib.hid (BC.out.trans (hj.mono BC.out.size))
    have OC := Lib.hid (own_below OC.out hj)
    have OT := Lib.hid (own_below OT.out hj)
    have OD := Lib.hid (own_below OD.out hj)
    have OI := Lib.hid (own_below OI.out hj)
    clear hj
    go_wp2_with fail
    have HN := Lib.hid (new_vm OC.out OT.out OD.out OI.out BC.out)
    have hbn := vbelow1 wj (.cells #[.int .u32 0, .int .u32 0, .int .u32 0, .int .u32 0, .int .u32 0, .int .u32 0, .int .u32 0, .int .u32 0, .int .u32 0, .int .u32 0, .int .u32 0, .int .u32 0, .int .u32 0, .int .u32 0, .int .u32 0, .int .u32 0, .int .u32 0, .int .u32 0, .int .u32 0, .int .u32 0, .int .u32 0, .int .u32 0, .int .u32 0, .int .u32 0, .int .u32 0, .int .u32 0, .int .u32 0, .int .u32 0, .int .u32 0, .int .u32 0, .int .u32 0, .int .u32 0, .int .u32 0, .int .u32 0, .int .u32 0, .slice aC C.length cC, .slice (some ⟨bt, 0, none⟩) C.length C.length, .slice aD D.length cD, .slice aI I.length cI, .slice none 0 0, .int .i64 0, .int .i64 0, .int .u32 0] 79)
    refine ⟨KeepX.below hbn, ?_⟩
    clear hbn
    refine J_mobs [11, 12] _ _ _ _ (by kernel_rfl) ?_
    simp only [List.map_cons, List.map_nil, List.getElem?_toArray, List.getElem?_cons_succ, List.getElem?_cons_zero, Option.getD_some, List.size_toArray, List.length_cons, List.length_nil, Nat.reduceAdd, Nat.reduceSub]
    repeat (go_big_quiet_step (fail))
    refine wpQuiet_nil ?_
    refine J_done (by kernel_rfl) (fun wk hk => ?_) _
    go_wp2_with fail
    go_ret2
    obtain ⟨k, e1, e2, e3, e4, e5, e6⟩ := HN.out
    exact ⟨k, e1, e2, e3, e4, e5.grow hk, e6.trans (hk.mono e6.size)⟩
theorem vnew_no (vc vd vi : Value) (nc nd : Nat) (ac ad : Option Addr) (cc cd : Nat) (w : World) (hc : vc = .slice ac nc cc) (hd : vd = .slice ad nd cd) (hm : ¬ mayD nc nd) (h1 : nc ≤ 1000000) (h2 : nd ≤ 1000000) :
    Calls Try.prog 17 #[vc, vd, vi] w fun e w' => e = .returned (.tuple #[.pointer none, .int .i64 1]) ∧ w = w' := by
  subst hc hd
  by_cases q1 : 1 ≤ nc
  · have g1 : decide ((nc : Int) < 1) = false := decide_eq_false (by omega)
    by_cases q2 : nc ≤ 32768
    · have g2 : decide ((32768 : Int) < (nc : Int)) = false := decide_eq_false (by omega)
      by_cases q3 : 4 ≤ nd
      · have g3 : decide ((nd : Int) < 4) = false := decide_eq_false (by omega)
        by_cases q4 : nd ≤ 65536
        · have g4 : decide ((65536 : Int) < (nd : Int)) = false := decide_eq_false (by omega)
          have q5 : nd % 4 ≠ 0 := fun e => hm ⟨q1, q2, q3, q4, e⟩
          have g5 : ((nd : Int) % 4 != 0) = true := bne_iff_ne.2 (by omega)
          clear hm
          go_enter Try.func17, Try.ntmps17
          go_wp2_with fail
          go_ret2
          exact ⟨rfl, rfl⟩
        · have g4 : decide ((65536 : Int) < (nd : Int)) = true := decide_eq_true (by omega)
          clear hm
          go_enter Try.func17, Try.ntmps17
          go_wp2_with fail
          go_ret2
          exact ⟨rfl, rfl⟩
      · have g3 : decide ((nd : Int) < 4) = true := decide_eq_true (by omega)
        clear hm
        go_enter Try.func17, Try.ntmps17
        go_wp2_with fail
        go_ret2
        exact ⟨rfl, rfl⟩
    · have g2 : decide ((32768 : Int) < (nc : Int)) = true := decide_eq_true (by omega)
      clear hm
      go_enter Try.func17, Try.ntmps17
      go_wp2_with fail
      go_ret2
      exact ⟨rfl, rfl⟩
  · have g1 : decide ((nc : Int) < 1) = true := decide_eq_true (by omega)
    clear hm
    go_enter Try.func17, Try.ntmps17
    go_wp2_with fail
    go_ret2
    exact ⟨rfl, rfl⟩
end Go.Proofs.Ytppmjdljnacpgaa
