/-
  The example of the layer, and which cases the statements go through.
-/
import Derived.Test.YtppmjdljnacpgaaV16
import Derived.Deep.OwnRows
set_option linter.all false
namespace Go.Proofs.Ytppmjdljnacpgaa
open Go.ChangeShapes Go.WideShapes Go.ChangeAt Go.RowKit
set_option maxHeartbeats 4000000
set_option linter.unusedVariables false
set_option maxRecDepth 100000

def fewB (nc nd ni nf : Nat) (n : Int) : Bool := (decide (nc ≤ 200) || (decide (32768 < nc) && decide (nc ≤ 33000))) && ((decide (nd ≤ 400) || (decide (65536 < nd) && decide (nd ≤ 66000))) && (decide (ni ≤ 40) && (decide (nf ≤ 100) && decide (n ≤ 400))))
theorem few_c (nc nd ni nf : Nat) (n : Int) (ac ad ai af : Option Addr) (cc cd ci cf : Nat) (w : World) :
    Calls Try.prog 15 #[.agg #[.slice ac nc cc, .slice ad nd cd, .slice ai ni ci, .slice af nf cf, .int .i64 n]] w fun e w' => e = .returned (.bool (fewB nc nd ni nf n)) ∧ Below w.heap.size w w' := by
  by_cases k1 : nc ≤ 200
  · have a1 : decide (nc ≤ 200) = true := by simp; omega
    have b1 : decide (((nc : Nat) : Int) ≤ 200) = true := by simp; omega
    by_cases k2 : nd ≤ 400
    · have a2 : decide (nd ≤ 400) = true := by simp; omega
      have b2 : decide (((nd : Nat) : Int) ≤ 400) = true := by simp; omega
      by_cases k3 : ni ≤ 40
      · have a3 : decide (ni ≤ 40) = true := by simp; omega
        have b3 : decide (((ni : Nat) : Int) ≤ 40) = true := by simp; omega
        by_cases k4 : nf ≤ 100
        · have a4 : decide (nf ≤ 100) = true := by simp; omega
          have b4 : decide (((nf : Nat) : Int) ≤ 100) = true := by simp; omega
          by_cases k5 : n ≤ 400
          · have a5 : decide (n ≤ 400) = true := by simp; omega
            have HB : Hid (true = fewB nc nd ni nf n) := by
              show _ = _
              unfold fewB
              simp [*]
            go_enter Try.func15, Try.ntmps15
            go_wp2_with fail
            go_ret
            exact ⟨by rw [← HB.out]; rfl, vbelow1 w _⟩
          · have a5 : decide (n ≤ 400) = false := by simp; omega
            have HB : Hid (false = fewB nc nd ni nf n) := by
              show _ = _
              unfold fewB
              simp [*]
            go_enter Try.func15, Try.ntmps15
            go_wp2_with fail
            go_ret
            exact ⟨by rw [← HB.out]; rfl, vbelow1 w _⟩
        · have a4 : decide (nf ≤ 100) = false := by simp; omega
          have b4 : decide (((nf : Nat) : Int) ≤ 100) = false := by simp; omega
          have HB : Hid (false = fewB nc nd ni nf n) := by
            show _ = _
            unfold fewB
            simp [*]
          go_enter Try.func15, Try.ntmps15
          go_wp2_with fail
          go_ret
          exact ⟨by rw [← HB.out]; rfl, vbelow1 w _⟩
      · have a3 : decide (ni ≤ 40) = false := by simp; omega
        have b3 : decide (((ni : Nat) : Int) ≤ 40) = false := by simp; omega
        have HB : Hid (false = fewB nc nd ni nf n) := by
          show _ = _
          unfold fewB
          simp [*]
        go_enter Try.func15, Try.ntmps15
        go_wp2_with fail
        go_ret
        exact ⟨by rw [← HB.out]; rfl, vbelow1 w _⟩
    · have a2 : decide (nd ≤ 400) = false := by simp; omega
      have b2 : decide (((nd : Nat) : Int) ≤ 400) = false := by simp; omega
      by_cases k6 : 65536 < nd
      · have a6 : decide (65536 < nd) = true := by simp; omega
        have b6 : decide ((65536 : Int) < ((nd : Nat) : Int)) = true := by simp; omega
        by_cases k7 : nd ≤ 66000
        · have a7 : decide (nd ≤ 66000) = true := by simp; omega
          have b7 : decide (((nd : Nat) : Int) ≤ 66000) = true := by simp; omega
          by_cases k8 : ni ≤ 40
          · have a8 : decide (ni ≤ 40) = true := by simp; omega
            have b8 : decide (((ni : Nat) : Int) ≤ 40) = true := by simp; omega
            by_cases k9 : nf ≤ 100
            · have a9 : decide (nf ≤ 100) = true := by simp; omega
              have b9 : decide (((nf : Nat) : Int) ≤ 100) = true := by simp; omega
              by_cases k10 : n ≤ 400
              · have a10 : decide (n ≤ 400) = true := by simp; omega
                have HB : Hid (true = fewB nc nd ni nf n) := by
                  show _ = _
                  unfold fewB
                  simp [*]
                go_enter Try.func15, Try.ntmps15
                go_wp2_with fail
                go_ret
                exact ⟨by rw [← HB.out]; rfl, vbelow1 w _⟩
              · have a10 : decide (n ≤ 400) = false := by simp; omega
                have HB : Hid (false = fewB nc nd ni nf n) := by
                  show _ = _
                  unfold fewB
                  simp [*]
                go_enter Try.func15, Try.ntmps15
                go_wp2_with fail
                go_ret
                exact ⟨by rw [← HB.out]; rfl, vbelow1 w _⟩
            · have a9 : decide (nf ≤ 100) = false := by simp; omega
              have b9 : decide (((nf : Nat) : Int) ≤ 100) = false := by simp; omega
              have HB : Hid (false = fewB nc nd ni nf n) := by
                show _ = _
                unfold fewB
                simp [*]
              go_enter Try.func15, Try.ntmps15
              go_wp2_with fail
              go_ret
              exact ⟨by rw [← HB.out]; rfl, vbelow1 w _⟩
          · have a8 : decide (ni ≤ 40) = false := by simp; omega
            have b8 : decide (((ni : Nat) : Int) ≤ 40) = false := by simp; omega
            have HB : Hid (false = fewB nc nd ni nf n) := by
              show _ = _
              unfold fewB
              simp [*]
            go_enter Try.func15, Try.ntmps15
            go_wp2_with fail
            go_ret
            exact ⟨by rw [← HB.out]; rfl, vbelow1 w _⟩
        · have a7 : decide (nd ≤ 66000) = false := by simp; omega
          have b7 : decide (((nd : Nat) : Int) ≤ 66000) = false := by simp; omega
          have HB : Hid (false = fewB nc nd ni nf n) := by
            show _ = _
            unfold fewB
            simp [*]
          go_enter Try.func15, Try.ntmps15
          go_wp2_with fail
          go_ret
          exact ⟨by rw [← HB.out]; rfl, vbelow1 w _⟩
      · have a6 : decide (65536 < nd) = false := by simp; omega
        have b6 : decide ((65536 : Int) < ((nd : Nat) : Int)) = false := by simp; omega
        have HB : Hid (false = fewB nc nd ni nf n) := by
          show _ = _
          unfold fewB
          simp [*]
        go_enter Try.func15, Try.ntmps15
        go_wp2_with fail
        go_ret
        exact ⟨by rw [← HB.out]; rfl, vbelow1 w _⟩
  · have a1 : decide (nc ≤ 200) = false := by simp; omega
    have b1 : decide (((nc : Nat) : Int) ≤ 200) = false := by simp; omega
    by_cases k11 : 32768 < nc
    · have a11 : decide (32768 < nc) = true := by simp; omega
      have b11 : decide ((32768 : Int) < ((nc : Nat) : Int)) = true := by simp; omega
      by_cases k12 : nc ≤ 33000
      · have a12 : decide (nc ≤ 33000) = true := by simp; omega
        have b12 : decide (((nc : Nat) : Int) ≤ 33000) = true := by simp; omega
        by_cases k13 : nd ≤ 400
        · have a13 : decide (nd ≤ 400) = true := by simp; omega
          have b13 : decide (((nd : Nat) : Int) ≤ 400) = true := by simp; omega
          by_cases k14 : ni ≤ 40
          · have a14 : decide (ni ≤ 40) = true := by simp; omega
            have b14 : decide (((ni : Nat) : Int) ≤ 40) = true := by simp; omega
            by_cases k15 : nf ≤ 100
            · have a15 : decide (nf ≤ 100) = true := by simp; omega
              have b15 : decide (((nf : Nat) : Int) ≤ 100) = true := by simp; omega
              by_cases k16 : n ≤ 400
              · have a16 : decide (n ≤ 400) = true := by simp; omega
                have HB : Hid (true = fewB nc nd ni nf n) := by
                  show _ = _
                  unfold fewB
                  simp [*]
                go_enter Try.func15, Try.ntmps15
                go_wp2_with fail
                go_ret
                exact ⟨by rw [← HB.out]; rfl, vbelow1 w _⟩
              · have a16 : decide (n ≤ 400) = false := by simp; omega
                have HB : Hid (false = fewB nc nd ni nf n) := by
                  show _ = _
                  unfold fewB
                  simp [*]
                go_enter Try.func15, Try.ntmps15
                go_wp2_with fail
                go_ret
                exact ⟨by rw [← HB.out]; rfl, vbelow1 w _⟩
            · have a15 : decide (nf ≤ 100) = false := by simp; omega
              have b15 : decide (((nf : Nat) : Int) ≤ 100) = false := by simp; omega
              have HB : Hid (false = fewB nc nd ni nf n) := by
                show _ = _
                unfold fewB
                simp [*]
              go_enter Try.func15, Try.ntmps15
              go_wp2_with fail
              go_ret
              exact ⟨by rw [← HB.out]; rfl, vbelow1 w _⟩
          · have a14 : decide (ni ≤ 40) = false := by simp; omega
            have b14 : decide (((ni : Nat) : Int) ≤ 40) = false := by simp; omega
            have HB : Hid (false = fewB nc nd ni nf n) := by
              show _ = _
              unfold fewB
              simp [*]
            go_enter Try.func15, Try.ntmps15
            go_wp2_with fail
            go_ret
            exact ⟨by rw [← HB.out]; rfl, vbelow1 w _⟩
        · have a13 : decide (nd ≤ 400) = false := by simp; omega
          have b13 : decide (((nd : Nat) : Int) ≤ 400) = false := by simp; omega
          by_cases k17 : 65536 < nd
          · have a17 : decide (65536 < nd) = true := by simp; omega
            have b17 : decide ((65536 : Int) < ((nd : Nat) : Int)) = true := by simp; omega
            by_cases k18 : nd ≤ 66000
            · have a18 : decide (nd ≤ 66000) = true := by simp; omega
              have b18 : decide (((nd : Nat) : Int) ≤ 66000) = true := by simp; omega
              by_cases k19 : ni ≤ 40
              · have a19 : decide (ni ≤ 40) = true := by simp; omega
                have b19 : decide (((ni : Nat) : Int) ≤ 40) = true := by simp; omega
                by_cases k20 : nf ≤ 100
                · have a20 : decide (nf ≤ 100) = true := by simp; omega
                  have b20 : decide (((nf : Nat) : Int) ≤ 100) = true := by simp; omega
                  by_cases k21 : n ≤ 400
                  · have a21 : decide (n ≤ 400) = true := by simp; omega
                    have HB : Hid (true = fewB nc nd ni nf n) := by
                      show _ = _
                      unfold fewB
                      simp [*]
                    go_enter Try.func15, Try.ntmps15
                    go_wp2_with fail
                    go_ret
                    exact ⟨by rw [← HB.out]; rfl, vbelow1 w _⟩
                  · have a21 : decide (n ≤ 400) = false := by simp; omega
                    have HB : Hid (false = fewB nc nd ni nf n) := by
                      show _ = _
                      unfold fewB
                      simp [*]
                    go_enter Try.func15, Try.ntmps15
                    go_wp2_with fail
                    go_ret
                    exact ⟨by rw [← HB.out]; rfl, vbelow1 w _⟩
                · have a20 : decide (nf ≤ 100) = false := by simp; omega
                  have b20 : decide (((nf : Nat) : Int) ≤ 100) = false := by simp; omega
                  have HB : Hid (false = fewB nc nd ni nf n) := by
                    show _ = _
                    unfold fewB
                    simp [*]
                  go_enter Try.func15, Try.ntmps15
                  go_wp2_with fail
                  go_ret
                  exact ⟨by rw [← HB.out]; rfl, vbelow1 w _⟩
              · have a19 : decide (ni ≤ 40) = false := by simp; omega
                have b19 : decide (((ni : Nat) : Int) ≤ 40) = false := by simp; omega
                have HB : Hid (false = fewB nc nd ni nf n) := by
                  show _ = _
                  unfold fewB
                  simp [*]
                go_enter Try.func15, Try.ntmps15
                go_wp2_with fail
                go_ret
                exact ⟨by rw [← HB.out]; rfl, vbelow1 w _⟩
            · have a18 : decide (nd ≤ 66000) = false := by simp; omega
              have b18 : decide (((nd : Nat) : Int) ≤ 66000) = false := by simp; omega
              have HB : Hid (false = fewB nc nd ni nf n) := by
                show _ = _
                unfold fewB
                simp [*]
              go_enter Try.func15, Try.ntmps15
              go_wp2_with fail
              go_ret
              exact ⟨by rw [← HB.out]; rfl, vbelow1 w _⟩
          · have a17 : decide (65536 < nd) = false := by simp; omega
            have b17 : decide ((65536 : Int) < ((nd : Nat) : Int)) = false := by simp; omega
            have HB : Hid (false = fewB nc nd ni nf n) := by
              show _ = _
              unfold fewB
              simp [*]
            go_enter Try.func15, Try.ntmps15
            go_wp2_with fail
            go_ret
            exact ⟨by rw [← HB.out]; rfl, vbelow1 w _⟩
      · have a12 : decide (nc ≤ 33000) = false := by simp; omega
        have b12 : decide (((nc : Nat) : Int) ≤ 33000) = false := by simp; omega
        have HB : Hid (false = fewB nc nd ni nf n) := by
          show _ = _
          unfold fewB
          simp [*]
        go_enter Try.func15, Try.ntmps15
        go_wp2_with fail
        go_ret
        exact ⟨by rw [← HB.out]; rfl, vbelow1 w _⟩
    · have a11 : decide (32768 < nc) = false := by simp; omega
      have b11 : decide ((32768 : Int) < ((nc : Nat) : Int)) = false := by simp; omega
      have HB : Hid (false = fewB nc nd ni nf n) := by
        show _ = _
        unfold fewB
        simp [*]
      go_enter Try.func15, Try.ntmps15
      go_wp2_with fail
      go_ret
      exact ⟨by rw [← HB.out]; rfl, vbelow1 w _⟩
theorem made_at (z : Value) (n i : Nat) (hi : i < n) : (madeCells #[z] n)[i]? = some z := by simp [madeCells, hi, Nat.mod_one]
theorem vchvBelow {k : VK} {w w' : World} {vl vl' : Value} {m : Dv} {ts : List Mt} (h : Vm k w vl m ts) (hc : Chv k vl vl' w w') : Below k.B w w' :=
  hc.below h.low h.bmLt.1 h.btLt.1 (fun g e => (own_lt h.dd e).1) (fun g e => (own_lt h.ll e).1)
theorem fv_nil (w : World) (fb : Nat) (a : Option Addr) (c : Nat) : FV w fb (.slice a 0 c) [] := .inl ⟨⟨a, c, rfl⟩, rfl⟩
/-- a block that is not yet made is none of the machine's -/
theorem Vm.fresh {k : VK} {w : World} {vl : Value} {m : Dv} {ts : List Mt} (h : Vm k w vl m ts) : w.heap.size ≠ k.bm ∧ w.heap.size ≠ k.bt ∧ some w.heap.size ≠ k.vd.ownBlock ∧ some w.heap.size ≠ vl.ownBlock :=
  ⟨fun e => by have := h.bmLt.2; omega, fun e => by have := h.btLt.2; omega, fun e => by have := (own_lt h.dd e.symm).2; omega, fun e => by have := (own_lt h.ll e.symm).2; omega⟩
def awC : List Int := [5243027, 111]
def awD : List Int := [0, 0, 0, 0]
theorem aw_run : (regT (runT awC [] 2 [] (beginD awD)) 1 == 5 && (runT awC [] 2 [] (beginD awD)).pc == 4 && (runT awC [] 2 [] (beginD awD)).steps == 2 && (regT (failD (runT awC [] 2 [] (beginD awD))) 1 == 0) && (failD (runT awC [] 2 [] (beginD awD))).pc == 0) = true := by kernel_rfl
theorem aw_ok : Dok (beginD awD) := by
  have hz : ∀ j, (List.replicate 32 (0 : Int)).getD j 0 = 0 := fun j => by
    simp only [List.getD, List.getElem?_replicate]; split <;> rfl
  have hd : ∀ j, awD.getD j 0 = 0 := fun j => by
    match j with
    | 0 => rfl
    | 1 => rfl
    | 2 => rfl
    | 3 => rfl
    | j + 4 => rfl
  have hz2 : ∀ j, 0 ≤ (List.replicate 32 (0 : Int)).getD j 0 ∧ (List.replicate 32 (0 : Int)).getD j 0 < 4294967296 := fun j => by rw [hz]; decide
  have hd2 : ∀ j, 0 ≤ awD.getD j 0 ∧ awD.getD j 0 < 256 := fun j => by rw [hd]; decide
  exact ⟨hz2, ⟨Int.le_refl _, (by decide : (0 : Int) < 4294967296)⟩, ⟨Int.le_refl _, (by decide : (0 : Int) < 4294967296)⟩, ⟨Int.le_refl _, (by decide : (0 : Int) < 4294967296)⟩, hd2, by decide, hz 0, Int.le_refl _, Int.le_refl _⟩
theorem aw_k (k : VK) (h : k.code = awC) (h' : k.inp = []) : k.ok := by
  refine ⟨fun j => ?_, by rw [h]; decide, fun j => by rw [h']; exact ⟨Int.le_refl _, (by decide : (0 : Int) < 4294967296)⟩, by rw [h']; decide⟩
  rw [h]
  match j with
  | 0 => decide
  | 1 => decide
  | j + 2 => exact ⟨Int.le_refl _, (by decide : (0 : Int) < 4294967296)⟩
theorem awake3_c (w : World) : Calls Try.prog 16 #[] w fun e w' => e = .returned (.bool true) ∧ Below w.heap.size w w' := by
  have HR := aw_run
  simp only [Bool.and_eq_true, beq_iff_eq] at HR
  obtain ⟨⟨⟨⟨r1, r2⟩, r3⟩, r4⟩, r5⟩ := HR
  have HR1 := Lib.hid r1
  have HR2 := Lib.hid r2
  have HR3 := Lib.hid r3
  have HR4 := Lib.hid r4
  have HR5 := Lib.hid r5
  clear r1 r2 r3 r4 r5
  have hmk := run_make_row' (P := Try.prog) 40 5 (.int .u8 0) 1 Try.underlying40 vinfoU8 rfl .i64 .i64 4 (by decide) (by decide)
  have hmk : ∀ w, (Instr.makeSlice 40 (.int .i64 4) (.int .i64 4)).run Try.prog w = .ok (.slice (some ⟨w.heap.size, 0, none⟩) 4 4) (w.alloc (.cells (madeCells #[.int .u8 0] 4) 5)) := hmk
  go_enter Try.func16, Try.ntmps16
  go_wp2_with fail
  obtain ⟨W, hW⟩ : ∃ W, W = ((w.alloc (.cells #[.int .u32 5243027, .int .u32 111] 24)).alloc (.cells (madeCells #[.int .u8 0] 4) 5)) := ⟨_, rfl⟩
  have B0 : Hid (Below w.heap.size w W) := by rw [hW]; exact (vbelow1 w _).trans ((vbelow1 _ _).mono (by simp))
  have hc : Src W (.slice (some ⟨w.heap.size, 0, none⟩) 2 2) awC.length (awC.map (Value.int .u32)) := by
    have hh : W.heap[w.heap.size]? = some (.cells #[.int .u32 5243027, .int .u32 111] 24 (0, 0)) := by rw [hW]; exact ((vbelow1 _ _).block w.heap.size (by simp)).trans (heap_alloc_new w _)
    refine .inr ⟨_, _, rfl, fun j u hj => ⟨w.heap.size, 0, rfl, ?_⟩⟩
    rw [cell_of_heap hh, Nat.zero_add]
    match j, hj with
    | 0, hj => cases hj; rfl
    | 1, hj => cases hj; rfl
  have hd : Src W (.slice (some ⟨w.heap.size + 1, 0, none⟩) 4 4) awD.length (awD.map (Value.int .u8)) := by
    have hh : W.heap[w.heap.size + 1]? = some (.cells (madeCells #[.int .u8 0] 4) 5 (0, 0)) := by rw [hW]; have := heap_alloc_new (w.alloc (.cells #[.int .u32 5243027, .int .u32 111] 24)) (.cells (madeCells #[.int .u8 0] 4) 5); simpa using this
    refine .inr ⟨_, _, rfl, fun j u hj => ⟨w.heap.size + 1, 0, rfl, ?_⟩⟩
    rw [cell_of_heap hh, Nat.zero_add]
    match j, hj with
    | 0, hj => cases hj; exact made_at _ 4 0 (by decide)
    | 1, hj => cases hj; exact made_at _ 4 1 (by decide)
    | 2, hj => cases hj; exact made_at _ 4 2 (by decide)
    | 3, hj => cases hj; exact made_at _ 4 3 (by decide)
  have CN := Lib.hid (vnew_yes _ _ (.slice none 0 0) awC awD [] W hc hd (.inl ⟨⟨0, rfl⟩, rfl, rfl⟩) ⟨by decide, by decide, by decide, by decide, by decide⟩ (by decide))
  rw [← hW]
  clear hW hc hd hmk
  refine CN.out.mono ?_
  rintro e w1 ⟨k, rfl, kB, kC, kI, M1, B1⟩
  have kok := Lib.hid (aw_k k kC kI)
  have kC := Lib.hid kC
  have kI := Lib.hid kI
  have kB := Lib.hid kB
  have M1 := Lib.hid M1
  have B1 := Lib.hid (B0.out.trans (B1.mono B0.out.size))
  have hf := M1.out.fresh
  have CR := vrun_c M1.out kok.out aw_ok 2 (by decide) (by decide) [] w1.heap.size (.slice none 0 0) (fv_nil _ _ _ _) (by decide) hf
  rw [kC.out, kI.out] at CR
  have CR := Lib.hid CR
  have hBW := B0.out.size
  clear hf CN B0
  generalize runT awC [] 2 [] (beginD awD) = R at *
  go_wp2_with fail
  refine CR.out.mono ?_
  rintro e w2 ⟨vl2, ts2, rfl, M2, C2⟩
  have hK : w.heap.size ≤ k.B := by rw [kB.out]; exact hBW
  have B2 := Lib.hid (B1.out.trans ((vchvBelow M1.out C2).mono hK))
  have M2 := Lib.hid M2
  have CG := vreg_c M2.out 1
  rw [HR1.out] at CG
  have CG := Lib.hid CG
  have CP := vpcC M2.out
  rw [HR2.out] at CP
  have CP := Lib.hid CP
  clear C2 M1 B1 CR
  go_wp2_with (first | (go_at_call 23; (with_reducible refine CG.out.mono ?_); rintro e w3 ⟨rfl, rfl⟩) | (go_at_call 21; (with_reducible refine CP.out.mono ?_); rintro e w3 ⟨rfl, rfl⟩))
  refine (vfail_c M2.out).mono ?_
  rintro e w3 ⟨rfl, M3, C3⟩
  have B3 := Lib.hid (B2.out.trans ((vchvBelow M2.out C3).mono hK))
  have hs3 : (failD R).steps = 2 := by have : (failD R).steps = R.steps := by unfold failD; split <;> rfl
                                       rw [this]; exact HR3.out
  have CG := vreg_c M3 1
  rw [HR4.out] at CG
  have CG := Lib.hid CG
  have CP := vpcC M3
  rw [HR5.out] at CP
  have CP := Lib.hid CP
  have CS := vstepsC M3
  rw [hs3] at CS
  have CS := Lib.hid CS
  clear C3 M2 B2 M3 hs3
  go_wp2_with (first | (go_at_call 23; (with_reducible refine CG.out.mono ?_); rintro e w4 ⟨rfl, rfl⟩) | (go_at_call 21; (with_reducible refine CP.out.mono ?_); rintro e w4 ⟨rfl, rfl⟩) | (go_at_call 20; (with_reducible refine CS.out.mono ?_); rintro e w4 ⟨rfl, rfl⟩))
  go_ret
  exact ⟨rfl, B3.out⟩
end Go.Proofs.Ytppmjdljnacpgaa
