/-
  The contract of Decode of inst: the instruction of a word, or the error.
  Conditions: the word lies between 0 and 2^32 - 1.
-/
import Derived.Test.YtppmjdljnacpgaaI7
set_option linter.all false
namespace Go.Proofs.Ytppmjdljnacpgaa
open Go.ChangeShapes Go.WideShapes Go.ChangeAt Go.RowKit
set_option maxHeartbeats 400000
set_option linter.unusedVariables false
set_option maxRecDepth 100000

theorem zero_size : Try.zeroCells65.size = tbl.size := by kernel_rfl
attribute [local go_sem] field_name field_form
theorem alloc_drewN (w : World) (n : Nat) (o : Obj) : (w.drewN n).alloc o = (w.alloc o).drewN n := rfl
theorem setCell_drewN (w : World) (n : Nat) (a : Addr) (v : Value) : (w.drewN n).setCell a v = (w.setCell a v).drewN n := rfl
attribute [local go_sem] alloc_drewN setCell_drewN
theorem below5' {w w1 : World} (h : Below w.heap.size w w1) (a b c d e : Value) : Below w.heap.size w (((((w1.setCell ⟨w.heap.size, 0, none⟩ a).setCell ⟨w.heap.size, 1, none⟩ b).setCell ⟨w.heap.size, 2, none⟩ c).setCell ⟨w.heap.size, 3, none⟩ d).setCell ⟨w.heap.size, 4, none⟩ e) :=
  Below.setCell (Below.setCell (Below.setCell (Below.setCell (Below.setCell h (by simp) _) (by simp) _) (by simp) _) (by simp) _) (by simp) _
theorem below5 {w w1 : World} (h : Below w.heap.size w w1) (a b c d e : Value) (o : Obj) (n : Nat) : Below w.heap.size w (((((((w1.setCell ⟨w.heap.size, 0, none⟩ a).setCell ⟨w.heap.size, 1, none⟩ b).setCell ⟨w.heap.size, 2, none⟩ c).setCell ⟨w.heap.size, 3, none⟩ d).setCell ⟨w.heap.size, 4, none⟩ e).alloc o).drewN n) :=
  below_drewN' (Below.alloc (below5' h a b c d e) (below5' h a b c d e).size _) _
/-- what Decode tells -/
def DecPost (a : Int) (e : Ending) : Prop :=
  (∃ k : Nat, 1 ≤ k ∧ k < 46 ∧ fitsP k a ∧ e = .returned (.tuple #[instV k (rdW k a) (rs1W k a) (rs2W k a) (immF (fm k) a), .int .i64 0])) ∨
  ((∀ k : Nat, 1 ≤ k → k < 46 → ¬ fitsP k a) ∧ e = .returned (.tuple #[instV 0 0 0 0 0, .int .i64 3]))
theorem fits_c (k : Nat) (h1 : 1 ≤ k) (hk : k < 46) (a : Int) (w : World) (h : 0 ≤ a) (h' : a < 4294967296) (nm : ByteArray) :
    Calls Try.prog 37 #[.agg #[.string nm, .int .u8 (fm k), .int .u32 (cd k), .int .u32 (th k), .int .u32 (sv k)], .int .u32 a] w fun e w' => e = .returned (.bool (decide (fitsP k a))) ∧ Below w.heap.size w w' := by
  rcases forms k h1 hk with hf | hf | hf | hf | hf | hf | hf
  · exact fits_R k hk a w h h' hf nm
  · exact fits_I k hk a w h h' hf nm
  · exact fits_H k hk a w h h' hf nm
  · exact fits_U k hk a w h h' hf nm
  · exact fits_J k hk a w h h' hf nm
  · exact fits_S k hk a w h h' hf nm
  · exact fits_B k hk a w h h' hf nm
set_option maxHeartbeats 4000000 in
theorem decode_c (a : Int) (w : World) (h : 0 ≤ a) (h' : a < 4294967296) :
    Calls Try.prog 13 #[.int .u32 a] w fun e w' => DecPost a e ∧ Below w.heap.size w w' := by
  go_enter Try.func13, Try.ntmps13
  go_wp2_with (first | (go_at_call 36; refine (table_c _).mono ?_; rintro e w' ⟨rfl, rfl⟩) | (refine wpList_store_row rfl 65 _ _ rfl (w.heap.size + 1 + 1) tbl rfl rfl 65 Try.zeroCells65 ?hg sizeT65 (by kernel_rfl) tbl_one ?_))
  case hg => rw [heap_alloc, if_pos (by simp)]
  have hW : ∃ W0 : World, W0 = (((w.alloc (.cells #[.int .i64 0, .int .i64 0, .int .i64 0, .int .i64 0, .int .i64 0] 23)).alloc (.cells tbl 65)).alloc (.cells Try.zeroCells65 65)).setRow (w.heap.size + 1 + 1) tbl := ⟨_, rfl⟩
  obtain ⟨W0, hW0⟩ := hW
  rw [← hW0]
  have hS := setRow_alloc ((w.alloc (.cells #[.int .i64 0, .int .i64 0, .int .i64 0, .int .i64 0, .int .i64 0] 23)).alloc (.cells tbl 65)) Try.zeroCells65 tbl 65 (0, 0)
  simp only [World.size_alloc] at hS
  rw [hS] at hW0
  clear hS
  have hsz : W0.heap.size = w.heap.size + 3 := by rw [hW0]; simp
  have hbl : Below w.heap.size w W0 := by rw [hW0]; exact (by repeat (first | exact Below.refl _ _ | assumption | apply Below.drew | (refine Below.alloc ?_ (by simp; try omega) _)))
  have htb : W0.heap[w.heap.size + 1 + 1]? = some (.cells tbl 65 (0, 0)) := by
    rw [hW0, heap_alloc, if_pos (by simp)]
  have hres : W0.heap[w.heap.size]? = some (.cells #[.int .i64 0, .int .i64 0, .int .i64 0, .int .i64 0, .int .i64 0] 23 (0, 0)) := by
    rw [hW0, heap_alloc, if_neg (by simp; omega), heap_alloc, if_neg (by simp), heap_alloc, if_pos rfl]
  clear hW0
  have hS := Lib.hid hsz
  have hB := Lib.hid hbl
  have hT := Lib.hid htb
  have hR := Lib.hid hres
  clear hsz hbl htb hres
  go_loopw [5] (fun op wr => ∃ k : Nat, 1 ≤ k ∧ k ≤ 46 ∧ op = .int .i64 k ∧ Hid (∀ j : Nat, 1 ≤ j → j < k → ¬ fitsP j a) ∧ Below (w.heap.size + 3) W0 wr) (fun op _ => 46 - (intOf op).toNat)
  case atStart => exact ⟨1, by omega, by omega, rfl, fun j h1 h2 => by omega, Below.refl _ _⟩
  case round =>
    obtain ⟨k, hk1, hk2, rfl, hno, hbw⟩ := hrel
    have hzr : w.heap.size + 3 ≤ wr.heap.size := by have h1 := hbw.size; have h2 := hS.out; omega
    have hzr1 : w.heap.size + 1 + 1 < wr.heap.size := by omega
    have hzr0 : w.heap.size < wr.heap.size := by omega
    have htw : wr.heap[w.heap.size + 1 + 1]? = some (.cells tbl 65 (0, 0)) := by rw [hbw.block _ (by omega)]; exact hT.out
    have hrw : wr.heap[w.heap.size]? = some (.cells #[.int .i64 0, .int .i64 0, .int .i64 0, .int .i64 0, .int .i64 0] 23 (0, 0)) := by rw [hbw.block _ (by omega)]; exact hR.out
    by_cases hlt : k < 46
    · have q0 : wr.cell? ⟨w.heap.size + 1 + 1, k * 5, none⟩ = some (.string (nmB k)) := by
        rw [cell_of_heap htw]; have := tbl_at k 0 hlt (by omega); rw [show k * 5 = 5 * k + 0 by omega, this]; rfl
      have q1 : wr.cell? ⟨w.heap.size + 1 + 1, k * 5 + 1, none⟩ = some (.int .u8 (fm k)) := by
        rw [cell_of_heap htw]; have := tbl_at k 1 hlt (by omega); rw [show k * 5 + 1 = 5 * k + 1 by omega, this]; rfl
      have q2 : wr.cell? ⟨w.heap.size + 1 + 1, k * 5 + 2, none⟩ = some (.int .u32 (cd k)) := by
        rw [cell_of_heap htw]; have := tbl_at k 2 hlt (by omega); rw [show k * 5 + 2 = 5 * k + 2 by omega, this]; rfl
      have q3 : wr.cell? ⟨w.heap.size + 1 + 1, k * 5 + 3, none⟩ = some (.int .u32 (th k)) := by
        rw [cell_of_heap htw]; have := tbl_at k 3 hlt (by omega); rw [show k * 5 + 3 = 5 * k + 3 by omega, this]; rfl
      have q4 : wr.cell? ⟨w.heap.size + 1 + 1, k * 5 + 4, none⟩ = some (.int .u32 (sv k)) := by
        rw [cell_of_heap htw]; have := tbl_at k 4 hlt (by omega); rw [show k * 5 + 4 = 5 * k + 4 by omega, this]; rfl
      have r0 : wr.cell? ⟨w.heap.size, 0, none⟩ = some (.int .i64 0) := by rw [cell_of_heap hrw]; rfl
      have r1 : wr.cell? ⟨w.heap.size, 1, none⟩ = some (.int .i64 0) := by rw [cell_of_heap hrw]; rfl
      have r2 : wr.cell? ⟨w.heap.size, 2, none⟩ = some (.int .i64 0) := by rw [cell_of_heap hrw]; rfl
      have r3 : wr.cell? ⟨w.heap.size, 3, none⟩ = some (.int .i64 0) := by rw [cell_of_heap hrw]; rfl
      have r4 : wr.cell? ⟨w.heap.size, 4, none⟩ = some (.int .i64 0) := by rw [cell_of_heap hrw]; rfl
      have rf : ∀ o, wr.frozen? ⟨w.heap.size, o, none⟩ = false := fun o => frozen_of_heap hrw o
      clear htw hrw
      by_cases hfit : fitsP k a
      · have hd : decide (fitsP k a) = true := decide_eq_true hfit
        have hfit := Lib.hid hfit
        rcases forms k hk1 hlt with hf | hf | hf | hf | hf | hf | hf
        · have FT := fun w => fits_c k hk1 hlt a w h h' (nmB k)
          simp only [hf] at FT
          have FT := Lib.hid FT
          go_wp2_with (first | (go_at_call 37; refine (FT.out _).mono ?_; rintro e w1 ⟨rfl, hb1⟩; obtain ⟨hc1, hf1⟩ := bcell hb1; have hz1 := hb1.size; (try simp at hz1); have hy1 : w.heap.size < w1.heap.size := (by omega); have hy1' : wr.heap.size < w1.heap.size := (by omega)) | (go_at_call 38; refine (told_R _ _ (by omega) (by omega)).mono ?_; rintro e w' ⟨rfl, _, rfl⟩) | (go_at_call 29; refine (needs_R _).mono ?_; rintro e w' ⟨rfl, rfl⟩) | ((go_at_call 39; (with_reducible refine (bits_7_5 _ _ (by omega) (by omega)).mono ?_); rintro e w' ⟨rfl, _, rfl⟩)) | ((go_at_call 39; (with_reducible refine (bits_15_5 _ _ (by omega) (by omega)).mono ?_); rintro e w' ⟨rfl, _, rfl⟩)) | ((go_at_call 39; (with_reducible refine (bits_20_5 _ _ (by omega) (by omega)).mono ?_); rintro e w' ⟨rfl, _, rfl⟩)))
          have p0 : w1.cell? ⟨w.heap.size, 0, none⟩ = some (.int .i64 0) := by rw [hc1 _ _ (by simp; omega), World.cell?_alloc_lt _ _ _ (by simp; omega)]; exact r0
          have p1 : w1.cell? ⟨w.heap.size, 1, none⟩ = some (.int .i64 0) := by rw [hc1 _ _ (by simp; omega), World.cell?_alloc_lt _ _ _ (by simp; omega)]; exact r1
          have p2 : w1.cell? ⟨w.heap.size, 2, none⟩ = some (.int .i64 0) := by rw [hc1 _ _ (by simp; omega), World.cell?_alloc_lt _ _ _ (by simp; omega)]; exact r2
          have p3 : w1.cell? ⟨w.heap.size, 3, none⟩ = some (.int .i64 0) := by rw [hc1 _ _ (by simp; omega), World.cell?_alloc_lt _ _ _ (by simp; omega)]; exact r3
          have p4 : w1.cell? ⟨w.heap.size, 4, none⟩ = some (.int .i64 0) := by rw [hc1 _ _ (by simp; omega), World.cell?_alloc_lt _ _ _ (by simp; omega)]; exact r4
          refine bodyPost_ret (v := .tuple #[.agg #[.int .i64 (k : Int), .int .i64 (a / 128 % 32), .int .i64 (a / 32768 % 32), .int .i64 (a / 1048576 % 32), .int .i64 (immF 82 a)], .int .i64 0]) (by simp [results, Try.results13, go_sem, hy1, p0, p1, p2, p3, p4]) rfl ⟨Or.inl ⟨k, hk1, hlt, hfit.out, ?_⟩, ?_⟩
          · simp [instV, rdW, rs1W, rs2W, hasRd, hasRs1, hasRs2, hf]
          · simp at hb1
            have hbw1 : Below w.heap.size w w1 := Below.trans (Below.alloc (Below.trans hB.out (hbw.mono (by omega))) (by omega) _) (hb1.mono (by omega))
            exact below5 hbw1 _ _ _ _ _ _ _
        · have FT := fun w => fits_c k hk1 hlt a w h h' (nmB k)
          simp only [hf] at FT
          have FT := Lib.hid FT
          go_wp2_with (first | (go_at_call 37; refine (FT.out _).mono ?_; rintro e w1 ⟨rfl, hb1⟩; obtain ⟨hc1, hf1⟩ := bcell hb1; have hz1 := hb1.size; (try simp at hz1); have hy1 : w.heap.size < w1.heap.size := (by omega); have hy1' : wr.heap.size < w1.heap.size := (by omega)) | (go_at_call 38; refine (told_I _ _ (by omega) (by omega)).mono ?_; rintro e w' ⟨rfl, _, rfl⟩) | (go_at_call 29; refine (needs_I _).mono ?_; rintro e w' ⟨rfl, rfl⟩) | ((go_at_call 39; (with_reducible refine (bits_7_5 _ _ (by omega) (by omega)).mono ?_); rintro e w' ⟨rfl, _, rfl⟩)) | ((go_at_call 39; (with_reducible refine (bits_15_5 _ _ (by omega) (by omega)).mono ?_); rintro e w' ⟨rfl, _, rfl⟩)) | ((go_at_call 39; (with_reducible refine (bits_20_5 _ _ (by omega) (by omega)).mono ?_); rintro e w' ⟨rfl, _, rfl⟩)))
          have p0 : w1.cell? ⟨w.heap.size, 0, none⟩ = some (.int .i64 0) := by rw [hc1 _ _ (by simp; omega), World.cell?_alloc_lt _ _ _ (by simp; omega)]; exact r0
          have p1 : w1.cell? ⟨w.heap.size, 1, none⟩ = some (.int .i64 0) := by rw [hc1 _ _ (by simp; omega), World.cell?_alloc_lt _ _ _ (by simp; omega)]; exact r1
          have p2 : w1.cell? ⟨w.heap.size, 2, none⟩ = some (.int .i64 0) := by rw [hc1 _ _ (by simp; omega), World.cell?_alloc_lt _ _ _ (by simp; omega)]; exact r2
          have p3 : w1.cell? ⟨w.heap.size, 3, none⟩ = some (.int .i64 0) := by rw [hc1 _ _ (by simp; omega), World.cell?_alloc_lt _ _ _ (by simp; omega)]; exact r3
          have p4 : w1.cell? ⟨w.heap.size, 4, none⟩ = some (.int .i64 0) := by rw [hc1 _ _ (by simp; omega), World.cell?_alloc_lt _ _ _ (by simp; omega)]; exact r4
          refine bodyPost_ret (v := .tuple #[.agg #[.int .i64 (k : Int), .int .i64 (a / 128 % 32), .int .i64 (a / 32768 % 32), .int .i64 0, .int .i64 (immF 73 a)], .int .i64 0]) (by simp [results, Try.results13, go_sem, hy1, p0, p1, p2, p3, p4]) rfl ⟨Or.inl ⟨k, hk1, hlt, hfit.out, ?_⟩, ?_⟩
          · simp [instV, rdW, rs1W, rs2W, hasRd, hasRs1, hasRs2, hf]
          · simp at hb1
            have hbw1 : Below w.heap.size w w1 := Below.trans (Below.alloc (Below.trans hB.out (hbw.mono (by omega))) (by omega) _) (hb1.mono (by omega))
            exact below5 hbw1 _ _ _ _ _ _ _
        · have FT := fun w => fits_c k hk1 hlt a w h h' (nmB k)
          simp only [hf] at FT
          have FT := Lib.hid FT
          go_wp2_with (first | (go_at_call 37; refine (FT.out _).mono ?_; rintro e w1 ⟨rfl, hb1⟩; obtain ⟨hc1, hf1⟩ := bcell hb1; have hz1 := hb1.size; (try simp at hz1); have hy1 : w.heap.size < w1.heap.size := (by omega); have hy1' : wr.heap.size < w1.heap.size := (by omega)) | (go_at_call 38; refine (told_H _ _ (by omega) (by omega)).mono ?_; rintro e w' ⟨rfl, _, rfl⟩) | (go_at_call 29; refine (needs_H _).mono ?_; rintro e w' ⟨rfl, rfl⟩) | ((go_at_call 39; (with_reducible refine (bits_7_5 _ _ (by omega) (by omega)).mono ?_); rintro e w' ⟨rfl, _, rfl⟩)) | ((go_at_call 39; (with_reducible refine (bits_15_5 _ _ (by omega) (by omega)).mono ?_); rintro e w' ⟨rfl, _, rfl⟩)) | ((go_at_call 39; (with_reducible refine (bits_20_5 _ _ (by omega) (by omega)).mono ?_); rintro e w' ⟨rfl, _, rfl⟩)))
          have p0 : w1.cell? ⟨w.heap.size, 0, none⟩ = some (.int .i64 0) := by rw [hc1 _ _ (by simp; omega), World.cell?_alloc_lt _ _ _ (by simp; omega)]; exact r0
          have p1 : w1.cell? ⟨w.heap.size, 1, none⟩ = some (.int .i64 0) := by rw [hc1 _ _ (by simp; omega), World.cell?_alloc_lt _ _ _ (by simp; omega)]; exact r1
          have p2 : w1.cell? ⟨w.heap.size, 2, none⟩ = some (.int .i64 0) := by rw [hc1 _ _ (by simp; omega), World.cell?_alloc_lt _ _ _ (by simp; omega)]; exact r2
          have p3 : w1.cell? ⟨w.heap.size, 3, none⟩ = some (.int .i64 0) := by rw [hc1 _ _ (by simp; omega), World.cell?_alloc_lt _ _ _ (by simp; omega)]; exact r3
          have p4 : w1.cell? ⟨w.heap.size, 4, none⟩ = some (.int .i64 0) := by rw [hc1 _ _ (by simp; omega), World.cell?_alloc_lt _ _ _ (by simp; omega)]; exact r4
          refine bodyPost_ret (v := .tuple #[.agg #[.int .i64 (k : Int), .int .i64 (a / 128 % 32), .int .i64 (a / 32768 % 32), .int .i64 0, .int .i64 (immF 72 a)], .int .i64 0]) (by simp [results, Try.results13, go_sem, hy1, p0, p1, p2, p3, p4]) rfl ⟨Or.inl ⟨k, hk1, hlt, hfit.out, ?_⟩, ?_⟩
          · simp [instV, rdW, rs1W, rs2W, hasRd, hasRs1, hasRs2, hf]
          · simp at hb1
            have hbw1 : Below w.heap.size w w1 := Below.trans (Below.alloc (Below.trans hB.out (hbw.mono (by omega))) (by omega) _) (hb1.mono (by omega))
            exact below5 hbw1 _ _ _ _ _ _ _
        · have FT := fun w => fits_c k hk1 hlt a w h h' (nmB k)
          simp only [hf] at FT
          have FT := Lib.hid FT
          go_wp2_with (first | (go_at_call 37; refine (FT.out _).mono ?_; rintro e w1 ⟨rfl, hb1⟩; obtain ⟨hc1, hf1⟩ := bcell hb1; have hz1 := hb1.size; (try simp at hz1); have hy1 : w.heap.size < w1.heap.size := (by omega); have hy1' : wr.heap.size < w1.heap.size := (by omega)) | (go_at_call 38; refine (told_U _ _ (by omega) (by omega)).mono ?_; rintro e w' ⟨rfl, _, rfl⟩) | (go_at_call 29; refine (needs_U _).mono ?_; rintro e w' ⟨rfl, rfl⟩) | ((go_at_call 39; (with_reducible refine (bits_7_5 _ _ (by omega) (by omega)).mono ?_); rintro e w' ⟨rfl, _, rfl⟩)) | ((go_at_call 39; (with_reducible refine (bits_15_5 _ _ (by omega) (by omega)).mono ?_); rintro e w' ⟨rfl, _, rfl⟩)) | ((go_at_call 39; (with_reducible refine (bits_20_5 _ _ (by omega) (by omega)).mono ?_); rintro e w' ⟨rfl, _, rfl⟩)))
          have p0 : w1.cell? ⟨w.heap.size, 0, none⟩ = some (.int .i64 0) := by rw [hc1 _ _ (by simp; omega), World.cell?_alloc_lt _ _ _ (by simp; omega)]; exact r0
          have p1 : w1.cell? ⟨w.heap.size, 1, none⟩ = some (.int .i64 0) := by rw [hc1 _ _ (by simp; omega), World.cell?_alloc_lt _ _ _ (by simp; omega)]; exact r1
          have p2 : w1.cell? ⟨w.heap.size, 2, none⟩ = some (.int .i64 0) := by rw [hc1 _ _ (by simp; omega), World.cell?_alloc_lt _ _ _ (by simp; omega)]; exact r2
          have p3 : w1.cell? ⟨w.heap.size, 3, none⟩ = some (.int .i64 0) := by rw [hc1 _ _ (by simp; omega), World.cell?_alloc_lt _ _ _ (by simp; omega)]; exact r3
          have p4 : w1.cell? ⟨w.heap.size, 4, none⟩ = some (.int .i64 0) := by rw [hc1 _ _ (by simp; omega), World.cell?_alloc_lt _ _ _ (by simp; omega)]; exact r4
          refine bodyPost_ret (v := .tuple #[.agg #[.int .i64 (k : Int), .int .i64 (a / 128 % 32), .int .i64 0, .int .i64 0, .int .i64 (immF 85 a)], .int .i64 0]) (by simp [results, Try.results13, go_sem, hy1, p0, p1, p2, p3, p4]) rfl ⟨Or.inl ⟨k, hk1, hlt, hfit.out, ?_⟩, ?_⟩
          · simp [instV, rdW, rs1W, rs2W, hasRd, hasRs1, hasRs2, hf]
          · simp at hb1
            have hbw1 : Below w.heap.size w w1 := Below.trans (Below.alloc (Below.trans hB.out (hbw.mono (by omega))) (by omega) _) (hb1.mono (by omega))
            exact below5 hbw1 _ _ _ _ _ _ _
        · have FT := fun w => fits_c k hk1 hlt a w h h' (nmB k)
          simp only [hf] at FT
          have FT := Lib.hid FT
          go_wp2_with (first | (go_at_call 37; refine (FT.out _).mono ?_; rintro e w1 ⟨rfl, hb1⟩; obtain ⟨hc1, hf1⟩ := bcell hb1; have hz1 := hb1.size; (try simp at hz1); have hy1 : w.heap.size < w1.heap.size := (by omega); have hy1' : wr.heap.size < w1.heap.size := (by omega)) | (go_at_call 38; refine (told_J _ _ (by omega) (by omega)).mono ?_; rintro e w' ⟨rfl, _, rfl⟩) | (go_at_call 29; refine (needs_J _).mono ?_; rintro e w' ⟨rfl, rfl⟩) | ((go_at_call 39; (with_reducible refine (bits_7_5 _ _ (by omega) (by omega)).mono ?_); rintro e w' ⟨rfl, _, rfl⟩)) | ((go_at_call 39; (with_reducible refine (bits_15_5 _ _ (by omega) (by omega)).mono ?_); rintro e w' ⟨rfl, _, rfl⟩)) | ((go_at_call 39; (with_reducible refine (bits_20_5 _ _ (by omega) (by omega)).mono ?_); rintro e w' ⟨rfl, _, rfl⟩)))
          have p0 : w1.cell? ⟨w.heap.size, 0, none⟩ = some (.int .i64 0) := by rw [hc1 _ _ (by simp; omega), World.cell?_alloc_lt _ _ _ (by simp; omega)]; exact r0
          have p1 : w1.cell? ⟨w.heap.size, 1, none⟩ = some (.int .i64 0) := by rw [hc1 _ _ (by simp; omega), World.cell?_alloc_lt _ _ _ (by simp; omega)]; exact r1
          have p2 : w1.cell? ⟨w.heap.size, 2, none⟩ = some (.int .i64 0) := by rw [hc1 _ _ (by simp; omega), World.cell?_alloc_lt _ _ _ (by simp; omega)]; exact r2
          have p3 : w1.cell? ⟨w.heap.size, 3, none⟩ = some (.int .i64 0) := by rw [hc1 _ _ (by simp; omega), World.cell?_alloc_lt _ _ _ (by simp; omega)]; exact r3
          have p4 : w1.cell? ⟨w.heap.size, 4, none⟩ = some (.int .i64 0) := by rw [hc1 _ _ (by simp; omega), World.cell?_alloc_lt _ _ _ (by simp; omega)]; exact r4
          refine bodyPost_ret (v := .tuple #[.agg #[.int .i64 (k : Int), .int .i64 (a / 128 % 32), .int .i64 0, .int .i64 0, .int .i64 (immF 74 a)], .int .i64 0]) (by simp [results, Try.results13, go_sem, hy1, p0, p1, p2, p3, p4]) rfl ⟨Or.inl ⟨k, hk1, hlt, hfit.out, ?_⟩, ?_⟩
          · simp [instV, rdW, rs1W, rs2W, hasRd, hasRs1, hasRs2, hf]
          · simp at hb1
            have hbw1 : Below w.heap.size w w1 := Below.trans (Below.alloc (Below.trans hB.out (hbw.mono (by omega))) (by omega) _) (hb1.mono (by omega))
            exact below5 hbw1 _ _ _ _ _ _ _
        · have FT := fun w => fits_c k hk1 hlt a w h h' (nmB k)
          simp only [hf] at FT
          have FT := Lib.hid FT
          go_wp2_with (first | (go_at_call 37; refine (FT.out _).mono ?_; rintro e w1 ⟨rfl, hb1⟩; obtain ⟨hc1, hf1⟩ := bcell hb1; have hz1 := hb1.size; (try simp at hz1); have hy1 : w.heap.size < w1.heap.size := (by omega); have hy1' : wr.heap.size < w1.heap.size := (by omega)) | (go_at_call 38; refine (told_S _ _ (by omega) (by omega)).mono ?_; rintro e w' ⟨rfl, _, rfl⟩) | (go_at_call 29; refine (needs_S _).mono ?_; rintro e w' ⟨rfl, rfl⟩) | ((go_at_call 39; (with_reducible refine (bits_7_5 _ _ (by omega) (by omega)).mono ?_); rintro e w' ⟨rfl, _, rfl⟩)) | ((go_at_call 39; (with_reducible refine (bits_15_5 _ _ (by omega) (by omega)).mono ?_); rintro e w' ⟨rfl, _, rfl⟩)) | ((go_at_call 39; (with_reducible refine (bits_20_5 _ _ (by omega) (by omega)).mono ?_); rintro e w' ⟨rfl, _, rfl⟩)))
          have p0 : w1.cell? ⟨w.heap.size, 0, none⟩ = some (.int .i64 0) := by rw [hc1 _ _ (by simp; omega), World.cell?_alloc_lt _ _ _ (by simp; omega)]; exact r0
          have p1 : w1.cell? ⟨w.heap.size, 1, none⟩ = some (.int .i64 0) := by rw [hc1 _ _ (by simp; omega), World.cell?_alloc_lt _ _ _ (by simp; omega)]; exact r1
          have p2 : w1.cell? ⟨w.heap.size, 2, none⟩ = some (.int .i64 0) := by rw [hc1 _ _ (by simp; omega), World.cell?_alloc_lt _ _ _ (by simp; omega)]; exact r2
          have p3 : w1.cell? ⟨w.heap.size, 3, none⟩ = some (.int .i64 0) := by rw [hc1 _ _ (by simp; omega), World.cell?_alloc_lt _ _ _ (by simp; omega)]; exact r3
          have p4 : w1.cell? ⟨w.heap.size, 4, none⟩ = some (.int .i64 0) := by rw [hc1 _ _ (by simp; omega), World.cell?_alloc_lt _ _ _ (by simp; omega)]; exact r4
          refine bodyPost_ret (v := .tuple #[.agg #[.int .i64 (k : Int), .int .i64 0, .int .i64 (a / 32768 % 32), .int .i64 (a / 1048576 % 32), .int .i64 (immF 83 a)], .int .i64 0]) (by simp [results, Try.results13, go_sem, hy1, p0, p1, p2, p3, p4]) rfl ⟨Or.inl ⟨k, hk1, hlt, hfit.out, ?_⟩, ?_⟩
          · simp [instV, rdW, rs1W, rs2W, hasRd, hasRs1, hasRs2, hf]
          · simp at hb1
            have hbw1 : Below w.heap.size w w1 := Below.trans (Below.alloc (Below.trans hB.out (hbw.mono (by omega))) (by omega) _) (hb1.mono (by omega))
            exact below5 hbw1 _ _ _ _ _ _ _
        · have FT := fun w => fits_c k hk1 hlt a w h h' (nmB k)
          simp only [hf] at FT
          have FT := Lib.hid FT
          go_wp2_with (first | (go_at_call 37; refine (FT.out _).mono ?_; rintro e w1 ⟨rfl, hb1⟩; obtain ⟨hc1, hf1⟩ := bcell hb1; have hz1 := hb1.size; (try simp at hz1); have hy1 : w.heap.size < w1.heap.size := (by omega); have hy1' : wr.heap.size < w1.heap.size := (by omega)) | (go_at_call 38; refine (told_B _ _ (by omega) (by omega)).mono ?_; rintro e w' ⟨rfl, _, rfl⟩) | (go_at_call 29; refine (needs_B _).mono ?_; rintro e w' ⟨rfl, rfl⟩) | ((go_at_call 39; (with_reducible refine (bits_7_5 _ _ (by omega) (by omega)).mono ?_); rintro e w' ⟨rfl, _, rfl⟩)) | ((go_at_call 39; (with_reducible refine (bits_15_5 _ _ (by omega) (by omega)).mono ?_); rintro e w' ⟨rfl, _, rfl⟩)) | ((go_at_call 39; (with_reducible refine (bits_20_5 _ _ (by omega) (by omega)).mono ?_); rintro e w' ⟨rfl, _, rfl⟩)))
          have p0 : w1.cell? ⟨w.heap.size, 0, none⟩ = some (.int .i64 0) := by rw [hc1 _ _ (by simp; omega), World.cell?_alloc_lt _ _ _ (by simp; omega)]; exact r0
          have p1 : w1.cell? ⟨w.heap.size, 1, none⟩ = some (.int .i64 0) := by rw [hc1 _ _ (by simp; omega), World.cell?_alloc_lt _ _ _ (by simp; omega)]; exact r1
          have p2 : w1.cell? ⟨w.heap.size, 2, none⟩ = some (.int .i64 0) := by rw [hc1 _ _ (by simp; omega), World.cell?_alloc_lt _ _ _ (by simp; omega)]; exact r2
          have p3 : w1.cell? ⟨w.heap.size, 3, none⟩ = some (.int .i64 0) := by rw [hc1 _ _ (by simp; omega), World.cell?_alloc_lt _ _ _ (by simp; omega)]; exact r3
          have p4 : w1.cell? ⟨w.heap.size, 4, none⟩ = some (.int .i64 0) := by rw [hc1 _ _ (by simp; omega), World.cell?_alloc_lt _ _ _ (by simp; omega)]; exact r4
          refine bodyPost_ret (v := .tuple #[.agg #[.int .i64 (k : Int), .int .i64 0, .int .i64 (a / 32768 % 32), .int .i64 (a / 1048576 % 32), .int .i64 (immF 66 a)], .int .i64 0]) (by simp [results, Try.results13, go_sem, hy1, p0, p1, p2, p3, p4]) rfl ⟨Or.inl ⟨k, hk1, hlt, hfit.out, ?_⟩, ?_⟩
          · simp [instV, rdW, rs1W, rs2W, hasRd, hasRs1, hasRs2, hf]
          · simp at hb1
            have hbw1 : Below w.heap.size w w1 := Below.trans (Below.alloc (Below.trans hB.out (hbw.mono (by omega))) (by omega) _) (hb1.mono (by omega))
            exact below5 hbw1 _ _ _ _ _ _ _
      · have hd : decide (fitsP k a) = false := decide_eq_false hfit
        have hfit := Lib.hid hfit
        go_wp2_with (go_at_call 37; refine (fits_c k hk1 hlt a _ h h' (nmB k)).mono ?_; rintro e w1 ⟨rfl, hb1⟩)
        go_roundw
        case rel =>
          simp at hb1
          refine ⟨k + 1, by omega, by omega, by go_num, ?_, ?_⟩
          · intro j h1 h2
            by_cases hj : j = k
            · subst hj; exact hfit.out
            · exact hno.out j h1 (by omega)
          · exact Below.trans (Below.alloc hbw (by omega) _) (hb1.mono (by omega))
        case measure => simp [intOf]; omega
    · have hk : k = 46 := by omega
      clear hk
      have r0 : wr.cell? ⟨w.heap.size, 0, none⟩ = some (.int .i64 0) := by rw [cell_of_heap hrw]; rfl
      have r1 : wr.cell? ⟨w.heap.size, 1, none⟩ = some (.int .i64 0) := by rw [cell_of_heap hrw]; rfl
      have r2 : wr.cell? ⟨w.heap.size, 2, none⟩ = some (.int .i64 0) := by rw [cell_of_heap hrw]; rfl
      have r3 : wr.cell? ⟨w.heap.size, 3, none⟩ = some (.int .i64 0) := by rw [cell_of_heap hrw]; rfl
      have r4 : wr.cell? ⟨w.heap.size, 4, none⟩ = some (.int .i64 0) := by rw [cell_of_heap hrw]; rfl
      have rf : ∀ o, wr.frozen? ⟨w.heap.size, o, none⟩ = false := fun o => frozen_of_heap hrw o
      clear htw hrw
      go_wp2
      refine bodyPost_ret (v := .tuple #[.agg #[.int .i64 0, .int .i64 0, .int .i64 0, .int .i64 0, .int .i64 0], .int .i64 3]) (by simp [results, Try.results13, go_sem, r0, r1, r2, r3, r4]) rfl ⟨Or.inr ⟨fun j h1 h2 => hno.out j h1 (by omega), rfl⟩, ?_⟩
      have hbw1 : Below w.heap.size w wr := Below.trans hB.out (hbw.mono (by omega))
      exact below5' hbw1 _ _ _ _ _

end Go.Proofs.Ytppmjdljnacpgaa
