/-
  Contract of flow's Reach.
-/
import Derived.Test.YtnnhobbabcfogaaG11
set_option linter.all false
namespace Go.Proofs.Ytnnhobbabcfogaa
open Go.ChangeShapes Go.WideShapes Go.ChangeAt Go.RowKit
set_option maxHeartbeats 2000000
set_option maxRecDepth 20000

theorem setB_in (l : List Bool) (k : Nat) (h : k < l.length) : setB l (k : Int) true = l.set k true := by unfold setB; rw [if_pos ⟨by omega, by omega⟩]; rfl
theorem reach_c (p : Pr) (V : Value) (w : World) (hP : PrV w V p) (hlen : p.blks.length ≤ 1000000) :
    Calls Try.prog 55 #[V] w fun e w' => ∃ g, e = .returned (.slice (some ⟨g, 0, none⟩) p.blks.length p.blks.length) ∧ w.heap.size ≤ g ∧ RowB w' g p.blks.length p.blks.length (reachP p) ∧ Below w.heap.size w w' := by
  have EW : Hid (∀ w', Ext w w' → Calls Try.prog 104 #[V] w' (WkR w' p)) := fun w' he => walked_c p V _ (hP.ext he) hlen
  obtain ⟨nm, vo, vb, rfl, -, a, c, rfl, -, -, -⟩ := hP
  have hmk := run_make_row' (P := Try.prog) 45 4 (.bool false) 1 Try.underlying45 info_bool rfl .i64 .i64 p.blks.length (by omega) (by omega)
  have hOB := Lib.hid (wkD_ord p)
  go_enter Try.func55, Try.ntmps55
  go_wp2_with fail
  refine (EW.out _ ((Ext.alloc w _).trans (Ext.alloc _ _))).mono ?_
  rintro e w1 ⟨bw, bs, B, ov, bv, tv, hd, s, rfl, M, ho, hb, hr⟩
  have M := Lib.hid M
  have Ho := Lib.hid ho
  have hrm : s.ord.length ≤ 10000000 := by omega
  clear ho hb hr
  have q7 : w1.cell? ⟨bw, 7, none⟩ = some ov := (M.out.wk.cellAt 7 (by decide)).trans (by rw [List.getElem?_append_right (by rw [M.out.hd6]; decide), M.out.hd6]; rfl)
  obtain ⟨a1, c1, rfl, h1, h2, h3⟩ := OwnI.rd (show OwnI w1 B ov s.ord from M.out.ord)
  have H3 := Lib.hid h3
  clear h3
  go_wp2_with fail
  have hOS : Hid (Blks p s.ord) := by
    show Blks p s.ord
    rw [Ho.out]
    exact fun t ht => hOB.out t (List.mem_reverse.1 ht)
  have hRE : Hid (reachP p = marksB (List.replicate p.blks.length false) s.ord) := by show _ = _; unfold reachP; rw [Ho.out]
  have hbl := M.out.below
  have hR1 : Hid (RowB w1 (w.heap.size + 1) p.blks.length p.blks.length (List.replicate p.blks.length false)) := by
    have := (madeB (w.alloc (.cells #[.string nm, .bool p.void, .int .i64 p.params, .int .i64 p.regs, vo, .slice a p.blks.length c] 32)) p.blks.length (by unfold maxLen; omega)).below hbl
    show RowB _ _ _ _ _
    simpa using this
  have hB1 : Hid (Below w.heap.size w w1) := ((below_alloc w _).trans ((below_alloc _ _).mono (by simp))).trans (hbl.mono (by simp; omega))
  have hw1 : Hid (∀ b o l c, OwnI w1 B (.slice (some ⟨b, o, none⟩) l c) s.ord → b ≠ w.heap.size + 1) := fun b o l c h => by
    have h1 := (OwnI.rf h).2 _ _ _ rfl
    have h2 := M.out.pB
    simp at h1 h2
    omega
  have hMO : Hid (OwnI w1 B (.slice a1 s.ord.length c1) s.ord) := M.out.ord
  clear hbl M q7 EW hmk Ho
  generalize s.ord = l at *
  go_loopw [16] (fun i wr => ∃ k : Nat, k ≤ l.length ∧ i = .int .i64 (k : Int) ∧ Hid (RowB wr (w.heap.size + 1) p.blks.length p.blks.length (marksB (List.replicate p.blks.length false) (l.take k))) ∧ Hid (But (w.heap.size + 1) w1 wr)) (fun i _ => l.length - (intOf i).toNat)
  case atStart => exact ⟨0, Nat.zero_le _, rfl, hR1, But.refl _ _⟩
  case round =>
    obtain ⟨k, hk, rfl, R, Bu⟩ := hrel
    by_cases hlt : k < l.length
    · obtain ⟨b, o, rfl, hc⟩ := H3.out k hlt
      simp only [Nat.mul_one, Nat.add_zero] at hc
      have hbn := hw1.out _ _ _ _ hMO.out
      replace hc := Bu.out.ext _ _ hbn hc
      have hin := hOS.out (l.getD k 0) (by simp [List.getD, hlt])
      have HM := marksB_succ (List.replicate p.blks.length false) l k hlt
      generalize l.getD k 0 = t at *
      obtain ⟨tk, rfl⟩ := Int.eq_ofNat_of_zero_le hin.1
      have htk : tk < p.blks.length := by omega
      obtain ⟨-, -, -, -, hcells, hfr, hgs⟩ := OwnB.cellAt R.out
      have hcs := hcells tk htk
      have hfs := hfr tk
      have R2 : Hid (RowB (wr.setCell ⟨w.heap.size + 1, tk, none⟩ (.bool true)) (w.heap.size + 1) p.blks.length p.blks.length (marksB (List.replicate p.blks.length false) (l.take (k + 1)))) := by
        have := OwnB.set R.out tk true
        rw [HM, setB_in _ _ (by rw [marksB_len]; simpa using htk)]
        exact this
      have B2 : Hid (But (w.heap.size + 1) w1 (wr.setCell ⟨w.heap.size + 1, tk, none⟩ (.bool true))) := Bu.out.trans (But.setCell _ _ _ _)
      clear hcells hfr HM R Bu
      go_wp2_with fail
      go_roundw
      case rel => exact ⟨k + 1, by omega, by go_num, R2, B2⟩
      case measure => simp [intOf]; omega
    · have hT : Hid (RowB wr (w.heap.size + 1) p.blks.length p.blks.length (reachP p)) := by
        have := R.out
        rw [List.take_of_length_le (by omega)] at this
        show RowB _ _ _ _ _
        rw [hRE.out]
        exact this
      go_wp2_with fail
      go_ret
      exact ⟨_, rfl, by omega, hT.out, hB1.out.trans (Bu.out.toBelow (by omega) hB1.out.size)⟩
end Go.Proofs.Ytnnhobbabcfogaa
