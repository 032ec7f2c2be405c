/-
  Contract of the statements' ins: are an instruction's numbers such as statements go through?; Contract of flow's Reach.; Contract of flow's Reach.
-/
import Derived.Test.YtnnhobbabcfogaaZDeadIdle03
import Derived.Test.YtnnhobbabcfogaaZDeadIdle02
import Derived.Test.YtnnhobbabcfogaaZDeadIdle19
import Derived.Test.YtnnhobbabcfogaaZDeadIdle04
import Derived.BigQuiet
import Derived.Test.YtnnhobbabcfogaaZDeadIdle18

set_option linter.all false
namespace Go.Proofs.Ytnnhobbabcfogaa
open Go.ChangeShapes Go.WideShapes Go.ChangeAt Go.RowKit
set_option maxHeartbeats 2000000
set_option maxRecDepth 20000

def okN (x : Int) : Bool := !(decide (1099511627776 < x) || decide (x < -1099511627776))
def numsI (i : In) : List Int := [i.op, i.d, i.a, i.b, i.fn, i.obj, i.off, i.size]
def insF (i : In) : Bool := (numsI i).all okN && (i.args.all okN && decide (i.args.length ≤ 12))
theorem all_take (l : List Int) (k : Nat) (h : k < l.length) (h1 : (l.take k).all okN = true) (h2 : okN (l.getD k 0) = true) : (l.take (k + 1)).all okN = true := by
  rw [take_snoc l k h, List.all_append, h1]; simp at h2 ⊢; exact h2
theorem all_no (l : List Int) (k : Nat) (h : k < l.length) (h2 : okN (l.getD k 0) = false) : l.all okN = false := by
  rw [List.all_eq_false]
  exact ⟨l.getD k 0, by simp [List.getD, h], by rw [h2]; decide⟩
theorem okN_no {x : Int} (h : okN x = false) : 1099511627776 < x ∨ (¬ 1099511627776 < x ∧ x < -1099511627776) := by
  unfold okN at h; simp at h; omega
theorem okN_yes {x : Int} (h : okN x = true) : ¬ 1099511627776 < x ∧ ¬ x < -1099511627776 := by
  unfold okN at h; simp at h; omega
theorem ins_c (i : In) (v : Value) (w : World) (hv : InV w v i) (hn : i.args.length ≤ 9223372036854775807) :
    Calls Try.prog 94 #[v] w fun e w' => e = .returned (.bool (insF i)) ∧ Below w.heap.size w w' := by
  obtain ⟨va, rfl, a, c, rfl, hc1, hc2, hcell⟩ := hv
  have HC := Lib.hid hcell
  clear hcell
  have HI : Hid (insF i = ((numsI i).all okN && (i.args.all okN && decide (i.args.length ≤ 12)))) := rfl
  have hnl : (numsI i).length = 8 := rfl
  have HN : Hid (∀ (w1 : World), OwnI (w1.alloc (.cells #[.int .i64 i.op, .int .i64 i.d, .int .i64 i.a, .int .i64 i.b, .int .i64 i.fn, .int .i64 i.obj, .int .i64 i.off, .int .i64 i.size] 3)) 0 (.slice (some ⟨w1.heap.size, 0, none⟩) 8 8) (numsI i)) := fun w1 => OwnI.mk w1 0 (numsI i) (Nat.zero_le _) (by rw [hnl]; simp [maxLen])
  have hB : Hid (∀ o o', Below w.heap.size w ((w.alloc o).alloc o')) := fun o o' => (below_alloc w o).trans ((below_alloc _ o').mono (by simp))
  go_enter Try.func94, Try.ntmps94
  go_wp2_with fail
  go_loopw [4] (fun k wr => ∃ n : Nat, n ≤ 8 ∧ k = .int .i64 (n : Int) ∧ wr = ((w.alloc (.cells #[.int .i64 i.op, .int .i64 i.d, .int .i64 i.a, .int .i64 i.b, .int .i64 i.fn, .int .i64 i.obj, .int .i64 i.off, .int .i64 i.size, .int .u32 i.num, .slice a i.args.length c, .bool i.log] 56)).alloc (.cells #[.int .i64 i.op, .int .i64 i.d, .int .i64 i.a, .int .i64 i.b, .int .i64 i.fn, .int .i64 i.obj, .int .i64 i.off, .int .i64 i.size] 3)) ∧ Hid (((numsI i).take n).all okN = true)) (fun k _ => 8 - (intOf k).toNat)
  case atStart => exact ⟨0, Nat.zero_le _, rfl, rfl, rfl⟩
  case round =>
    obtain ⟨n, hn8, rfl, hwr, HA⟩ := hrel
    have hBr : Hid (Below w.heap.size w wr) := by rw [hwr]; exact hB.out _ _
    have HNr : OwnI wr 0 (.slice (some ⟨w.heap.size + 1, 0, none⟩) 8 8) (numsI i) := by
      rw [hwr]
      have := HN.out (w.alloc (.cells #[.int .i64 i.op, .int .i64 i.d, .int .i64 i.a, .int .i64 i.b, .int .i64 i.fn, .int .i64 i.obj, .int .i64 i.off, .int .i64 i.size, .int .u32 i.num, .slice a i.args.length c, .bool i.log] 56))
      simpa using this
    have q9 : wr.cell? ⟨w.heap.size, 9, none⟩ = some (.slice a i.args.length c) := by rw [hwr]; simp
    by_cases hlt : n < 8
    · have hcn := HNr.cellAt.2.2.2.2.1 n hlt
      have hY := all_take (numsI i) n (by rw [hnl]; exact hlt) HA.out
      have hZ := all_no (numsI i) n (by rw [hnl]; exact hlt)
      generalize (numsI i).getD n 0 = x at *
      cases hx : okN x
      · have HF : Hid (insF i = false) := by show _ = _; rw [HI.out, hZ hx]; rfl
        have hx' := okN_no hx
        clear hY hZ hx HNr hwr
        rcases hx' with hx' | ⟨hx', hx2⟩
        · have e1 : decide (1099511627776 < x) = true := decide_eq_true hx'
          go_wp2_with fail
          go_ret
          exact ⟨ret_b HF.out.symm, hBr.out⟩
        · have e1 : decide (1099511627776 < x) = false := decide_eq_false hx'
          have e2 : decide (x < -1099511627776) = true := decide_eq_true hx2
          go_wp2_with fail
          go_ret
          exact ⟨ret_b HF.out.symm, hBr.out⟩
      · have HA2 := Lib.hid (hY hx)
        obtain ⟨hx1, hx2⟩ := okN_yes hx
        have e1 : decide (1099511627776 < x) = false := decide_eq_false hx1
        have e2 : decide (x < -1099511627776) = false := decide_eq_false hx2
        clear hY hZ hx HNr
        have hwr2 := Lib.hid hwr
        clear hwr
        go_wp2_with fail
        go_roundw
        case rel => exact ⟨n + 1, by omega, by go_num, hwr2.out, HA2⟩
        case measure => simp [intOf]; omega
    · have HA3 : Hid ((numsI i).all okN = true) := by have := HA.out; rwa [List.take_of_length_le (by rw [hnl]; omega)] at this
      clear HNr hwr HA
      go_wp2_with fail
      go_loopw [5] (fun k wr => ∃ n : Nat, n ≤ i.args.length ∧ k = .int .i64 (n : Int) ∧ Hid (Below w.heap.size w wr) ∧ wr.cell? ⟨w.heap.size, 9, none⟩ = some (.slice a i.args.length c) ∧ Hid ((i.args.take n).all okN = true)) (fun k _ => i.args.length - (intOf k).toNat)
      case atStart => exact ⟨0, Nat.zero_le _, rfl, hBr, q9, rfl⟩
      case round =>
        clear q9
        obtain ⟨n, hnn, rfl, hBr, q9, HA⟩ := hrel
        by_cases hlt : n < i.args.length
        · obtain ⟨b, o, rfl, hc⟩ := HC.out n hlt
          simp only [Nat.mul_one, Nat.add_zero] at hc
          replace hc := Ext.below hBr.out _ _ hc
          have hY := all_take i.args n hlt HA.out
          have hZ := all_no i.args n hlt
          generalize i.args.getD n 0 = x at *
          cases hx : okN x
          · have HF : Hid (insF i = false) := by show _ = _; rw [HI.out, HA3.out, hZ hx]; rfl
            have hx' := okN_no hx
            clear hY hZ hx
            rcases hx' with hx' | ⟨hx', hx2⟩
            · have e1 : decide (1099511627776 < x) = true := decide_eq_true hx'
              go_wp2_with fail
              go_ret
              exact ⟨ret_b HF.out.symm, hBr.out⟩
            · have e1 : decide (1099511627776 < x) = false := decide_eq_false hx'
              have e2 : decide (x < -1099511627776) = true := decide_eq_true hx2
              go_wp2_with fail
              go_ret
              exact ⟨ret_b HF.out.symm, hBr.out⟩
          · have HA2 := Lib.hid (hY hx)
            obtain ⟨hx1, hx2⟩ := okN_yes hx
            have e1 : decide (1099511627776 < x) = false := decide_eq_false hx1
            have e2 : decide (x < -1099511627776) = false := decide_eq_false hx2
            clear hY hZ hx
            go_wp2_with fail
            go_roundw
            case rel => exact ⟨n + 1, by omega, by go_num, hBr, q9, HA2⟩
            case measure => simp [intOf]; omega
        · have HA4 : Hid (i.args.all okN = true) := by have := HA.out; rwa [List.take_of_length_le (by omega)] at this
          have HF : Hid (insF i = decide ((i.args.length : Int) ≤ 12)) := by show _ = _; rw [HI.out, HA3.out, HA4.out]; simp; omega
          go_wp2_with fail
          go_ret
          exact ⟨ret_b HF.out.symm, hBr.out⟩
end Go.Proofs.Ytnnhobbabcfogaa

set_option linter.all false
namespace Go.Proofs.Ytnnhobbabcfogaa
open Go.ChangeShapes Go.WideShapes Go.ChangeAt Go.RowKit
set_option maxHeartbeats 2000000
set_option maxRecDepth 20000

/-- numbers of blocks that there are -/
def Blks (p : Pr) (l : List Int) : Prop := ∀ t ∈ l, 0 ≤ t ∧ t < (p.blks.length : Int)
theorem foldl_ord (p : Pr) (f : Nat) (n : Int) (ih : ∀ t s, (0 ≤ t ∧ t < (p.blks.length : Int)) → Blks p s.ord → Blks p (rI p f t s).ord) : ∀ (l : List Int) (s : S3), Blks p l → Blks p s.ord → Blks p (l.foldl (hI p f n) s).ord
  | [], _, _, hs => hs
  | t :: l, s, hl, hs => by
    rw [List.foldl_cons]
    refine foldl_ord p f n ih l _ (fun x hx => hl x (List.mem_cons_of_mem _ hx)) ?_
    unfold hI
    split
    · exact hs
    · split
      · exact ih t s (hl t List.mem_cons_self) hs
      · exact hs
theorem rI_ord (p : Pr) : ∀ (f : Nat) (n : Int) (s : S3), (0 ≤ n ∧ n < (p.blks.length : Int)) → Blks p s.ord → Blks p (rI p f n s).ord
  | 0, _, _, _, hs => hs
  | f + 1, n, s, hn, hs => by
    rw [rI_succ]
    have := foldl_ord p f n (rI_ord p f) (outsP p n.toNat) (s.enter n) (fun t ht => outsP_mem ht) hs
    intro t ht
    rcases List.mem_append.1 ht with ht | ht
    · exact this t ht
    · rw [List.mem_singleton.1 ht]; exact hn
theorem wkD_ord (p : Pr) : Blks p (wkD p).ord := by
  rcases Nat.eq_zero_or_pos p.blks.length with h0 | h0
  · unfold wkD
    rw [h0]
    intro t ht
    cases ht
  · exact rI_ord p _ 0 _ (by omega) (fun t ht => by cases ht)
/-- which blocks are reached -/
def reachP (p : Pr) : List Bool := marksB (List.replicate p.blks.length false) (wkD p).ord.reverse
end Go.Proofs.Ytnnhobbabcfogaa

set_option linter.all false
namespace Go.Proofs.Ytnnhobbabcfogaa
open Go.ChangeShapes Go.WideShapes Go.ChangeAt Go.RowKit
set_option maxHeartbeats 2000000
set_option maxRecDepth 20000

theorem setB_in (l : List Bool) (k : Nat) (h : k < l.length) : setB l (k : Int) true = l.set k true := by unfold setB; rw [if_pos ⟨by omega, by omega⟩]; rfl
theorem reach_c (p : Pr) (V : Value) (w : World) (hP : PrV w V p) (hlen : p.blks.length ≤ 1000000) :
    Calls Try.prog 55 #[V] w fun e w' => ∃ g, e = .returned (.slice (some ⟨g, 0, none⟩) p.blks.length p.blks.length) ∧ w.heap.size ≤ g ∧ RowB w' g p.blks.length p.blks.length (reachP p) ∧ Below w.heap.size w w' := by
  have EW : Hid (∀ w', Ext w w' → Calls Try.prog 104 #[V] w' (WkR w' p)) := fun w' he => walked_c p V _ (hP.ext he) hlen
  obtain ⟨nm, vo, vb, rfl, -, a, c, rfl, -, -, -⟩ := hP
  have hmk := run_make_row' (P := Try.prog) 45 4 (.bool false) 1 Try.underlying45 info_bool rfl .i64 .i64 p.blks.length (by omega) (by omega)
  have hOB := Lib.hid (wkD_ord p)
  go_enter Try.func55, Try.ntmps55
  go_wp2_with fail
  refine (EW.out _ ((Ext.alloc w _).trans (Ext.alloc _ _))).mono ?_
  rintro e w1 ⟨bw, bs, B, ov, bv, tv, hd, s, rfl, M, ho, hb, hr⟩
  have M := Lib.hid M
  have Ho := Lib.hid ho
  have hrm : s.ord.length ≤ 10000000 := by omega
  clear ho hb hr
  have q7 : w1.cell? ⟨bw, 7, none⟩ = some ov := (M.out.wk.cellAt 7 (by decide)).trans (by rw [List.getElem?_append_right (by rw [M.out.hd6]; decide), M.out.hd6]; rfl)
  obtain ⟨a1, c1, rfl, h1, h2, h3⟩ := OwnI.rd (show OwnI w1 B ov s.ord from M.out.ord)
  have H3 := Lib.hid h3
  clear h3
  go_wp2_with fail
  have hOS : Hid (Blks p s.ord) := by
    show Blks p s.ord
    rw [Ho.out]
    exact fun t ht => hOB.out t (List.mem_reverse.1 ht)
  have hRE : Hid (reachP p = marksB (List.replicate p.blks.length false) s.ord) := by show _ = _; unfold reachP; rw [Ho.out]
  have hbl := M.out.below
  have hR1 : Hid (RowB w1 (w.heap.size + 1) p.blks.length p.blks.length (List.replicate p.blks.length false)) := by
    have := (madeB (w.alloc (.cells #[.string nm, .bool p.void, .int .i64 p.params, .int .i64 p.regs, vo, .slice a p.blks.length c] 32)) p.blks.length (by unfold maxLen; omega)).below hbl
    show RowB _ _ _ _ _
    simpa using this
  have hB1 : Hid (Below w.heap.size w w1) := ((below_alloc w _).trans ((below_alloc _ _).mono (by simp))).trans (hbl.mono (by simp; omega))
  have hw1 : Hid (∀ b o l c, OwnI w1 B (.slice (some ⟨b, o, none⟩) l c) s.ord → b ≠ w.heap.size + 1) := fun b o l c h => by
    have h1 := (OwnI.rf h).2 _ _ _ rfl
    have h2 := M.out.pB
    simp at h1 h2
    omega
  have hMO : Hid (OwnI w1 B (.slice a1 s.ord.length c1) s.ord) := M.out.ord
  clear hbl M q7 EW hmk Ho
  generalize s.ord = l at *
  go_loopw [16] (fun i wr => ∃ k : Nat, k ≤ l.length ∧ i = .int .i64 (k : Int) ∧ Hid (RowB wr (w.heap.size + 1) p.blks.length p.blks.length (marksB (List.replicate p.blks.length false) (l.take k))) ∧ Hid (But (w.heap.size + 1) w1 wr)) (fun i _ => l.length - (intOf i).toNat)
  case atStart => exact ⟨0, Nat.zero_le _, rfl, hR1, But.refl _ _⟩
  case round =>
    obtain ⟨k, hk, rfl, R, Bu⟩ := hrel
    by_cases hlt : k < l.length
    · obtain ⟨b, o, rfl, hc⟩ := H3.out k hlt
      simp only [Nat.mul_one, Nat.add_zero] at hc
      have hbn := hw1.out _ _ _ _ hMO.out
      replace hc := Bu.out.ext _ _ hbn hc
      have hin := hOS.out (l.getD k 0) (by simp [List.getD, hlt])
      have HM := marksB_succ (List.replicate p.blks.length false) l k hlt
      generalize l.getD k 0 = t at *
      obtain ⟨tk, rfl⟩ := Int.eq_ofNat_of_zero_le hin.1
      have htk : tk < p.blks.length := by omega
      obtain ⟨-, -, -, -, hcells, hfr, hgs⟩ := OwnB.cellAt R.out
      have hcs := hcells tk htk
      have hfs := hfr tk
      have R2 : Hid (RowB (wr.setCell ⟨w.heap.size + 1, tk, none⟩ (.bool true)) (w.heap.size + 1) p.blks.length p.blks.length (marksB (List.replicate p.blks.length false) (l.take (k + 1)))) := by
        have := OwnB.set R.out tk true
        rw [HM, setB_in _ _ (by rw [marksB_len]; simpa using htk)]
        exact this
      have B2 : Hid (But (w.heap.size + 1) w1 (wr.setCell ⟨w.heap.size + 1, tk, none⟩ (.bool true))) := Bu.out.trans (But.setCell _ _ _ _)
      clear hcells hfr HM R Bu
      go_wp2_with fail
      go_roundw
      case rel => exact ⟨k + 1, by omega, by go_num, R2, B2⟩
      case measure => simp [intOf]; omega
    · have hT : Hid (RowB wr (w.heap.size + 1) p.blks.length p.blks.length (reachP p)) := by
        have := R.out
        rw [List.take_of_length_le (by omega)] at this
        show RowB _ _ _ _ _
        rw [hRE.out]
        exact this
      go_wp2_with fail
      go_ret
      exact ⟨_, rfl, by omega, hT.out, hB1.out.trans (Bu.out.toBelow (by omega) hB1.out.size)⟩
end Go.Proofs.Ytnnhobbabcfogaa
