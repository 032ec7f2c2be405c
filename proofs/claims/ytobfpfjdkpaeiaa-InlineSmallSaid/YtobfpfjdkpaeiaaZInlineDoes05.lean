/-
 Contracts of the statements' Few and few: is a module, a procedure, not more than statements go through?
-/
import Derived.Test.YtobfpfjdkpaeiaaZInlineDoes04
set_option linter.all false
namespace Go.Proofs.Ytobfpfjdkpaeiaa
open Go.ChangeShapes Go.WideShapes Go.ChangeAt Go.RowKit
set_option maxHeartbeats 2000000
set_option maxRecDepth 20000

def blkF (b : Bk) : Bool := decide (b.ins.length ≤ 60) && b.ins.all insF
def prF (p : Pr) : Bool := decide (p.blks.length ≤ 40) && (decide (p.objs.length ≤ 20) && p.blks.all blkF)
def fewM (m : Md) : Bool := decide (m.procs.length ≤ 6) && (decide (m.globs.length ≤ 20) && (decide (m.data.length ≤ 20) && m.procs.all prF))
theorem allG_take {α : Type} [Inhabited α] (f : α → Bool) (l : List α) (k : Nat) (h : k < l.length) (h1 : (l.take k).all f = true) (h2 : f (l.getD k default) = true) : (l.take (k + 1)).all f = true := by
 rw [List.take_succ_eq_append_getElem h, List.all_append, h1]
 have : f l[k] = true := by simpa [List.getD, h] using h2
 simp [this]
theorem allG_no {α : Type} [Inhabited α] (f : α → Bool) (l : List α) (k : Nat) (h : k < l.length) (h2 : f (l.getD k default) = false) : l.all f = false := by
 rw [List.all_eq_false]
 exact ⟨l.getD k default, by simp [List.getD, h], by rw [h2]; decide⟩
theorem RdPrs.at {w : World} {a : Option Addr} {n c : Nat} {l : List Pr} (h : RdPrs w (.slice a n c) l) : n = l.length ∧ ∀ k, k < l.length → ∃ b o vo vb, a = some ⟨b, o, none⟩ ∧ RdSls w vo (l.getD k default).objs ∧ RdBks w vb (l.getD k default).blks ∧
  w.cell? ⟨b, o + k * 6 + 4, none⟩ = some vo ∧ w.cell? ⟨b, o + k * 6 + 5, none⟩ = some vb := by
 obtain ⟨a', c', e, h1, h2, hc⟩ := h
 simp only [Value.slice.injEq] at e
 obtain ⟨rfl, rfl, rfl⟩ := e
 refine ⟨rfl, fun k hk => ?_⟩
 obtain ⟨b, o, rfl, h0, h1, h2, h3, ⟨vo, h4, ho⟩, ⟨vb, h5, hb⟩⟩ := hc k hk
 exact ⟨b, o, vo, vb, rfl, ho, hb, h4, h5⟩
theorem RdBks.at {w : World} {a : Option Addr} {n c : Nat} {l : List Bk} (h : RdBks w (.slice a n c) l) : n = l.length ∧ ∀ k, k < l.length → ∃ b o vi, a = some ⟨b, o, none⟩ ∧ RdIns w vi (l.getD k default).ins ∧ w.cell? ⟨b, o + k * 5, none⟩ = some vi ∧
  w.cell? ⟨b, o + k * 5 + 1, none⟩ = some (.int .i64 (l.getD k default).fin) ∧ w.cell? ⟨b, o + k * 5 + 2, none⟩ = some (.int .i64 (l.getD k default).a) ∧ w.cell? ⟨b, o + k * 5 + 3, none⟩ = some (.int .i64 (l.getD k default).to) ∧ w.cell? ⟨b, o + k * 5 + 4, none⟩ = some (.int .i64 (l.getD k default).els) := by
 obtain ⟨a', c', e, h1, h2, hc⟩ := h
 simp only [Value.slice.injEq] at e
 obtain ⟨rfl, rfl, rfl⟩ := e
 refine ⟨rfl, fun k hk => ?_⟩
 obtain ⟨b, o, rfl, ⟨vi, h0, hi⟩, h1, h2, h3, h4⟩ := hc k hk
 exact ⟨b, o, vi, rfl, hi, by simpa using h0, h1, h2, h3, h4⟩
theorem few_no (m : Md) (v : Value) (w : World) (hv : MdV w v m) (h : ¬ (m.procs.length ≤ 6 ∧ m.globs.length ≤ 20 ∧ m.data.length ≤ 20)) :
  Calls Try.prog 22 #[v] w fun e w' => e = .returned (.bool (fewM m)) ∧ Below w.heap.size w w' := by
 obtain ⟨vg, vd, vp, rfl, ⟨ag, cg, rfl, hg1, hg2, -⟩, ⟨ad, cd, rfl, hd1, hd2, -⟩, ⟨ap, cp, rfl, hp1, hp2, -⟩⟩ := hv
 unfold maxLen at hg2 hd2 hp2
 have HF : Hid (fewM m = false) := by
  show _ = _
  unfold fewM
  by_cases h1 : m.procs.length ≤ 6
  ·by_cases h2 : m.globs.length ≤ 20
   ·rw [decide_eq_false (fun h3 => h ⟨h1, h2, h3⟩)]; simp
   ·rw [decide_eq_false h2]; simp
  ·rw [decide_eq_false h1]; rfl
 by_cases h1 : m.procs.length ≤ 6
 ·have e1 : decide ((6 : Int) < (m.procs.length : Int)) = false := decide_eq_false (by omega)
  by_cases h2 : m.globs.length ≤ 20
  ·have e2 : decide ((20 : Int) < (m.globs.length : Int)) = false := decide_eq_false (by omega)
   have h3 : ¬ m.data.length ≤ 20 := fun h3 => h ⟨h1, h2, h3⟩
   have e3 : decide ((20 : Int) < (m.data.length : Int)) = true := decide_eq_true (by omega)
   clear h
   go_enter Try.func22, Try.ntmps22
   go_wp2_with fail
   go_ret
   exact ⟨ret_b HF.out.symm, below_alloc _ _⟩
  ·have e2 : decide ((20 : Int) < (m.globs.length : Int)) = true := decide_eq_true (by omega)
   clear h
   go_enter Try.func22, Try.ntmps22
   go_wp2_with fail
   go_ret
   exact ⟨ret_b HF.out.symm, below_alloc _ _⟩
 ·have e1 : decide ((6 : Int) < (m.procs.length : Int)) = true := decide_eq_true (by omega)
  clear h
  go_enter Try.func22, Try.ntmps22
  go_wp2_with fail
  go_ret
  exact ⟨ret_b HF.out.symm, below_alloc _ _⟩
theorem few_yes (m : Md) (v : Value) (w : World) (hv : MdV w v m) (h1 : m.procs.length ≤ 6) (h2 : m.globs.length ≤ 20) (h3 : m.data.length ≤ 20) :
  Calls Try.prog 22 #[v] w fun e w' => e = .returned (.bool (fewM m)) ∧ Below w.heap.size w w' := by
 obtain ⟨vg, vd, vp, rfl, ⟨ag, cg, rfl, hg1, hg2, -⟩, ⟨ad, cd, rfl, hd1, hd2, -⟩, hp⟩ := hv
 have hp' := hp
 obtain ⟨ap, cp, rfl, hp1, hp2, -⟩ := hp'
 have HP := Lib.hid (RdPrs.at hp).2
 clear hp
 unfold maxLen at hg2 hd2 hp2
 have HF : Hid (fewM m = m.procs.all prF) := by
  show _ = _
  unfold fewM; rw [decide_eq_true h1, decide_eq_true h2, decide_eq_true h3]; rfl
 have e1 : decide ((6 : Int) < (m.procs.length : Int)) = false := decide_eq_false (by omega)
 have e2 : decide ((20 : Int) < (m.globs.length : Int)) = false := decide_eq_false (by omega)
 have e3 : decide ((20 : Int) < (m.data.length : Int)) = false := decide_eq_false (by omega)
 go_enter Try.func22, Try.ntmps22
 go_wp2_with fail
 clear e1 e2 e3 h2 h3
 obtain ⟨W0, hW0⟩ : ∃ W0, W0 = (w.alloc (.cells #[.slice ag m.globs.length cg, .slice ad m.data.length cd, .slice ap m.procs.length cp, .int .i64 m.main] 26)) := ⟨_, rfl⟩
 have hz0 : W0.heap.size = w.heap.size + 1 := by rw [hW0]; simp
 have HBW : Hid (Below w.heap.size w W0) := by rw [hW0]; exact below_alloc w _
 have HX : Hid (∀ w', Below (w.heap.size + 1) W0 w' → w'.cell? ⟨w.heap.size, 2, none⟩ = some (.slice ap m.procs.length cp)) := fun w' hb => (hb.cell (p := ⟨w.heap.size, 2, none⟩) (Nat.lt_succ_self _)).trans (by rw [hW0, cell_of_heap (heap_alloc_new w _)]; rfl)
 have HE : Hid (∀ w', Below (w.heap.size + 1) W0 w' → Ext w w') := fun w' hb => (show Ext w W0 by rw [hW0]; exact Ext.alloc w _).trans (Ext.below (hb.mono (by omega)))
 have HR : Hid (∀ w', Below (w.heap.size + 1) W0 w' → Below w.heap.size w w') := fun w' hb => HBW.out.trans (hb.mono (by omega))
 have hB0 : Hid (Below (w.heap.size + 1) W0 W0) := Below.refl _ _
 rw [← hW0]
 clear hW0 HBW
 go_loopw [3] (fun i wr => ∃ k : Nat, k ≤ m.procs.length ∧ i = .int .i64 (k : Int) ∧ Hid (Below (w.heap.size + 1) W0 wr) ∧ Hid ((m.procs.take k).all prF = true)) (fun i _ => m.procs.length - (intOf i).toNat)
 case atStart => exact ⟨0, Nat.zero_le _, rfl, hB0, rfl⟩
 case round =>
  clear hB0
  obtain ⟨k, hk, rfl, hB, HA⟩ := hrel
  have q2 := HX.out wr hB.out
  by_cases hlt : k < m.procs.length
  ·obtain ⟨bp, op, vo, vb, rfl, hvo, hvb, d4, d5⟩ := HP.out k hlt
   have e5b := d5
   replace d4 := HE.out wr hB.out _ _ d4
   replace d5 := HE.out wr hB.out _ _ d5
   have hY := allG_take prF m.procs k hlt HA.out
   have hZ := allG_no prF m.procs k hlt
   generalize m.procs.getD k default = P at *
   obtain ⟨ao, co, rfl, ho1, ho2, -⟩ := hvo
   have hvb' := hvb
   obtain ⟨ab, cb, rfl, hb1, hb2, -⟩ := hvb'
   have HBk := Lib.hid (RdBks.at hvb).2
   clear hvb
   unfold maxLen at ho2 hb2
   by_cases h4 : P.blks.length ≤ 40
   ·have e4 : decide ((40 : Int) < (P.blks.length : Int)) = false := decide_eq_false (by omega)
    by_cases h5 : P.objs.length ≤ 20
    ·have e5 : decide ((20 : Int) < (P.objs.length : Int)) = false := decide_eq_false (by omega)
     have HPF : Hid (prF P = P.blks.all blkF) := by
      show _ = _
      unfold prF; rw [decide_eq_true h4, decide_eq_true h5]; rfl
     have hY := Lib.hid hY
     have hZ := Lib.hid hZ
     have D5 := Lib.hid e5b
     go_wp2_with fail
     clear e4 e5 h5 q2 d4 d5
     go_loopw [4] (fun i wr => ∃ j : Nat, j ≤ P.blks.length ∧ i = .int .i64 (j : Int) ∧ Hid (Below (w.heap.size + 1) W0 wr) ∧ Hid ((P.blks.take j).all blkF = true)) (fun i _ => P.blks.length - (intOf i).toNat)
     case atStart => exact ⟨0, Nat.zero_le _, rfl, hB, rfl⟩
     case round =>
      clear hB
      obtain ⟨j, hj, rfl, hB, HA2⟩ := hrel
      have q2 := HX.out wr hB.out
      have d5 := HE.out wr hB.out _ _ D5.out
      by_cases hlj : j < P.blks.length
      ·obtain ⟨b2, o2, vi, rfl, hvi, c0, -⟩ := HBk.out j hlj
       have C0 := Lib.hid c0
       replace c0 := HE.out wr hB.out _ _ c0
       have hY2 := Lib.hid (allG_take blkF P.blks j hlj HA2.out)
       have hZ2 := Lib.hid (allG_no blkF P.blks j hlj)
       generalize P.blks.getD j default = K at *
       have hvi' := hvi
       obtain ⟨ai, ci, rfl, hi1, hi2, -⟩ := hvi'
       have HIn := Lib.hid (RdIns.at hvi).2
       clear hvi
       unfold maxLen at hi2
       by_cases h6 : K.ins.length ≤ 60
       ·have e6 : decide ((60 : Int) < (K.ins.length : Int)) = false := decide_eq_false (by omega)
        have HKF : Hid (blkF K = K.ins.all insF) := by
         show _ = _
         unfold blkF; rw [decide_eq_true h6]; rfl
        go_wp2_with fail
        clear e6 q2 d5 c0
        go_loopw [5] (fun i wr => ∃ n : Nat, n ≤ K.ins.length ∧ i = .int .i64 (n : Int) ∧ Hid (Below (w.heap.size + 1) W0 wr) ∧ Hid ((K.ins.take n).all insF = true)) (fun i _ => K.ins.length - (intOf i).toNat)
        case atStart => exact ⟨0, Nat.zero_le _, rfl, hB, rfl⟩
        case round =>
         clear hB
         obtain ⟨n, hn, rfl, hB, HA3⟩ := hrel
         have q2 := HX.out wr hB.out
         have d5 := HE.out wr hB.out _ _ D5.out
         have c0 := HE.out wr hB.out _ _ C0.out
         by_cases hln : n < K.ins.length
         ·obtain ⟨b3, o3, va, rfl, -, hva, x0, x1, x2, x3, x4, x5, x6, x7, x8, x9, x10⟩ := HIn.out n hln
          replace x0 := HE.out wr hB.out _ _ x0
          replace x1 := HE.out wr hB.out _ _ x1
          replace x2 := HE.out wr hB.out _ _ x2
          replace x3 := HE.out wr hB.out _ _ x3
          replace x4 := HE.out wr hB.out _ _ x4
          replace x5 := HE.out wr hB.out _ _ x5
          replace x6 := HE.out wr hB.out _ _ x6
          replace x7 := HE.out wr hB.out _ _ x7
          replace x8 := HE.out wr hB.out _ _ x8
          replace x9 := HE.out wr hB.out _ _ x9
          replace x10 := HE.out wr hB.out _ _ x10
          have hY3 := allG_take insF K.ins n hln HA3.out
          have hZ3 := allG_no insF K.ins n hln
          generalize K.ins.getD n default = I at *
          have hva' := hva
          obtain ⟨aa, ca, rfl, ha1, ha2, -⟩ := hva'
          unfold maxLen at ha2
          have EI : Hid (Calls Try.prog 47 #[.agg #[.int .i64 I.op, .int .i64 I.d, .int .i64 I.a, .int .i64 I.b, .int .i64 I.fn, .int .i64 I.obj, .int .i64 I.off, .int .i64 I.size, .int .u32 I.num, .slice aa I.args.length ca, .bool I.log]] wr fun e w' => e = .returned (.bool (insF I)) ∧ Below wr.heap.size wr w') := ins_c I _ wr ⟨_, rfl, hva.ext (HE.out wr hB.out)⟩ (by omega)
          clear hva
          have hBs : w.heap.size + 1 ≤ wr.heap.size := by have := hB.out.size; omega
          cases hx : insF I
          ·rw [hx] at EI
           have HFf : Hid (fewM m = false) := by
            show _ = _
            rw [HF.out, hZ.out (by rw [HPF.out, hZ2.out (by rw [HKF.out, hZ3 hx])])]
           clear hY3 hZ3 hx
           go_wp2_with (go_at_call 47; refine EI.out.mono ?_; rintro e w1 ⟨rfl, hb1⟩; have hb1 := Lib.hid hb1)
           go_ret
           exact ⟨ret_b HFf.out.symm, HR.out _ (hB.out.trans (hb1.out.mono hBs))⟩
          ·rw [hx] at EI
           have HA4 := Lib.hid (hY3 hx)
           clear hY3 hZ3 hx
           go_wp2_with (go_at_call 47; refine EI.out.mono ?_; rintro e w1 ⟨rfl, hb1⟩; have hb1 := Lib.hid hb1)
           go_roundw
           case rel => exact ⟨n + 1, by omega, by go_num, hB.out.trans (hb1.out.mono hBs), HA4⟩
           case measure => simp [intOf]; omega
         ·have HK1 : Hid ((P.blks.take (j + 1)).all blkF = true) := hY2.out (by rw [HKF.out]; have := HA3.out; rwa [List.take_of_length_le (by omega)] at this)
          go_wp2_with fail
          go_roundw
          case rel => exact ⟨j + 1, by omega, by go_num, hB, HK1⟩
          case measure => simp [intOf]; omega
       ·have e6 : decide ((60 : Int) < (K.ins.length : Int)) = true := decide_eq_true (by omega)
        have HFf : Hid (fewM m = false) := by
         show _ = _
         rw [HF.out, hZ.out (by rw [HPF.out, hZ2.out (by unfold blkF; rw [decide_eq_false h6]; rfl)])]
        go_wp2_with fail
        go_ret
        exact ⟨ret_b HFf.out.symm, HR.out _ hB.out⟩
      ·have HP1 : Hid ((m.procs.take (k + 1)).all prF = true) := hY.out (by rw [HPF.out]; have := HA2.out; rwa [List.take_of_length_le (by omega)] at this)
       go_wp2_with fail
       go_roundw
       case rel => exact ⟨k + 1, by omega, by go_num, hB, HP1⟩
       case measure => simp [intOf]; omega
    ·have e5 : decide ((20 : Int) < (P.objs.length : Int)) = true := decide_eq_true (by omega)
     have HFf : Hid (fewM m = false) := by
      show _ = _
      rw [HF.out, hZ (by unfold prF; rw [decide_eq_true h4, decide_eq_false h5]; rfl)]
     clear hY hZ
     go_wp2_with fail
     go_ret
     exact ⟨ret_b HFf.out.symm, HR.out _ hB.out⟩
   ·have e4 : decide ((40 : Int) < (P.blks.length : Int)) = true := decide_eq_true (by omega)
    have HFf : Hid (fewM m = false) := by
     show _ = _
     rw [HF.out, hZ (by unfold prF; rw [decide_eq_false h4]; rfl)]
    clear hY hZ
    go_wp2_with fail
    go_ret
    exact ⟨ret_b HFf.out.symm, HR.out _ hB.out⟩
  ·have HFt : Hid (fewM m = true) := by
    show _ = _
    rw [HF.out]; have := HA.out; rwa [List.take_of_length_le (by omega)] at this
   go_wp2_with fail
   go_ret
   exact ⟨ret_b HFt.out.symm, HR.out _ hB.out⟩
theorem few_c (m : Md) (v : Value) (w : World) (hv : MdV w v m) :
  Calls Try.prog 22 #[v] w fun e w' => e = .returned (.bool (fewM m)) ∧ Below w.heap.size w w' := by
 by_cases h : m.procs.length ≤ 6 ∧ m.globs.length ≤ 20 ∧ m.data.length ≤ 20
 ·exact few_yes m v w hv h.1 h.2.1 h.2.2
 ·exact few_no m v w hv h
end Go.Proofs.Ytobfpfjdkpaeiaa
