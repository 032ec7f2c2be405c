/-
 HazardWrites: the walk.
-/
import Derived.Test.YtobfpfjdkpaeiaaZHazardWrites50
import Derived.Test.YtobfpfjdkpaeiaaZHazardWrites14
import Derived.Test.YtobfpfjdkpaeiaaZHazardWrites15
set_option linter.all false
namespace Go.Proofs.Ytobfpfjdkpaeiaa
open Go.ChangeShapes Go.WideShapes Go.ChangeAt Go.RowKit
set_option maxHeartbeats 4000000
set_option linter.unusedVariables false
set_option maxRecDepth 100000
theorem filt_at22 {f : Nat → Bool} {N j : Nat} (hj : j < N) : ∃ T : List Nat, (List.range N).filter f = (List.range j).filter f ++ (if f j = true then j :: T else T) ∧ ∀ t ∈ T, j < t := by
 obtain ⟨d, rfl⟩ : ∃ d, N = j + (d + 1) := ⟨N - j - 1, by omega⟩
 refine ⟨((List.range d).map fun t => j + (t + 1)).filter f, ?_, fun t ht => ?_⟩
 ·have e : List.range (j + (d + 1)) = List.range j ++ (j :: (List.range d).map fun t => j + (t + 1)) := by
   rw [List.range_add, List.range_succ_eq_map, List.map_cons, List.map_map]
   rfl
  rw [e, List.filter_append, List.filter_cons]
 ·obtain ⟨h, -⟩ := List.mem_filter.1 ht
  obtain ⟨q, -, rfl⟩ := List.mem_map.1 h
  omega
def cntF22 (f : Nat → Bool) (j : Nat) : Nat := ((List.range j).filter f).length
theorem cntF22_le (f : Nat → Bool) (j : Nat) : cntF22 f j ≤ j := by
 unfold cntF22
 exact Nat.le_trans (List.length_filter_le _ _) (by rw [List.length_range]; exact Nat.le_refl _)
theorem cntF22_succ (f : Nat → Bool) (j : Nat) : cntF22 f (j + 1) = cntF22 f j + (if f j = true then 1 else 0) := by
 unfold cntF22
 rw [List.range_succ, List.filter_append, List.length_append]
 congr 1
 rw [List.filter_cons]
 split <;> simp
/-- the places at which something holds, as numbers -/
def plcF (f : Nat → Bool) (N : Nat) : List Int := ((List.range N).filter f).map fun j : Nat => (j : Int)
theorem plcF_len (f : Nat → Bool) (N : Nat) : (plcF f N).length = cntF22 f N := by unfold plcF cntF22; rw [List.length_map]
theorem plcF_yes {f : Nat → Bool} {N j : Nat} (hj : j < N) (h : f j = true) : cntF22 f j < (plcF f N).length ∧ (plcF f N).getD (cntF22 f j) 0 = (j : Int) := by
 obtain ⟨T, e, -⟩ := filt_at22 (f := f) hj
 unfold plcF cntF22
 rw [e, if_pos h]
 constructor
 ·simp
 ·simp [List.getD]
theorem plcF_no {f : Nat → Bool} {N j : Nat} (hj : j < N) (h : f j = false) (hc : cntF22 f j < (plcF f N).length) : (plcF f N).getD (cntF22 f j) 0 ≠ (j : Int) := by
 obtain ⟨T, e, hT⟩ := filt_at22 (f := f) hj
 unfold plcF cntF22 at hc ⊢
 rw [h] at e
 rw [e] at hc ⊢
 cases T with
 | nil => simp at hc
 | cons t T =>
  have := hT t (List.mem_cons_self ..)
  simp [List.getD]
  omega
theorem spillB_cut {p : Pr} {s : List Bool} {d : Int} (h : spillB (cutS p s) d = true) : spillB s d = true := by
 unfold spillB cutS at *
 simp only [Bool.and_eq_true, decide_eq_true_eq, List.length_take] at h ⊢
 obtain ⟨h1, h2, h3⟩ := h
 refine ⟨h1, by omega, ?_⟩
 simp only [List.getD, List.getElem?_take] at h3 ⊢
 split at h3
 ·exact h3
 ·simp at h3
theorem writesI_cut {p : Pr} {s : List Bool} {i : In} (h : writesI (cutS p s) i = true) : writesI s i = true := by
 unfold writesI at *
 rw [Bool.or_eq_true] at *
 rcases h with h | h
 ·exact .inl h
 ·exact .inr (spillB_cut h)
theorem HazardWrites_w (m : Md) (v : Value) (n : Int) (vs : Value) (s : List Bool) (w : World) (hn : MdOk m) (hv : MdV w v m) (hs : RdB w vs s) :
  Calls Try.prog 7 #[v, .int .i64 n, vs] w fun e w' => e = .returned (.bool true) ∧ Below w.heap.size w w' := by
 have HR : Hid (∀ w', Ext w w' → Calls Try.prog 8 #[v, .int .i64 n] w' fun e w'' => e = .returned (.bool (rightB m n)) ∧ Below w'.heap.size w' w'') := fun w' he => rightM_c m v n w' (hv.ext he)
 have HV := Lib.hid hv
 have HSV := Lib.hid hs
 obtain ⟨vg, vd, vp, rfl, hvg, hvd, hvp⟩ := hv
 have hvp' := hvp
 obtain ⟨ap, cp, rfl, hp1, hp2, -⟩ := hvp'
 unfold maxLen at hp2
 have HPS := Lib.hid (RdPrs.at6 hvp).2
 have HN := Lib.hid hn
 obtain ⟨sa, sc, rfl, hs1, hs2, -⟩ := hs
 unfold maxLen at hs2
 clear hvg hvd hvp hn
 obtain ⟨W0, hW0⟩ : ∃ W0, W0 = w.alloc (.cells #[vg, vd, .slice ap m.procs.length cp, .int .i64 m.main] 26) := ⟨_, rfl⟩
 have B0 : Hid (Below w.heap.size w W0) := by rw [hW0]; exact below_alloc w _
 have H0 := Lib.hid (heap_of_alloc w _ _ hW0)
 have HW0 := Lib.hid hW0
 clear hW0
 go_enter Try.func7, Try.ntmps7
 go_wp2_with fail
 rw [← HW0.out]
 refine (HR.out W0 (Ext.below B0.out)).mono ?_
 rintro e w1 ⟨rfl, hb1⟩
 have H0 := Lib.hid ((hb1.block w.heap.size (Array.getElem?_eq_some_iff.1 H0.out).1).trans H0.out)
 have BB := Lib.hid (B0.out.trans (hb1.mono B0.out.size))
 clear hb1 HR HW0 B0
 obtain ⟨y0, y1, y2, y3, l0⟩ := cl4 H0.out
 cases hr : rightB m n
 ·clear hr
  go_wp2_with fail
  refine (awake22_c _).mono ?_
  rintro e w3 ⟨rfl, hb3⟩
  have BB := Lib.hid (BB.out.trans (hb3.mono BB.out.size))
  clear hb3
  go_wp2_with fail
  go_ret
  exact ⟨rfl, BB.out⟩
 ·obtain ⟨hfw, k, rfl, h1, h40, hokm⟩ := rightB_is hr
  clear hr
  by_cases h60 : s.length > 60
  ·have g1 : decide (s.length > 60) = true := decide_eq_true h60
   have g2 : decide (60 < s.length) = true := decide_eq_true h60
   have g3 : decide ((s.length : Int) > 60) = true := decide_eq_true (by omega)
   have g4 : decide ((60 : Int) < (s.length : Int)) = true := decide_eq_true (by omega)
   go_wp2_with fail
   refine (awake22_c _).mono ?_
   rintro e w3 ⟨rfl, hb3⟩
   have BB := Lib.hid (BB.out.trans (hb3.mono BB.out.size))
   clear hb3
   go_wp2_with fail
   go_ret
   exact ⟨rfl, BB.out⟩
  ·have g1 : decide (s.length > 60) = false := decide_eq_false h60
   have g2 : decide (60 < s.length) = false := decide_eq_false h60
   have g3 : decide ((s.length : Int) > 60) = false := decide_eq_false (by omega)
   have g4 : decide ((60 : Int) < (s.length : Int)) = false := decide_eq_false (by omega)
   have g5 : decide ((k : Int) < (m.procs.length : Int)) = true := decide_eq_true (by omega)
   have g6 : decide (k < m.procs.length) = true := decide_eq_true h1
   obtain ⟨bp, op, tnm, tvo, tvb, hap, hto, htb, t0, t1, t2, t3, t4, t5⟩ := HPS.out k h1
   subst hap
   have hAP := Lib.hid (alP_of hfw hokm HN.out h1 h40)
   have hf := fun W (hW : Ext w W) => find_c m k s _ _ W (HV.out.ext hW) (HSV.out.ext hW) (hAP.out.fi h1)
   unfold FindQ at hf
   have HFND := Lib.hid hf
   clear hf hokm hfw HPS HN h40
   generalize m.procs.getD k default = P at *
   have hnb : P.blks.length ≤ 40 := hAP.out.blks
   have HTO := Lib.hid hto
   have HBK := Lib.hid htb
   obtain ⟨ao, co, rfl, -⟩ := hto
   obtain ⟨ab, cb, rfl, hcb1, hcb2, -⟩ := htb
   unfold maxLen at hcb2
   have hE1 : Ext w w1 := Ext.below BB.out
   replace t0 := hE1 _ _ t0
   replace t1 := hE1 _ _ t1
   replace t2 := hE1 _ _ t2
   replace t3 := hE1 _ _ t3
   replace t4 := hE1 _ _ t4
   replace t5 := hE1 _ _ t5
   clear hE1
   go_wp2_with fail
   obtain ⟨W2, hW2⟩ : ∃ W2, W2 = w1.alloc (.cells #[.string tnm, .bool P.void, .int .i64 P.params, .int .i64 P.regs, .slice ao P.objs.length co, .slice ab P.blks.length cb] 32) := ⟨_, rfl⟩
   have H2 : Hid (W2.heap[w1.heap.size]? = some (.cells #[.string tnm, .bool P.void, .int .i64 P.params, .int .i64 P.regs, .slice ao P.objs.length co, .slice ab P.blks.length cb] 32)) := by rw [hW2]; exact heap_alloc_new w1 _
   have B2 : Hid (Below w1.heap.size w1 W2) := by rw [hW2]; exact below_alloc w1 _
   have H0 := Lib.hid ((B2.out.block _ l0).trans H0.out)
   have BB := Lib.hid (BB.out.trans (B2.out.mono BB.out.size))
   rw [← hW2]
   clear hW2 t0 t1 t2 t3 t4 t5 y0 y1 y2 y3 l0 B2
   generalize w1.heap.size = b5 at *
   refine (HFND.out W2 (Ext.below BB.out)).mono ?_
   clear HFND
   rintro e w3 ⟨gP, ts, X, kv, x, sp, rfl, hP, -, -, -⟩
   have B3 := Lib.hid hP.below
   have HROW : Hid (∀ b, b < P.blks.length → ∃ f : Nat → Bool, OwnI w3 (gP + 2) (ts.getD b undef) (plcF f (P.blks.getD b default).ins.length) ∧ ∀ j, f j = true → writesI s ((P.blks.getD b default).ins.getD j default) = true) := fun b hb => by
    refine ⟨fun j => hazH (cutS P s) (loadsP P) (meetV kv x sp) (hadH (cutS P s) (loadsP P).length P b j (X.getD b 0)) ((P.blks.getD b default).ins.getD j default), ?_, fun j hj => writesI_cut (haz_writes hj)⟩
    have h := hP.row b hb
    have e : (((List.range P.blks.length).map fun b => (hazL (cutS P s) P (meetV kv x sp) X b).map fun j : Nat => (j : Int)).getD b []) = (hazL (cutS P s) P (meetV kv x sp) X b).map fun j : Nat => (j : Int) := by
     simp only [List.getD, List.getElem?_map, List.getElem?_range hb, Option.map_some, Option.getD_some]
    rw [e] at h
    exact h
   have HCL : Hid (∀ b, b < P.blks.length → w3.cell? ⟨gP, b, none⟩ = some (ts.getD b undef)) := fun b hb => hP.cell hb
   have H2 := Lib.hid ((B3.out.block _ (Array.getElem?_eq_some_iff.1 H2.out).1).trans H2.out)
   have BB := Lib.hid (BB.out.trans (B3.out.mono BB.out.size))
   clear hP H0 B3
   obtain ⟨z0, z1, z2, z3, z4, z5, lz⟩ := cl6 H2.out
   go_wp2_with fail
   clear z0 z1 z2 z3 z4 z5 lz
   go_loopw [10] (fun i wr => ∃ (b : Nat), b ≤ P.blks.length ∧ i = .int .i64 (b : Int) ∧ Hid (Below w3.heap.size w3 wr)) (fun i _ => P.blks.length - (intOf i).toNat)
   case atStart => exact ⟨0, Nat.zero_le _, rfl, Below.refl _ _⟩
   case round =>
    obtain ⟨b, hb, rfl, HB⟩ := hrel
    have HH2 : Hid (∀ W, Below w3.heap.size w3 W → W.heap[b5]? = some (.cells #[.string tnm, .bool P.void, .int .i64 P.params, .int .i64 P.regs, .slice ao P.objs.length co, .slice ab P.blks.length cb] 32)) := fun W hW => (hW.block _ (Array.getElem?_eq_some_iff.1 H2.out).1).trans H2.out
    have HX : Hid (∀ W, Below w3.heap.size w3 W → Ext w W) := fun W hW => Ext.below (BB.out.trans (hW.mono BB.out.size))
    obtain ⟨z0, z1, z2, z3, z4, z5, lz⟩ := cl6 (HH2.out wr HB.out)
    by_cases hlt : b < P.blks.length
    ·have g7 : decide (b < P.blks.length) = true := decide_eq_true hlt
     have g8 : decide ((b : Int) < (P.blks.length : Int)) = true := decide_eq_true (by omega)
     obtain ⟨bb, ob, vi, hab, hvi, c0, c1, c2, c3, c4⟩ := (RdBks.at HBK.out).2 b hlt
     subst hab
     obtain ⟨f, hrow, hfw⟩ := HROW.out b hlt
     have HFW := Lib.hid hfw
     have hcl := HCL.out b hlt
     obtain ⟨ar, cr, ev, hr1, hr2, hrc⟩ := OwnI.rd hrow
     have HRC := Lib.hid hrc
     rw [ev] at hcl
     unfold maxLen at hr2
     have HCC := Lib.hid hcl
     have HC0 := Lib.hid c0
     have hL60 := (hAP.out.ins (P.blks.getD b default) (getD_mem22 hlt)).1
     have HVI := Lib.hid hvi
     obtain ⟨ai, ci, rfl, hi1, hi2, -⟩ := hvi
     unfold maxLen at hi2
     generalize (P.blks.getD b default).ins = L at *
     clear hrow hfw ev hrc c1 c2 c3 c4 HROW HCL
     have c0 := HX.out wr HB.out _ _ HC0.out
     have hcl := Ext.below HB.out _ _ HCC.out
     go_wp2_with fail
     have hz0 : cntF22 f 0 = 0 := rfl
     clear hcl c0 z0 z1 z2 z3 z4 z5 lz
     go_loopw [11, 12] (fun a i wr => ∃ (j : Nat), j ≤ L.length ∧ a = .int .i64 ((cntF22 f j : Nat) : Int) ∧ i = .int .i64 (j : Int) ∧ Hid (Below w3.heap.size w3 wr)) (fun _ i _ => L.length - (intOf i).toNat)
     case atStart => exact ⟨0, Nat.zero_le _, rfl, rfl, HB⟩
     case round =>
      clear HB
      obtain ⟨j, hj, rfl, rfl, HB⟩ := hrel
      obtain ⟨z0, z1, z2, z3, z4, z5, lz⟩ := cl6 (HH2.out wr HB.out)
      have c0 := HX.out wr HB.out _ _ HC0.out
      have hcl := Ext.below HB.out _ _ HCC.out
      have hcle := cntF22_le f j
      by_cases hjl : j < L.length
      ·have k1 : decide (j < L.length) = true := decide_eq_true hjl
       have k2 : decide ((j : Int) < (L.length : Int)) = true := decide_eq_true (by omega)
       obtain ⟨bi, oi, vx, hai, hbw, hva, d0, d1, d2, d3, d4, d5, d6, d7, d8, d9, d10⟩ := (RdIns.at HVI.out).2 j hjl
       subst hai
       obtain ⟨aa, ca, rfl, -⟩ := id hva
       have HWR := Lib.hid (fun W (hW : Ext w W) => writes_c (L.getD j default) _ _ s W ⟨_, rfl, hva.ext hW⟩ (HSV.out.ext hW))
       have HWS := Lib.hid (fun W (hW : Ext w W) => writesR_c (L.getD j default) _ _ s W ⟨_, rfl, hva.ext hW⟩ (HSV.out.ext hW))
       have HY := Lib.hid (plcF_yes (f := f) hjl)
       have HNO := Lib.hid (plcF_no (f := f) hjl)
       have HFJ := Lib.hid (HFW.out j)
       have hsu := cntF22_succ f j
       have HD := Lib.hid (show _ ∧ _ ∧ _ ∧ _ ∧ _ ∧ _ ∧ _ ∧ _ ∧ _ ∧ _ ∧ _ from ⟨d0, d1, d2, d3, d4, d5, d6, d7, d8, d9, d10⟩)
       generalize L.getD j default = y at *
       clear d0 d1 d2 d3 d4 d5 d6 d7 d8 d9 d10 hva
       obtain ⟨d0, d1, d2, d3, d4, d5, d6, d7, d8, d9, d10⟩ := HD.out
       have hE := HX.out wr HB.out
       replace d0 := hE _ _ d0
       replace d1 := hE _ _ d1
       replace d2 := hE _ _ d2
       replace d3 := hE _ _ d3
       replace d4 := hE _ _ d4
       replace d5 := hE _ _ d5
       replace d6 := hE _ _ d6
       replace d7 := hE _ _ d7
       replace d8 := hE _ _ d8
       replace d9 := hE _ _ d9
       replace d10 := hE _ _ d10
       clear hE
       go_wp2_with fail
       refine (HWR.out wr (HX.out wr HB.out)).mono ?_
       rintro e w6 ⟨rfl, hb6⟩
       have HB6 := Lib.hid (HB.out.trans (hb6.mono HB.out.size))
       clear hb6 HWR d0 d1 d2 d3 d4 d5 d6 d7 d8 d9 d10 z0 z1 z2 z3 z4 z5 lz c0 hcl HB
       obtain ⟨z0, z1, z2, z3, z4, z5, lz⟩ := cl6 (HH2.out w6 HB6.out)
       have c0 := HX.out w6 HB6.out _ _ HC0.out
       obtain ⟨d0, d1, d2, d3, d4, d5, d6, d7, d8, d9, d10⟩ := HD.out
       have hE := HX.out w6 HB6.out
       replace d0 := hE _ _ d0
       replace d1 := hE _ _ d1
       replace d2 := hE _ _ d2
       replace d3 := hE _ _ d3
       replace d4 := hE _ _ d4
       replace d5 := hE _ _ d5
       replace d6 := hE _ _ d6
       replace d7 := hE _ _ d7
       replace d8 := hE _ _ d8
       replace d9 := hE _ _ d9
       replace d10 := hE _ _ d10
       clear hE
       go_wp2_with fail
       refine (HWS.out w6 (HX.out w6 HB6.out)).mono ?_
       rintro e w7 ⟨rfl, hb7⟩
       have HB7 := Lib.hid (HB6.out.trans (hb7.mono HB6.out.size))
       clear hb7 HWS d0 d1 d2 d3 d4 d5 d6 d7 d8 d9 d10 z0 z1 z2 z3 z4 z5 lz c0 HB6 HD
       have hcl := Ext.below HB7.out _ _ HCC.out
       generalize writesI s y = WR at *
       have HSU := Lib.hid hsu
       clear hsu
       cases hfj : f j with
       | true =>
        have hwr := HFJ.out hfj
        subst hwr
        obtain ⟨hy1, hy2⟩ := HY.out hfj
        obtain ⟨br, or, har, hc⟩ := HRC.out _ hy1
        subst har
        rw [hy2] at hc
        simp only [Nat.mul_one, Nat.add_zero] at hc
        have hc := Ext.below HB7.out _ _ hc
        have HS2 : Hid (cntF22 f (j + 1) = cntF22 f j + 1) := by
         show _ = _
         rw [HSU.out, hfj, if_pos rfl]
        have k3 : decide (cntF22 f j < (plcF f L.length).length) = true := decide_eq_true hy1
        have k4 : decide (((cntF22 f j : Nat) : Int) < ((plcF f L.length).length : Int)) = true := decide_eq_true (by omega)
        clear hfj HNO HY HFJ hy2 HSU
        go_wp2_with fail
        go_roundw
        case rel => exact ⟨j + 1, hjl, by rw [HS2.out]; go_num, by go_num, HB7⟩
        case measure => simp [intOf]; omega
       | false =>
        have HS2 : Hid (cntF22 f (j + 1) = cntF22 f j) := by
         show _ = _
         rw [HSU.out, hfj, if_neg (by simp)]; rfl
        by_cases hy1 : cntF22 f j < (plcF f L.length).length
        ·have hne := HNO.out hfj hy1
         obtain ⟨br, or, har, hc⟩ := HRC.out _ hy1
         subst har
         simp only [Nat.mul_one, Nat.add_zero] at hc
         have hc := Ext.below HB7.out _ _ hc
         have k3 : decide (cntF22 f j < (plcF f L.length).length) = true := decide_eq_true hy1
         have k4 : decide (((cntF22 f j : Nat) : Int) < ((plcF f L.length).length : Int)) = true := decide_eq_true (by omega)
         generalize (plcF f L.length).getD (cntF22 f j) 0 = G at *
         have k5 : decide (G = (j : Int)) = false := decide_eq_false hne
         have k6 : (G == (j : Int)) = false := by simpa using hne
         clear hfj HNO HY HFJ HSU hne
         go_wp2_with fail
         go_roundw
         case rel => exact ⟨j + 1, hjl, by rw [HS2.out], by go_num, HB7⟩
         case measure => simp [intOf]; omega
        ·have k3 : decide (cntF22 f j < (plcF f L.length).length) = false := decide_eq_false hy1
         have k4 : decide (((cntF22 f j : Nat) : Int) < ((plcF f L.length).length : Int)) = false := decide_eq_false (by omega)
         clear hfj HNO HY HFJ HSU
         go_wp2_with fail
         go_roundw
         case rel => exact ⟨j + 1, hjl, by rw [HS2.out], by go_num, HB7⟩
         case measure => simp [intOf]; omega
      ·obtain rfl : j = L.length := by omega
       rw [plcF_len] at hcl
       go_wp2_with fail
       go_roundw
       case rel => exact ⟨b + 1, hlt, by go_num, HB⟩
       case measure => simp [intOf]; omega
    ·obtain rfl : b = P.blks.length := by omega
     go_wp2_with fail
     refine (awake22_c _).mono ?_
     rintro e w9 ⟨rfl, hb9⟩
     have BB9 := Lib.hid (BB.out.trans ((HB.out.trans (hb9.mono HB.out.size)).mono BB.out.size))
     clear hb9
     go_wp2_with fail
     go_ret
     exact ⟨rfl, BB9.out⟩
end Go.Proofs.Ytobfpfjdkpaeiaa
