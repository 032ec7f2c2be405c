/-
 InlineAll: the walk.
-/
import Derived.Test.YtchoiankeohonaaGreatDoorZInlineAll47
import Derived.Test.YtchoiankeohonaaGreatDoorZInlineAll49
import Derived.Test.YtchoiankeohonaaGreatDoorZInlineAll48
import Derived.Test.YtchoiankeohonaaGreatDoorZInlineAll50
import Derived.Test.YtchoiankeohonaaGreatDoorZInlineAll01
import Derived.Test.YtchoiankeohonaaGreatDoorZInlineAll07
set_option linter.all false
namespace Go.Proofs.YtchoiankeohonaaGreatDoor
open Go.ChangeShapes Go.WideShapes Go.ChangeAt Go.RowKit
set_option maxHeartbeats 4000000
set_option maxRecDepth 100000
set_option linter.unusedVariables false
theorem okI_args6 {m : Md} {p : Pr} {i : In} (hm : okM m = true) (h : okI m p i = true) : i.args.length ≤ 6 := by
 by_cases h9 : i.op = 9
 ·obtain ⟨c1, c2, hpar, -⟩ := okI_call h h9
  have hH := okP_head (okM_proc hm (show i.obj.toNat < m.procs.length by omega))
  have hp6 := hH.p6
  have hpar : ((i.args.length : Nat) : Int) = (pk m i.obj.toNat).params := hpar
  omega
 ·unfold okI bareF at h
  simp only [Bool.and_eq_true, Bool.or_eq_true, decide_eq_true_eq, beq_iff_eq] at h
  rcases h.1.2.2.2.2.2.2.2.2 with h | h
  ·exact absurd h h9
  ·omega
theorem InlI.szT {m : Md} {P Q : Pr} (h : InlI m P Q) (hok : okM m = true) : SzT Q := by
 have hs := h.szP
 have hz := h.sz
 unfold sizeQ at hz
 refine ⟨by omega, fun b hb => by have := insN_mem4 hb; omega, fun b hb i hi => ?_⟩
 have := okI_args6 hok (okB_all (show okB m Q b = true by
  have := h.ok
  unfold okP at this
  rw [Bool.and_eq_true, List.all_eq_true] at this
  exact this.2 b hb) i hi)
 omega
theorem InlineAll_w (m : Md) (v : Value) (inp : List Int) (vi : Value) (w : World) (hn : MdOk m) (hv : MdV w v m) (hiw : ∀ x ∈ inp, 0 ≤ x ∧ x < 4294967296) (hi : RdW w vi inp) (hpw : Pow w) (hg : 2 < w.heap.size) :
  Calls Tryz.prog 3 #[v, vi] w fun e w' => e = .returned (.bool true) ∧ Below w.heap.size w w' := by
 have HTX : Hid (∀ (p : Pr) (vp : Value) w', Below w.heap.size w w' → PrV w' vp p → PrOk p → SzT p → Calls Tryz.prog 10 #[vp] w' fun e w'' => e = .returned (.string ⟨(textF p).toArray⟩) ∧ Below w'.heap.size w' w'') := fun p vp w' hb hp hok hs => text_c p vp w' (Go.Joins.var_stays pow_named hpw hb (Nat.le_refl _)) (Nat.lt_of_lt_of_le hg hb.size) hp hok hs
 clear hpw hg
 have HR : Hid (∀ (n : Nat) w', Ext w w' → Calls Tryz.prog 4 #[v, .int .i64 (n : Int)] w' fun e w'' => e = .returned (.bool (rightB m n)) ∧ Below w'.heap.size w' w'') := fun n w' he => rightM_c m v n w' (hv.ext he)
 have HV := Lib.hid hv
 have HIV := Lib.hid hi
 have HIW := Lib.hid hiw
 have HN := Lib.hid hn
 obtain ⟨vg, vd, vp, rfl, hvg, hvd, hvp⟩ := hv
 obtain ⟨ap, cp, rfl, hp1, hp2, -⟩ := id hvp
 unfold maxLen at hp2
 have HPS := Lib.hid (RdPrs.at6 hvp).2
 obtain ⟨ai, ci, rfl, hi1, hi2, -⟩ := hi
 unfold maxLen at hi2
 clear hvg hvd hvp hn hiw
 obtain ⟨W0, hW0⟩ : ∃ W0, W0 = w.alloc (.cells #[vg, vd, .slice ap m.procs.length cp, .int .i64 m.main] 26) := ⟨_, rfl⟩
 have B0 : Hid (Below w.heap.size w W0) := by
  show Below _ _ _
  rw [hW0]; exact below_alloc w _
 have H0 := Lib.hid (heap_of_alloc w _ _ hW0)
 have lw0 : Hid (w.heap.size < W0.heap.size) := (Array.getElem?_eq_some_iff.1 H0.out).1
 have HX : Hid (∀ W, Below W0.heap.size W0 W → W.heap[w.heap.size]? = some (.cells #[vg, vd, .slice ap m.procs.length cp, .int .i64 m.main] 26) ∧ Below w.heap.size w W) := fun W hW => ⟨(hW.block _ lw0.out).trans H0.out, B0.out.trans (hW.mono B0.out.size)⟩
 have HW0 := Lib.hid hW0.symm
 clear hW0
 go_enter Tryz.func3, Tryz.ntmps3
 go_upto_region 1 with (fail)
 rw [HW0.out]
 go_wp2_with fail
 go_loopw [5] (fun nv wr => ∃ k : Nat, nv = .int .i64 (k : Int) ∧ k ≤ m.procs.length ∧ Hid (∀ j : Nat, j < k → rightB m (j : Int) = true) ∧ Hid (Below W0.heap.size W0 wr)) (fun nv _ => m.procs.length - (intOf nv).toNat)
 case atStart => exact ⟨0, rfl, Nat.zero_le _, fun j hj => absurd hj (Nat.not_lt_zero j), Below.refl _ _⟩
 case round =>
  obtain ⟨k, rfl, hk, HRT, B⟩ := hrel
  obtain ⟨h0w, bww⟩ := HX.out wr B.out
  have BB := Lib.hid bww
  obtain ⟨y0, y1, y2, y3, l0⟩ := cl4 h0w
  clear h0w bww
  by_cases hlt : k < m.procs.length
  ·have g1 : decide ((k : Int) < (m.procs.length : Int)) = true := decide_eq_true (by omega)
   go_wp2_with fail
   refine (HR.out k wr (Ext.below BB.out)).mono ?_
   rintro e w2 ⟨rfl, hb2⟩
   have B2 := Lib.hid (B.out.trans (hb2.mono B.out.size))
   have BB := Lib.hid (BB.out.trans (hb2.mono BB.out.size))
   clear hb2 y0 y1 y2 y3 l0
   cases hr : rightB m (k : Int)
   ·clear hr
    go_wp2_with fail
    refine (awake20_c _).mono ?_
    rintro e w9 ⟨rfl, hb9⟩
    have BB := Lib.hid (BB.out.trans (hb9.mono BB.out.size))
    clear hb9
    go_wp2_with fail
    go_ret
    exact ⟨rfl, BB.out⟩
   ·have HRT2 : Hid (∀ j : Nat, j < k + 1 → rightB m (j : Int) = true) := fun j hj => by
     by_cases e : j = k
     ·subst e; exact hr
     ·exact HRT.out j (by omega)
    clear hr
    go_wp2_with fail
    go_roundw
    case rel => exact ⟨k + 1, by go_num, hlt, HRT2, B2⟩
    case measure => simp [intOf]; omega
  ·obtain rfl : k = m.procs.length := by omega
   have g1 : decide ((m.procs.length : Int) < (m.procs.length : Int)) = false := decide_eq_false (by omega)
   by_cases h0 : m.procs.length = 0
   ·have g2 : ((m.procs.length : Int) == 0) = true := beq_iff_eq.2 (by omega)
    have g3 : (m.procs.length == 0) = true := beq_iff_eq.2 h0
    go_wp2_with fail
    refine (awake20_c _).mono ?_
    rintro e w9 ⟨rfl, hb9⟩
    have BB := Lib.hid (BB.out.trans (hb9.mono BB.out.size))
    clear hb9
    go_wp2_with fail
    go_ret
    exact ⟨rfl, BB.out⟩
   ·have g2 : ((m.procs.length : Int) == 0) = false := beq_eq_false_iff_ne.2 (by omega)
    have g3 : (m.procs.length == 0) = false := beq_eq_false_iff_ne.2 h0
    by_cases h40 : inp.length > 40
    ·have g4 : decide (inp.length > 40) = true := decide_eq_true h40
     have g5 : decide ((40 : Int) < (inp.length : Int)) = true := decide_eq_true (by omega)
     have g6 : decide ((inp.length : Int) > 40) = true := decide_eq_true (by omega)
     go_wp2_with fail
     refine (awake20_c _).mono ?_
     rintro e w9 ⟨rfl, hb9⟩
     have BB := Lib.hid (BB.out.trans (hb9.mono BB.out.size))
     clear hb9
     go_wp2_with fail
     go_ret
     exact ⟨rfl, BB.out⟩
    ·have g4 : decide (inp.length > 40) = false := decide_eq_false h40
     have g5 : decide ((40 : Int) < (inp.length : Int)) = false := decide_eq_false (by omega)
     have g6 : decide ((inp.length : Int) > 40) = false := decide_eq_false (by omega)
     obtain ⟨hfw, -, -, -, -, hokm⟩ := rightB_is (HRT.out 0 (by omega))
     have HAI := Lib.hid (AllI.of hfw hokm HN.out)
     have hpl : m.procs.length ≤ 6 := by
      have h := hfw
      unfold fewM at h
      simp only [Bool.and_eq_true, decide_eq_true_eq] at h
      exact h.1
     have HSZ := Lib.hid (few_sz hfw)
     have HOK := Lib.hid hokm
     have HOKA := Lib.hid (okM_all HAI.out hokm HN.out)
     clear hfw hokm HR HRT g1 hlt
     go_wp2_with fail
     refine (all_c m _ wr (HV.out.ext (Ext.below BB.out)) HAI.out HOK.out HN.out HSZ.out (by omega)).mono ?_
     rintro e w3 ⟨vx, rfl, hx, hb3⟩
     obtain ⟨xg, xd, xp, rfl, hxg, hxd, hxp⟩ := hx
     have HXM := Lib.hid (show MdV w3 (.agg #[xg, xd, xp, .int .i64 (allM m).main]) (allM m) from ⟨xg, xd, xp, rfl, hxg, hxd, hxp⟩)
     have hxl : (allM m).procs.length = m.procs.length := allL_len m _
     have HQI : Hid (∀ k, k < m.procs.length → InlI m (pk m k) (allQ m k)) := fun k hk => HAI.out.q HOK.out HN.out hk
     have HCK : Hid (∀ W, Below w3.heap.size w3 W → Calls Tryz.prog 7 #[.agg #[xg, xd, xp, .int .i64 (allM m).main]] W fun e w' => e = .returned (.int .i64 0) ∧ Below W.heap.size W w') := fun W hW => by
      have := check_c (allM m) _ W (HXM.out.ext (Ext.below hW)) (szM_all HAI.out HOK.out HN.out)
      rw [okE_ok HOKA.out] at this
      exact this
     have HRA : Hid (∀ W, Ext w W → Calls Tryz.prog 11 #[.agg #[vg, vd, .slice ap m.procs.length cp, .int .i64 m.main], .slice ai inp.length ci, .int .i64 3000] W (RunPost m inp 3000 W)) := fun W hW => run_c m _ _ inp 3000 W (HV.out.ext hW) (HIV.out.ext hW) HSZ.out HN.out (by omega) HIW.out
     have HRX : Hid (∀ W, Ext w W → Below w3.heap.size w3 W → Calls Tryz.prog 11 #[.agg #[xg, xd, xp, .int .i64 (allM m).main], .slice ai inp.length ci, .int .i64 60000] W (RunPost (allM m) inp 60000 W)) := fun W h1 h2 => run_c (allM m) _ _ inp 60000 W (HXM.out.ext (Ext.below h2)) (HIV.out.ext h1) (szM_all HAI.out HOK.out HN.out) (mdOk_all HAI.out HOK.out HN.out) (by omega) HIW.out
     have HSA : Hid ((playM m inp 3000).e = 0 → SameO (playM m inp 3000) (playM (allM m) inp 60000)) := fun h => all_same HAI.out HOK.out HN.out HIW.out h
     obtain ⟨xag, xcg, rfl, -⟩ := id hxg
     obtain ⟨xad, xcd, rfl, -⟩ := id hxd
     obtain ⟨xap, xcp, rfl, hxp1, hxp2, -⟩ := id hxp
     unfold maxLen at hxp2
     have hxs := (RdPrs.at6 hxp).2
     have HXS := Lib.hid (fun (k : Nat) (hk : k < m.procs.length) => hxs k (by rw [hxl]; exact hk))
     have HPK : Hid (∀ k, k < m.procs.length → (allM m).procs.getD k default = allQ m k) := fun k hk => pk_all hk
     clear hxs
     rw [hxl] at hxp1 HCK HRX ⊢
     have B3 := Lib.hid (B.out.trans (hb3.mono B.out.size))
     have BB := Lib.hid (BB.out.trans (hb3.mono BB.out.size))
     have HXO : Hid (allM m = allM m) := rfl
     clear hb3 hxg hxd hxp y0 y1 y2 y3 l0 HOKA hxl HXM HXO
     generalize (allM m).globs.length = xgl at *
     generalize (allM m).data.length = xdl at *
     generalize (allM m).main = xmn at *
     generalize allM m = XM at *
     obtain ⟨W4, hW4⟩ : ∃ W4, W4 = w3.alloc (.cells #[.slice xag xgl xcg, .slice xad xdl xcd, .slice xap m.procs.length xcp, .int .i64 xmn] 26) := ⟨_, rfl⟩
     have H6 := Lib.hid (heap_of_alloc w3 _ _ hW4)
     have B4 : Hid (Below w3.heap.size w3 W4) := by rw [hW4]; exact below_alloc w3 _
     obtain ⟨y0, y1, y2, y3, l0⟩ := cl4 (HX.out w3 B3.out).1
     have HW4 := Lib.hid hW4.symm
     have l4 : Hid (w3.heap.size < W4.heap.size) := (Array.getElem?_eq_some_iff.1 H6.out).1
     have HX4 : Hid (∀ W, Below W4.heap.size W4 W → W.heap[w3.heap.size]? = some (.cells #[.slice xag xgl xcg, .slice xad xdl xcd, .slice xap m.procs.length xcp, .int .i64 xmn] 26) ∧ Below w3.heap.size w3 W) := fun W hW => ⟨(hW.block _ l4.out).trans H6.out, B4.out.trans (hW.mono B4.out.size)⟩
     have B0X : Hid (∀ W, Below w3.heap.size w3 W → Below W0.heap.size W0 W) := fun W hW => B3.out.trans (hW.mono B3.out.size)
     clear hW4
     go_wp2_with fail
     rw [HW4.out]
     obtain ⟨h6a, h6b⟩ := HX4.out W4 (Below.refl _ _)
     obtain ⟨z0, z1, z2, z3, l6⟩ := cl4 h6a
     obtain ⟨h0a, h0b⟩ := HX.out W4 (B0X.out _ h6b)
     clear y0 y1 y2 y3 l0
     obtain ⟨y0, y1, y2, y3, l0⟩ := cl4 h0a
     clear h6a h6b h0a h0b
     go_wp2_with fail
     refine (HCK.out W4 B4.out).mono ?_
     rintro e w5 ⟨rfl, hb5⟩
     have B5 := Lib.hid hb5
     obtain ⟨h6a, h6b⟩ := HX4.out w5 hb5
     obtain ⟨h0a, h0b⟩ := HX.out w5 (B0X.out _ h6b)
     clear y0 y1 y2 y3 l0 z0 z1 z2 z3 l6 hb5
     obtain ⟨y0, y1, y2, y3, l0⟩ := cl4 h0a
     obtain ⟨z0, z1, z2, z3, l6⟩ := cl4 h6a
     clear h6a h6b h0a h0b
     go_wp2_with fail
     clear y0 y1 y2 y3 l0 z0 z1 z2 z3 l6
     go_loopw [7] (fun nv wr => ∃ k : Nat, nv = .int .i64 (k : Int) ∧ k ≤ m.procs.length ∧ Hid (Below W4.heap.size W4 wr)) (fun nv _ => m.procs.length - (intOf nv).toNat)
     case atStart => exact ⟨0, rfl, Nat.zero_le _, B5⟩
     case round =>
      obtain ⟨k, rfl, hk, BL⟩ := hrel
      obtain ⟨h6a, h6b⟩ := HX4.out wr BL.out
      obtain ⟨h0a, h0b⟩ := HX.out wr (B0X.out _ h6b)
      have BW := Lib.hid h0b
      have BX := Lib.hid h6b
      obtain ⟨y0, y1, y2, y3, l0⟩ := cl4 h0a
      obtain ⟨z0, z1, z2, z3, l6⟩ := cl4 h6a
      clear h6a h6b h0a h0b
      by_cases hlk : k < m.procs.length
      ·have g1 : decide ((k : Int) < (m.procs.length : Int)) = true := decide_eq_true (by omega)
       have g2 : decide (k < m.procs.length) = true := decide_eq_true hlk
       obtain ⟨bp, op, tnm, tvo, tvb, hap, hto, htb, t0, t1, t2, t3, t4, t5⟩ := HPS.out k hlk
       subst hap
       rw [show m.procs.getD k default = pk m k from rfl] at hto htb t1 t2 t3
       obtain ⟨bx, ox, xnm, xvo, xvb, hxap, hxo, hxb, s0, s1, s2, s3, s4, s5⟩ := HXS.out k hlk
       subst hxap
       rw [HPK.out k hlk] at hxo hxb s1 s2 s3
       have HPV : Hid (PrV w (.agg #[.string tnm, .bool (pk m k).void, .int .i64 (pk m k).params, .int .i64 (pk m k).regs, tvo, tvb]) (pk m k)) := ⟨tnm, tvo, tvb, rfl, hto, htb⟩
       have HXV : Hid (PrV w3 (.agg #[.string xnm, .bool (allQ m k).void, .int .i64 (allQ m k).params, .int .i64 (allQ m k).regs, xvo, xvb]) (allQ m k)) := ⟨xnm, xvo, xvb, rfl, hxo, hxb⟩
       have QI := HQI.out k hlk
       have HPR := Lib.hid QI.pr
       have HZT := Lib.hid (QI.szT HOK.out)
       have HSP : Hid (SzP (pk m k)) := HSZ.out.procs _ (by unfold pk; simp [List.getD, hlk])
       have HTXX := Lib.hid (fun (W : World) (hW : Below w3.heap.size w3 W) => HTX.out (allQ m k) _ W (BB.out.trans (hW.mono BB.out.size)) (HXV.out.ext (Ext.below hW)) HPR.out HZT.out)
       have HTW := Lib.hid (fun (W : World) (v' : Value) (hW : Below w.heap.size w W) (hv' : PrV W v' (allQ m k)) => HTX.out (allQ m k) v' W hW hv' HPR.out HZT.out)
       have HRS := Lib.hid (fun (W : World) (hE : Ext w W) => rsmall_c (pk m k) _ W (HPV.out.ext hE) HSP.out)
       have HINL := Lib.hid (fun (W : World) (hb : Below w.heap.size w W) => inline_b m _ k w W hlk hb HV.out HOK.out HN.out HSZ.out (HAI.out.inl k hlk))
       unfold InlB at HINL
       have QD : Hid (allQ m k = if smallP (pk m k) = true then pk m k else inlP m (pk m k)) := rfl
       obtain ⟨toa, tom, toc, rfl⟩ := Rows'.sl hto
       obtain ⟨tba, tbm, tbc, rfl⟩ := Rows'.sl htb
       obtain ⟨xoa, xom, xoc, rfl⟩ := Rows'.sl hxo
       obtain ⟨xba, xbm, xbc, rfl⟩ := Rows'.sl hxb
       clear QI HPR HZT HSP hto htb hxo hxb HXV
       generalize inlP m (pk m k) = QQ at *
       generalize smallP (pk m k) = SP at *
       generalize allQ m k = Q at *
       generalize pk m k = P at *
       have hEw := Ext.below BW.out
       replace t0 := hEw _ _ t0
       replace t1 := hEw _ _ t1
       replace t2 := hEw _ _ t2
       replace t3 := hEw _ _ t3
       replace t4 := hEw _ _ t4
       replace t5 := hEw _ _ t5
       clear hEw
       have HSS := Lib.hid (show _ ∧ _ ∧ _ ∧ _ ∧ _ ∧ _ from ⟨s0, s1, s2, s3, s4, s5⟩)
       clear s0 s1 s2 s3 s4 s5
       obtain ⟨W6, hW6⟩ : ∃ W6, W6 = wr.alloc (.cells #[.string tnm, .bool P.void, .int .i64 P.params, .int .i64 P.regs, .slice toa tom toc, .slice tba tbm tbc] 35) := ⟨_, rfl⟩
       have H8 := Lib.hid (heap_of_alloc wr _ _ hW6)
       have B6 : Hid (Below wr.heap.size wr W6) := by rw [hW6]; exact below_alloc wr _
       have HW6 := Lib.hid hW6.symm
       have l8 : Hid (W4.heap.size ≤ wr.heap.size) := BL.out.size
       clear hW6
       go_wp2_with fail
       rw [HW6.out]
       have BL6 := Lib.hid (BL.out.trans (B6.out.mono BL.out.size))
       have h6b := (HX4.out W6 BL6.out).2
       have h0b := (HX.out W6 (B0X.out _ h6b)).2
       obtain ⟨c0, c1, c2, c3, c4, c5, l9⟩ := cl6 H8.out
       clear t0 t1 t2 t3 t4 t5 y0 y1 y2 y3 l0 z0 z1 z2 z3 l6
       go_wp2_with fail
       refine (HRS.out W6 (Ext.below h0b)).mono ?_
       rintro e w7 ⟨rfl, hb7⟩
       have BL7 := Lib.hid (BL6.out.trans (hb7.mono BL6.out.size))
       have H8 := Lib.hid ((hb7.block _ l9).trans H8.out)
       clear hb7 HRS HW6 h6b h0b c0 c1 c2 c3 c4 c5 l9 B6
       generalize wr.heap.size = b8 at *
       obtain ⟨h6a, h6b⟩ := HX4.out w7 BL7.out
       obtain ⟨h0a, h0b⟩ := HX.out w7 (B0X.out _ h6b)
       have BX7 := Lib.hid h6b
       have BW7 := Lib.hid h0b
       obtain ⟨y0, y1, y2, y3, l0⟩ := cl4 h0a
       have HZ7 := Lib.hid h6a
       clear h6a h6b h0a h0b
       cases SP
       ·have hQ : Q = QQ := by have := QD.out; simpa using this
        subst hQ
        go_wp2_with fail
        refine (HINL.out w7 BW7.out).mono ?_
        rintro e w8 ⟨qnm, qvo, qvb, rfl, hqo, hqb, hb8⟩
        obtain ⟨qoa, qom, qoc, rfl⟩ := Rows'.sl hqo
        obtain ⟨qba, qbm, qbc, rfl⟩ := Rows'.sl (hqb.rd (Ext.below (BW7.out.trans (hb8.mono BW7.out.size))))
        have l8b := (Array.getElem?_eq_some_iff.1 H8.out).1
        have H8 := Lib.hid ((hb8.block _ l8b).trans H8.out)
        obtain ⟨c0, c1, c2, c3, c4, c5, l9⟩ := cl6 H8.out
        have f0 := frozen_of_heap H8.out 0
        have f1 := frozen_of_heap H8.out 1
        have f2 := frozen_of_heap H8.out 2
        have f3 := frozen_of_heap H8.out 3
        have f4 := frozen_of_heap H8.out 4
        have f5 := frozen_of_heap H8.out 5
        obtain ⟨W9, hW9⟩ : ∃ W9, W9 = (((((w8.setCell ⟨b8, 0, none⟩ (.string qnm)).setCell ⟨b8, 1, none⟩ (.bool Q.void)).setCell ⟨b8, 2, none⟩ (.int .i64 Q.params)).setCell ⟨b8, 3, none⟩ (.int .i64 Q.regs)).setCell ⟨b8, 4, none⟩ (.slice qoa qom qoc)).setCell ⟨b8, 5, none⟩ (.slice qba qbm qbc) := ⟨_, rfl⟩
        have HB9 : Hid (But b8 w8 W9) := by
         rw [hW9]
         exact (((((But.setCell _ _ _ _).trans (But.setCell _ _ _ _)).trans (But.setCell _ _ _ _)).trans (But.setCell _ _ _ _)).trans (But.setCell _ _ _ _)).trans (But.setCell _ _ _ _)
        have H9 : Hid (W9.heap[b8]? = some (.cells #[.string qnm, .bool Q.void, .int .i64 Q.params, .int .i64 Q.regs, .slice qoa qom qoc, .slice qba qbm qbc] 35)) := by
         rw [hW9]
         exact heap_setCell_same _ b8 5 _ _ _ (heap_setCell_same _ b8 4 _ _ _ (heap_setCell_same _ b8 3 _ _ _ (heap_setCell_same _ b8 2 _ _ _ (heap_setCell_same _ b8 1 _ _ _ (heap_setCell_same _ b8 0 _ _ _ H8.out)))))
        have BL9 : Hid (Below W4.heap.size W4 W9) := (BL7.out.trans (hb8.mono BL7.out.size)).trans (HB9.out.toBelow l8.out (by have := BL7.out.size; have := hb8.size; omega))
        have BX9 := Lib.hid (HX4.out W9 BL9.out).2
        have BW9 := Lib.hid (HX.out W9 (B0X.out _ BX9.out)).2
        have HWV : Hid (PrV W9 (.agg #[.string qnm, .bool Q.void, .int .i64 Q.params, .int .i64 Q.regs, .slice qoa qom qoc, .slice qba qbm qbc]) Q) := ⟨qnm, _, _, rfl, hqo.ext (Ext.below BW9.out), (hqb.but HB9.out H8.out (by decide) (by decide)).rd (Ext.below BW9.out)⟩
        have HZ9 := Lib.hid (HX4.out W9 BL9.out).1
        have HW9 := Lib.hid hW9.symm
        clear hW9 hqo hqb hb8 y0 y1 y2 y3 l0 HB9
        go_wp2_with fail
        rw [HW9.out]
        have HTW2 := Lib.hid (fun (W : World) (hW : Below W9.heap.size W9 W) => HTW.out W _ (BW9.out.trans (hW.mono BW9.out.size)) (HWV.out.ext (Ext.below hW)))
        clear c0 c1 c2 c3 c4 c5 l9 f0 f1 f2 f3 f4 f5 HW9 HTW HINL
        obtain ⟨c0, c1, c2, c3, c4, c5, l9⟩ := cl6 H9.out
        obtain ⟨z0, z1, z2, z3, l6⟩ := cl4 HZ9.out
        obtain ⟨s0, s1, s2, s3, s4, s5⟩ := HSS.out
        have hE3 := Ext.below BX9.out
        replace s0 := hE3 _ _ s0
        replace s1 := hE3 _ _ s1
        replace s2 := hE3 _ _ s2
        replace s3 := hE3 _ _ s3
        replace s4 := hE3 _ _ s4
        replace s5 := hE3 _ _ s5
        clear hE3
        go_wp2_with fail
        refine wp_region_junk (fun _ => True) (by kernel_rfl) ?_
        refine J_mobs [0, 1, 2, 3, 4, 6] _ _ _ _ (by kernel_rfl) ?_
        simp only [List.map_cons, List.map_nil, List.getElem?_toArray, List.getElem?_cons_succ, List.getElem?_cons_zero, Option.getD_some, List.size_toArray, List.length_cons, List.length_nil, Nat.reduceAdd, Nat.reduceSub]
        repeat (go_big_quiet_step (fail))
        refine wpQuiet_nil ?_
        clear c0 c1 c2 c3 c4 c5 l9 z0 z1 z2 z3 l6 s0 s1 s2 s3 s4 s5
        refine J_loud1 5 _ rfl (by kernel_rfl) ?_
        simp only [List.getElem_toArray, List.getElem_cons_succ, List.getElem_cons_zero]
        intro wj hj
        go_wp2_with fail
        refine (HTXX.out wj (BX9.out.trans (hj.mono BX9.out.size))).mono ?_
        rintro e wa ⟨rfl, hba⟩
        go_wp2_with fail
        refine ⟨KeepX.below hba, ?_⟩
        have BN := Lib.hid (hj.trans (hba.mono hj.size))
        clear hj hba
        refine J_loud1 7 _ rfl (by kernel_rfl) ?_
        simp only [List.getElem_toArray, List.getElem_cons_succ, List.getElem_cons_zero]
        intro wj hj
        go_wp2_with fail
        refine (HTW2.out wj (BN.out.trans (hj.mono BN.out.size))).mono ?_
        rintro e wb ⟨rfl, hbb⟩
        go_wp2_with fail
        refine ⟨KeepX.below hbb, ?_⟩
        have BN := Lib.hid (BN.out.trans ((hj.trans (hbb.mono hj.size)).mono BN.out.size))
        clear hj hbb
        refine J_mobs [8] _ _ _ _ (by kernel_rfl) ?_
        simp only [List.map_cons, List.map_nil, List.getElem?_toArray, List.getElem?_cons_succ, List.getElem?_cons_zero, Option.getD_some, List.size_toArray, List.length_cons, List.length_nil, Nat.reduceAdd, Nat.reduceSub]
        repeat (go_big_quiet_step (fail))
        refine wpQuiet_nil ?_
        refine J_done (by kernel_rfl) (fun wm hm => ?_) _
        have BN := Lib.hid (BN.out.trans (hm.mono BN.out.size))
        have BE := Lib.hid (BL9.out.trans (BN.out.mono BL9.out.size))
        clear hm BN
        go_wp2_with fail
        go_roundw
        case rel => exact ⟨k + 1, by go_num, hlk, BE⟩
        case measure => simp [intOf]; omega
       ·have hQ : Q = P := by have := QD.out; simpa using this
        subst hQ
        have HTW2 := Lib.hid (fun (W : World) (hW : Below w7.heap.size w7 W) => HTW.out W _ (BW7.out.trans (hW.mono BW7.out.size)) (HPV.out.ext (Ext.below (BW7.out.trans (hW.mono BW7.out.size)))))
        clear HTW HINL y0 y1 y2 y3 l0
        obtain ⟨c0, c1, c2, c3, c4, c5, l9⟩ := cl6 H8.out
        obtain ⟨z0, z1, z2, z3, l6⟩ := cl4 HZ7.out
        obtain ⟨s0, s1, s2, s3, s4, s5⟩ := HSS.out
        have hE3 := Ext.below BX7.out
        replace s0 := hE3 _ _ s0
        replace s1 := hE3 _ _ s1
        replace s2 := hE3 _ _ s2
        replace s3 := hE3 _ _ s3
        replace s4 := hE3 _ _ s4
        replace s5 := hE3 _ _ s5
        clear hE3
        go_wp2_with fail
        refine wp_region_junk (fun _ => True) (by kernel_rfl) ?_
        refine J_mobs [0, 1, 2, 3, 4, 6] _ _ _ _ (by kernel_rfl) ?_
        simp only [List.map_cons, List.map_nil, List.getElem?_toArray, List.getElem?_cons_succ, List.getElem?_cons_zero, Option.getD_some, List.size_toArray, List.length_cons, List.length_nil, Nat.reduceAdd, Nat.reduceSub]
        repeat (go_big_quiet_step (fail))
        refine wpQuiet_nil ?_
        clear c0 c1 c2 c3 c4 c5 l9 z0 z1 z2 z3 l6 s0 s1 s2 s3 s4 s5
        refine J_loud1 5 _ rfl (by kernel_rfl) ?_
        simp only [List.getElem_toArray, List.getElem_cons_succ, List.getElem_cons_zero]
        intro wj hj
        go_wp2_with fail
        refine (HTXX.out wj (BX7.out.trans (hj.mono BX7.out.size))).mono ?_
        rintro e wa ⟨rfl, hba⟩
        go_wp2_with fail
        refine ⟨KeepX.below hba, ?_⟩
        have BN := Lib.hid (hj.trans (hba.mono hj.size))
        clear hj hba
        refine J_loud1 7 _ rfl (by kernel_rfl) ?_
        simp only [List.getElem_toArray, List.getElem_cons_succ, List.getElem_cons_zero]
        intro wj hj
        go_wp2_with fail
        refine (HTW2.out wj (BN.out.trans (hj.mono BN.out.size))).mono ?_
        rintro e wb ⟨rfl, hbb⟩
        go_wp2_with fail
        refine ⟨KeepX.below hbb, ?_⟩
        have BN := Lib.hid (BN.out.trans ((hj.trans (hbb.mono hj.size)).mono BN.out.size))
        clear hj hbb
        refine J_mobs [8] _ _ _ _ (by kernel_rfl) ?_
        simp only [List.map_cons, List.map_nil, List.getElem?_toArray, List.getElem?_cons_succ, List.getElem?_cons_zero, Option.getD_some, List.size_toArray, List.length_cons, List.length_nil, Nat.reduceAdd, Nat.reduceSub]
        repeat (go_big_quiet_step (fail))
        refine wpQuiet_nil ?_
        refine J_done (by kernel_rfl) (fun wm hm => ?_) _
        have BN := Lib.hid (BN.out.trans (hm.mono BN.out.size))
        have BE := Lib.hid (BL7.out.trans (BN.out.mono BL7.out.size))
        clear hm BN
        go_wp2_with fail
        go_roundw
        case rel => exact ⟨k + 1, by go_num, hlk, BE⟩
        case measure => simp [intOf]; omega
      ·obtain rfl : k = m.procs.length := by omega
       have g1 : decide ((m.procs.length : Int) < (m.procs.length : Int)) = false := decide_eq_false (by omega)
       have BLr := Lib.hid BL.out
       go_wp2_with fail
       refine (HRA.out wr (Ext.below BW.out)).mono ?_
       rintro e w6 ⟨va, rfl, hoa, hb6⟩
       rw [clamp3] at hoa
       obtain ⟨aA, cA, rfl, hrA⟩ := hoa.rd (Below.refl _ _)
       have RA := Lib.hid hrA
       have BL6 := Lib.hid (BLr.out.trans (hb6.mono BLr.out.size))
       clear hoa hrA hb6 y0 y1 y2 y3 l0 z0 z1 z2 z3 l6 HRA
       generalize playM m inp 3000 = OA at *
       obtain ⟨W7, hW7⟩ : ∃ W7, W7 = w6.alloc (.cells #[.slice aA OA.out.length cA, .int .i64 OA.ins, .int .u32 OA.exit, .int .i64 OA.e] 41) := ⟨_, rfl⟩
       have H7 := Lib.hid (heap_of_alloc w6 _ _ hW7)
       have B7 : Hid (Below w6.heap.size w6 W7) := by rw [hW7]; exact below_alloc w6 _
       have BL7 := Lib.hid (BL6.out.trans (B7.out.mono BL6.out.size))
       have RA := Lib.hid (RA.out.ext (Ext.below B7.out))
       have HW7 := Lib.hid hW7.symm
       have l7 : Hid (w6.heap.size < W7.heap.size) := (Array.getElem?_eq_some_iff.1 H7.out).1
       clear hW7 B7
       by_cases hz : OA.e = 0
       ·have g3 : (OA.e != 0) = false := by rw [hz]; rfl
        have HS2 := Lib.hid (HSA.out hz)
        clear hz HSA
        go_wp2_with fail
        rw [HW7.out]
        obtain ⟨x0, x1, x2, x3, lx⟩ := cl4 H7.out
        go_wp2_with fail
        clear x0 x1 x2 x3 lx
        refine wp_region_junk (fun _ => True) (by kernel_rfl) ?_
        refine J_loud1 0 _ rfl (by kernel_rfl) ?_
        simp only [List.getElem_toArray, List.getElem_cons_succ, List.getElem_cons_zero]
        intro wj hj
        go_wp2_with fail
        refine (awake20_c wj).mono ?_
        rintro e w8 ⟨rfl, hb8⟩
        go_wp2_with fail
        refine ⟨KeepX.below hb8, ?_⟩
        have B8 := Lib.hid (hj.trans (hb8.mono hj.size))
        clear hj hb8
        have BL8 := Lib.hid (BL7.out.trans (B8.out.mono BL7.out.size))
        have H7 := Lib.hid ((B8.out.block _ l7.out).trans H7.out)
        have RA := Lib.hid (RA.out.ext (Ext.below B8.out))
        obtain ⟨h6a, h6b⟩ := HX4.out w8 BL8.out
        have h0b := (HX.out w8 (B0X.out _ h6b)).2
        have BX8 := Lib.hid h6b
        have BW8 := Lib.hid h0b
        obtain ⟨x0, x1, x2, x3, lx⟩ := cl4 H7.out
        obtain ⟨z0, z1, z2, z3, l6⟩ := cl4 h6a
        clear h6a h6b h0b B8
        refine J_mobs [1, 2, 3, 4] _ _ _ _ (by kernel_rfl) ?_
        simp only [List.map_cons, List.map_nil, List.getElem?_toArray, List.getElem?_cons_succ, List.getElem?_cons_zero, Option.getD_some, List.size_toArray, List.length_cons, List.length_nil, Nat.reduceAdd, Nat.reduceSub]
        repeat (go_big_quiet_step (fail))
        refine wpQuiet_nil ?_
        clear x0 x1 x2 x3 lx z0 z1 z2 z3 l6
        refine J_loud1 5 _ rfl (by kernel_rfl) ?_
        simp only [List.getElem_toArray, List.getElem_cons_succ, List.getElem_cons_zero]
        intro wj hj
        go_wp2_with fail
        refine (HRX.out wj (Ext.below (BW8.out.trans (hj.mono BW8.out.size))) (BX8.out.trans (hj.mono BX8.out.size))).mono ?_
        rintro e w9 ⟨vb, rfl, hob, hb9⟩
        rw [clamp60] at hob
        obtain ⟨aB, cB, rfl, hrB⟩ := (hob.same HS2.out).rd (Below.refl _ _)
        have RA := Lib.hid ((RA.out.ext (Ext.below hj)).ext (Ext.below hb9))
        have RB := Lib.hid hrB
        have BW9 := Lib.hid (BW8.out.trans ((hj.trans (hb9.mono hj.size)).mono BW8.out.size))
        go_wp2_with fail
        refine ⟨KeepX.below hb9, ?_⟩
        clear hj hb9 hrB hob
        refine J_loud1 6 _ rfl (by kernel_rfl) ?_
        simp only [List.getElem_toArray, List.getElem_cons_succ, List.getElem_cons_zero]
        intro wj hj
        go_wp2_with fail
        refine (same_yes OA _ _ _ _ wj (RA.out.ext (Ext.below hj)) (RB.out.ext (Ext.below hj))).mono ?_
        rintro e wa ⟨rfl, hba⟩
        have BWa := Lib.hid (BW9.out.trans ((hj.trans (hba.mono hj.size)).mono BW9.out.size))
        go_wp2_with fail
        refine ⟨KeepX.below hba, ?_⟩
        clear hj hba
        refine J_mobs [7, 8] _ _ _ _ (by kernel_rfl) ?_
        simp only [List.map_cons, List.map_nil, List.getElem?_toArray, List.getElem?_cons_succ, List.getElem?_cons_zero, Option.getD_some, List.size_toArray, List.length_cons, List.length_nil, Nat.reduceAdd, Nat.reduceSub]
        repeat (go_big_quiet_step (fail))
        refine wpQuiet_nil ?_
        refine J_done (by kernel_rfl) (fun wm hm => ?_) _
        have BWm := Lib.hid (BWa.out.trans (hm.mono BWa.out.size))
        go_wp2_with fail
        go_ret
        exact ⟨rfl, BWm.out⟩
       ·have g3 : (OA.e != 0) = true := by simpa using hz
        clear hz HSA
        go_wp2_with fail
        rw [HW7.out]
        obtain ⟨x0, x1, x2, x3, lx⟩ := cl4 H7.out
        have BB := Lib.hid (HX.out W7 (B0X.out _ (HX4.out W7 BL7.out).2)).2
        go_wp2_with fail
        refine (awake20_c _).mono ?_
        rintro e w9 ⟨rfl, hb9⟩
        have BB := Lib.hid (BB.out.trans (hb9.mono BB.out.size))
        clear hb9
        go_wp2_with fail
        go_ret
        exact ⟨rfl, BB.out⟩
end Go.Proofs.YtchoiankeohonaaGreatDoor
