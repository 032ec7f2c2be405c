/-
 A block tells those to which it leads what is known behind it (fold.spread).
-/
import Derived.Test.YtkhfddodmjnecaaDoorZFoldTwice24
import Derived.Test.YtkhfddodmjnecaaDoorZFoldTwice10
set_option linter.all false
namespace Go.Proofs.YtkhfddodmjnecaaDoor
open Go.ChangeShapes Go.WideShapes Go.ChangeAt Go.RowKit
set_option maxHeartbeats 4000000
set_option maxRecDepth 100000
set_option linter.unusedVariables false

def spC1 (T : Ro) (s : Tb × Bool) (q : Int) : Tb × Bool :=
 if q = 0 then s else match s.1.getD q.toNat none with
  | none => (s.1.set q.toNat (some T), true)
  | some o => (s.1.set q.toNat (some (meetC o T)), wentC o T o.length || s.2)
def spC (T : Ro) (l : List Int) (X : Tb) : Tb × Bool := l.foldl (spC1 T) (X, false)
theorem spC_take (T : Ro) (l : List Int) (X : Tb) (k : Nat) (h : k < l.length) : spC T (l.take (k + 1)) X = spC1 T (spC T (l.take k) X) (l.getD k 0) := by
 unfold spC
 rw [List.take_succ, List.getElem?_eq_getElem h, Option.toList_some, List.foldl_append]
 simp [List.getD, List.getElem?_eq_getElem h]
theorem spC1_len (T : Ro) (s : Tb × Bool) (q : Int) : (spC1 T s q).1.length = s.1.length := by
 unfold spC1
 split
 ·rfl
 ·split <;> simp
theorem spC_len (T : Ro) (l : List Int) : ∀ (X : Tb) (k : Nat), (spC T (l.take k) X).1.length = X.length
 | X, 0 => rfl
 | X, k + 1 => by
  by_cases h : k < l.length
  ·rw [spC_take T l X k h, spC1_len, spC_len T l X k]
  ·have : l.take (k + 1) = l.take k := by rw [List.take_of_length_le (by omega), List.take_of_length_le (by omega)]
   rw [this, spC_len T l X k]
theorem meetC_len (a b : Ro) : (meetC a b).length = a.length := by simp [meetC]
theorem meetC_ok {a b : Ro} (h : RoOk a) : RoOk (meetC a b) := fun r x e => by
 by_cases hr : r < a.length
 ·rw [meetC_at a b r hr] at e
  split at e
  ·exact h r x e
  ·cases e
 ·have : (meetC a b).getD r none = none := by simp [meetC, List.getD, Nat.le_of_not_lt hr]
  rw [this] at e; cases e
/-- rows of numbers stay -/
def KI (w w' : World) : Prop := ∀ v L, OwnI w 0 v L → OwnI w' 0 v L
theorem KI.below {w w' : World} (h : Below w.heap.size w w') : KI w w' := fun _ _ o => own_below o h
theorem KI.trans {w w' w'' : World} (h : KI w w') (h' : KI w' w'') : KI w w'' := fun v L o => h' v L (h v L o)
theorem KI.but {w w' : World} {g : Nat} {cs : Array Value} {ty : TypeId} (h : But g w w') (hg : w.heap[g]? = some (.cells cs ty)) (ht : 3 ≠ ty) : KI w w' := fun v L o => World.ownsRow.kept o (but_grownK h) (.inr (ne_row o hg ht))
/-- what spread leaves -/
def SprQ (B gt ct R : Nat) (w : World) (S : Tb × Bool) (e : Ending) (w' : World) : Prop := e = .returned (.bool S.2) ∧ (∃ rs', TbC B w' gt ct rs' S.1 R) ∧ Below B w w' ∧ KI w w'
theorem spreadC_c (w0 : World) (gt ct R n : Nat) (rs : Rs) (X : Tb) (p : Pr) (U : Value) (t : Ro) (w : World) (hp : PrV w0 U p) (hb : Below w0.heap.size w0 w) (h : TbC w0.heap.size w gt ct rs X R) (hn : n < p.blks.length) (hX : X.length = p.blks.length) (ht : X.getD n none = some t)
  (hi : InsC R (p.blks.getD n default).ins) (hil : (p.blks.getD n default).ins.length ≤ 100000) (hR : R ≤ 1000000) (ho : ∀ q ∈ outsB (p.blks.getD n default), 0 ≤ q ∧ q < (X.length : Int)) :
  Calls Tryd.prog 31 #[U, .slice (some ⟨gt, 0, none⟩) X.length ct, .int .i64 (n : Int)] w (SprQ w0.heap.size gt ct R w (spC (thrC t (p.blks.getD n default).ins) (outsB (p.blks.getD n default)) X)) := by
 obtain ⟨nm, vo, vb, rfl, hvo, hvb⟩ := hp
 obtain ⟨ao, co, rfl, -⟩ := hvo
 have HVB := Lib.hid hvb
 obtain ⟨ab, cb, rfl, b1, b2, -⟩ := hvb
 unfold maxLen at b2
 obtain ⟨bb, bo, vi, hab, hvi, z0, z1, z2, z3, z4⟩ := (RdBks.at HVB.out).2 n hn
 subst hab
 obtain ⟨hc1, hc2⟩ := h.caps
 unfold maxLen at hc2
 have hnX : n < X.length := by omega
 obtain ⟨tc0, -⟩ := h.cell hnX
 have hrow := h.row n hnX
 rw [ht] at hrow
 obtain ⟨g, c, hgc⟩ : ∃ g c, rs.getD n none = some (g, c) := by
  cases hr : rs.getD n none with
  | none => rw [hr] at hrow; exact hrow.elim
  | some x => exact ⟨x.1, x.2, rfl⟩
 rw [hgc] at hrow tc0
 obtain ⟨hq, hlR, hok, hgB⟩ := hrow
 subst hlR
 unfold rowVC at tc0
 dsimp only at tc0
 have H := Lib.hid h
 have HQ := Lib.hid hq
 have HBW := Lib.hid hb
 obtain ⟨BK, hbk⟩ : ∃ BK, p.blks.getD n default = BK := ⟨_, rfl⟩
 rw [hbk] at hvi z1 z2 z3 z4 hi hil ho ⊢
 clear hbk
 have HTH : Hid (∀ W, Below w.heap.size w W → Calls Tryd.prog 43 #[.slice (some ⟨g, 0, none⟩) t.length c, .agg #[vi, .int .i64 BK.fin, .int .i64 BK.a, .int .i64 BK.to, .int .i64 BK.els]] W fun e w' => ∃ g' c', e = .returned (.slice (some ⟨g', 0, none⟩) t.length c') ∧ RowQ w' g' c' (thrC t BK.ins) ∧ W.heap.size ≤ g' ∧ Below W.heap.size W w') := fun W hW =>
  through_c g c t BK vi W (HQ.out.below hW) hR hok (hvi.ext ((Ext.below hb).trans (Ext.below hW))) hi hil
 have HOU : Hid (∀ W, Ext w0 W → Calls Tryd.prog 44 #[.agg #[vi, .int .i64 BK.fin, .int .i64 BK.a, .int .i64 BK.to, .int .i64 BK.els]] W (RetI W (outsB BK))) := fun W hW => outs_c _ _ W ⟨vi, rfl, hvi.ext hW⟩
 have HTL : Hid ((thrC t BK.ins).length = t.length) := thrC_len _ _
 have HTO : Hid (RoOk (thrC t BK.ins)) := thrC_ok hok hi.num
 have HO := Lib.hid ho
 clear h hq hb hok hi ht ho
 obtain ⟨ai, ci, rfl, -⟩ := hvi
 generalize thrC t BK.ins = T at *
 generalize outsB BK = L at *
 obtain ⟨Bi, fin, ba, bto, bel⟩ := BK
 dsimp only at z0 z1 z2 z3 z4 HTH HOU
 have H1P : Hid (Below w.heap.size w w) := Below.refl _ _
 clear H1P
 obtain ⟨W1, hW1⟩ : ∃ W1, W1 = w.alloc (.cells #[.string nm, .bool p.void, .int .i64 p.params, .int .i64 p.regs, .slice ao p.objs.length co, .slice (some ⟨bb, bo, none⟩) p.blks.length cb] 31) := ⟨_, rfl⟩
 have H0 := Lib.hid (heap_of_alloc w _ _ hW1)
 have B1 : Hid (Below w.heap.size w W1) := by
  show Below _ _ _
  rw [hW1]; exact below_alloc w _
 have HW1 := Lib.hid hW1.symm
 clear hW1
 have lgt := (H.out.lt)
 have c0 := (B1.out.cell (p := ⟨gt, n, none⟩) lgt).trans tc0
 have lgt1 : gt < W1.heap.size := Nat.lt_of_lt_of_le lgt B1.out.size
 have HE1 : Hid (Ext w0 W1) := (Ext.below HBW.out).trans (Ext.below B1.out)
 have z0 := HE1.out _ _ z0
 have z1 := HE1.out _ _ z1
 have z2 := HE1.out _ _ z2
 have z3 := HE1.out _ _ z3
 have z4 := HE1.out _ _ z4
 have lbb : bb < W1.heap.size := World.block_lt_of_cell? _ _ z0
 obtain ⟨p0, p1, p2, p3, p4, p5, lp⟩ := cl6 H0.out
 have gn1 : decide (n < p.blks.length) = true := decide_eq_true hn
 have gn2 : decide ((n : Int) < (p.blks.length : Int)) = true := decide_eq_true (by omega)
 have gx1 : decide (n < X.length) = true := decide_eq_true hnX
 have gx2 : decide ((n : Int) < (X.length : Int)) = true := decide_eq_true (by omega)
 have HXL := Lib.hid hX
 clear hX tc0 lgt
 go_enter Tryd.func31, Tryd.ntmps31
 go_wp2_with fail
 rw [HW1.out]
 clear HW1
 refine wp_region_yard (fun _ => True) (by kernel_rfl) ?_
 refine Y_mobs [0, 1, 2, 3, 4, 5, 6, 7, 8] _ _ _ _ (by kernel_rfl) ?_
 simp only [List.map_cons, List.map_nil, List.getElem?_toArray, List.getElem?_cons_succ, List.getElem?_cons_zero, Option.getD_some, List.size_toArray, List.length_cons, List.length_nil, Nat.reduceAdd, Nat.reduceSub]
 repeat (go_big_quiet_step (fail))
 refine wpQuiet_nil ?_
 refine Y_loud1 9 _ rfl (by kernel_rfl) ?_
 simp only [List.getElem_toArray, List.getElem_cons_succ, List.getElem_cons_zero]
 intro wj hj
 have hth := HTH.out wj (B1.out.trans (hj.mono B1.out.size))
 go_wp2_with fail
 refine hth.mono ?_
 clear hth
 rintro e w2 ⟨gT, cT, rfl, hqT, hgT, hb2⟩
 go_wp2_with fail
 refine ⟨KeepY.below hb2, ?_⟩
 have B12 := hj.trans (hb2.mono hj.size)
 have HQT := Lib.hid hqT
 have HGT : Hid (w.heap.size ≤ gT) := Nat.le_trans (Nat.le_trans B1.out.size hj.size) hgT
 clear hqT hgT hj hb2
 refine Y_mobs [10] _ _ _ _ (by kernel_rfl) ?_
 simp only [List.map_cons, List.map_nil, List.getElem?_toArray, List.getElem?_cons_succ, List.getElem?_cons_zero, Option.getD_some, List.size_toArray, List.length_cons, List.length_nil, Nat.reduceAdd, Nat.reduceSub]
 repeat (go_big_quiet_step (fail))
 refine wpQuiet_nil ?_
 refine Y_done (by kernel_rfl) (fun wj hj => ?_) _
 have HQT := Lib.hid (HQT.out.below hj)
 have B12 := B12.trans (hj.mono B12.size)
 have H0 := Lib.hid ((B12.block _ lp).trans H0.out)
 have BW := Lib.hid (B1.out.trans (B12.mono B1.out.size))
 have z0 := (Ext.below B12) _ _ z0
 have z1 := (Ext.below B12) _ _ z1
 have z2 := (Ext.below B12) _ _ z2
 have z3 := (Ext.below B12) _ _ z3
 have z4 := (Ext.below B12) _ _ z4
 clear hj B12 p0 p1 p2 p3 p4 p5 lp c0 lbb lgt1 HTH B1
 have lbb : bb < wj.heap.size := World.block_lt_of_cell? _ _ z0
 obtain ⟨p0, p1, p2, p3, p4, p5, lp⟩ := cl6 H0.out
 go_wp2_with fail
 refine (HOU.out wj ((Ext.below HBW.out).trans (Ext.below BW.out))).mono ?_
 clear HOU
 rintro e w3 ⟨vL, rfl, hoL, hb3⟩
 obtain ⟨aL, cL, rfl⟩ := rowT_form hoL
 have HL0 := Lib.hid hoL
 have HQT := Lib.hid (HQT.out.below hb3)
 have H0 := Lib.hid ((hb3.block _ lp).trans H0.out)
 have BW := Lib.hid (BW.out.trans (hb3.mono BW.out.size))
 have HT0 : Hid (TbC w0.heap.size w3 gt ct rs (spC T (L.take 0) X).1 t.length) := H.out.below BW.out
 obtain ⟨aL1, cL1, eLn, hLn1, hLn, -⟩ := OwnI.rd HL0.out
 simp only [Value.slice.injEq] at eLn
 obtain ⟨rfl, -, rfl⟩ := eLn
 unfold maxLen at hLn
 clear hoL hb3 p0 p1 p2 p3 p4 p5 lp z0 z1 z2 z3 z4 lbb gn1 gn2 gx1 gx2
 go_wp2_with fail
 have hnilN := fun W => Lib.run_eql_slice_nil (P := Tryd.prog) W 50 54 none 0 0 0 0 Tryd.underlying50
 have HB3 : Hid (Below w0.heap.size w w3) := BW.out.mono HBW.out.size
 have HN0 : Hid (∀ j y, rs.getD j none = some y → y.1 ≠ gT) := fun j y hy => by
  have h1 := H.out.old j y hy
  have h2 := HGT.out
  omega
 have HLE : Hid (OwnI w3 0 (.slice aL L.length cL) L) := by
  obtain ⟨e1, e2⟩ := HL0.out
  rcases e2 with ⟨a, b⟩ | ⟨g', cap, cur, a, b, c⟩
  ·exact ⟨e1, .inl ⟨a, b⟩⟩
  ·exact ⟨e1, .inr ⟨g', cap, cur, a, Nat.zero_le _, c⟩⟩
 have HK0 : Hid (KI w w3) := KI.below BW.out
 clear HL0 H0 HQ BW H
 go_loopw [7, 28] (fun s i wr => ∃ (k : Nat) (rs' : Rs), k ≤ L.length ∧ i = .int .i64 (k : Int) ∧ s = .bool (spC T (L.take k) X).2 ∧ Hid (TbC w0.heap.size wr gt ct rs' (spC T (L.take k) X).1 t.length) ∧ Hid (RowQ wr gT cT T) ∧ Hid (∀ j y, rs'.getD j none = some y → y.1 ≠ gT) ∧ Hid (OwnI wr 0 (.slice aL L.length cL) L) ∧ Hid (Below w0.heap.size w wr) ∧ Hid (KI w wr)) (fun _ i _ => L.length - (intOf i).toNat)
 case atStart => exact ⟨0, rs, Nat.zero_le _, rfl, rfl, HT0, HQT, HN0, HLE, HB3, HK0⟩
 case round =>
  clear HT0 HQT HN0 HLE HB3 HK0
  obtain ⟨k, rs', hk, rfl, rfl, HT, HQT, HN, HLE, HBB, HKK⟩ := hrel
  by_cases hlt : k < L.length
  ·have g1 : decide (k < L.length) = true := decide_eq_true hlt
   have g2 : decide ((k : Int) < (L.length : Int)) = true := decide_eq_true (by omega)
   have hmem : L.getD k 0 ∈ L := by simp [List.getD, hlt]
   obtain ⟨q0, q1⟩ := HO.out _ hmem
   obtain ⟨aL', cL', eL, -, -, hcl⟩ := OwnI.rd HLE.out
   obtain ⟨bl, ol, hbl, hcell⟩ := hcl k hlt
   simp only [Value.slice.injEq] at eL
   obtain ⟨rfl, -, rfl⟩ := eL
   subst hbl
   simp only [Nat.mul_one, Nat.add_zero] at hcell
   have HS := Lib.hid (spC_take T L X k hlt)
   have HSL := Lib.hid (spC_len T L X k)
   generalize L.getD k 0 = Q at *
   obtain ⟨q, rfl⟩ := Int.eq_ofNat_of_zero_le q0
   have hqX : q < X.length := by omega
   have gq1 : decide (q < X.length) = true := decide_eq_true hqX
   have gq2 : decide ((q : Int) < (X.length : Int)) = true := decide_eq_true (by omega)
   generalize spC T (L.take k) X = S at *
   obtain ⟨Xk, Nk⟩ := S
   dsimp only at HT HSL
   clear hmem q0 q1 hcl
   by_cases e0 : q = 0
   ·have HE : Hid (spC1 T (Xk, Nk) (q : Int) = (Xk, Nk)) := by
     show _ = _
     unfold spC1; rw [if_pos (by omega)]
    subst e0
    go_wp2_with fail
    go_roundw
    case rel => exact ⟨k + 1, rs', hlt, by go_num, by rw [HS.out, HE.out], by rw [HS.out, HE.out]; exact HT, HQT, HN, HLE, HBB, HKK⟩
    case measure => simp [intOf]; omega
   ·have ge0 : ((q : Int) == 0) = false := beq_eq_false_iff_ne.2 (by omega)
    have hqk : q < Xk.length := by rw [HSL.out]; exact hqX
    obtain ⟨tc, tf⟩ := HT.out.cell hqk
    have hri := HT.out.row q hqk
    have lgt := HT.out.lt
    cases ho : Xk.getD q none with
    | none =>
     rw [ho] at hri
     have hrn : rs'.getD q none = none := by
      cases hr : rs'.getD q none with
      | none => rfl
      | some x => rw [hr] at hri; exact hri.elim
     rw [hrn] at tc
     unfold rowVC at tc
     dsimp only at tc
     have HE : Hid (spC1 T (Xk, Nk) (q : Int) = (Xk.set q (some T), true)) := by
      show _ = _
      unfold spC1
      rw [if_neg (by omega), Int.toNat_natCast, ho]
     have HCC := cloneC gT cT T wr HQT.out (by rw [HTL.out]; exact hR)
     rw [HTL.out] at HCC
     have HCC := Lib.hid HCC
     clear hri hrn ho
     go_wp2_with fail
     refine HCC.out.mono ?_
     clear HCC
     rintro e w5 ⟨g9, c9, rfl, hq9, hg9, hb5⟩
     have HT5 := Lib.hid (HT.out.below hb5)
     have tc5 := (hb5.cell (p := ⟨gt, q, none⟩) lgt).trans tc
     have tf5 : w5.frozen? ⟨gt, q, none⟩ = false := (hb5.frozen (p := ⟨gt, q, none⟩) lgt).trans tf
     have HP := Lib.hid (HT5.out.put (i := q) hqk (x := (g9, c9)) hq9 HTL.out HTO.out (by have := HBB.out.size; have := HT.out.gB; omega) (fun j y hy => by have := HT.out.old j y hy; omega))
     have hLE5 : OwnI w5 0 (.slice (some ⟨bl, ol, none⟩) L.length cL) L := own_below HLE.out hb5
     have HLE6 : Hid (OwnI (w5.setCell ⟨gt, q, none⟩ (rowVC t.length (some (g9, c9)))) 0 (.slice (some ⟨bl, ol, none⟩) L.length cL) L) := by
      obtain ⟨cur, hg⟩ := HT5.out.heap
      exact World.ownsRow.kept hLE5 (but_grownK (But.setCell gt q w5 _)) (.inr (ne_row hLE5 hg (by decide)))
     have HQT6 : Hid (RowQ (w5.setCell ⟨gt, q, none⟩ (rowVC t.length (some (g9, c9)))) gT cT T) := by
      obtain ⟨cur, hg⟩ := HT5.out.heap
      exact (HQT.out.below hb5).but (But.setCell gt q w5 _) ((HQT.out.below hb5).ne hg (by decide))
     have HB6 : Hid (Below w0.heap.size w (w5.setCell ⟨gt, q, none⟩ (rowVC t.length (some (g9, c9))))) := (HBB.out.trans (hb5.mono (by have := HBB.out.size; have := HBW.out.size; omega))).setCell (p := ⟨gt, q, none⟩) HT.out.gB _
     have HN6 : Hid (∀ j y, (rs'.set q (some (g9, c9))).getD j none = some y → y.1 ≠ gT) := fun j y hy => by
      by_cases ej : j = q
      ·subst ej
       have hlr := HT.out.len
       have : (rs'.set j (some (g9, c9))).getD j none = some (g9, c9) := by simp [List.getD, hlr, hqk]
       rw [this] at hy
       cases hy
       have := HQT.out.lt
       dsimp only
       omega
      ·have : (rs'.set q (some (g9, c9))).getD j none = rs'.getD j none := by simp [List.getD, List.getElem?_set, Ne.symm ej]
       rw [this] at hy
       exact HN.out j y hy
     have HK6 : Hid (KI w (w5.setCell ⟨gt, q, none⟩ (rowVC t.length (some (g9, c9))))) := by
      obtain ⟨cur, hg⟩ := HT5.out.heap
      exact HKK.out.trans ((KI.below hb5).trans (KI.but (But.setCell gt q w5 _) hg (by decide)))
     unfold rowVC at HP HLE6 HQT6 HB6 HK6
     dsimp only at HP HLE6 HQT6 HB6 HK6
     clear hq9 hb5 tc tf hLE5 HT5
     go_wp2_with fail
     go_roundw
     case rel => exact ⟨k + 1, _, hlt, by go_num, by rw [HS.out, HE.out], by rw [HS.out, HE.out]; exact HP, HQT6, HN6, HLE6, HB6, HK6⟩
     case measure => simp [intOf]; omega
    | some o =>
     rw [ho] at hri
     obtain ⟨g9, c9, hr9⟩ : ∃ g9 c9, rs'.getD q none = some (g9, c9) := by
      cases hr : rs'.getD q none with
      | none => rw [hr] at hri; exact hri.elim
      | some x => exact ⟨x.1, x.2, rfl⟩
     rw [hr9] at tc hri
     obtain ⟨hqo, hol, hook, hgo⟩ := hri
     dsimp only at hqo hgo
     unfold rowVC at tc
     dsimp only at tc
     have hnilS := fun W => Lib.run_eql_slice_nil (P := Tryd.prog) W 50 54 (some ⟨g9, 0, none⟩) t.length c9 0 0 Tryd.underlying50
     simp only [Option.isNone_some] at hnilS
     have HE : Hid (spC1 T (Xk, Nk) (q : Int) = (Xk.set q (some (meetC o T)), wentC o T o.length || Nk)) := by
      show _ = _
      unfold spC1
      rw [if_neg (by omega), Int.toNat_natCast, ho]
     have hne9 : g9 ≠ gT := HN.out q (g9, c9) hr9
     have HMM := meetC_c g9 c9 gT cT o T wr hqo HQT.out (by rw [HTL.out, hol]) (by rw [hol]; exact hR) hne9
     rw [hol] at HMM
     have HMM := Lib.hid HMM
     have HML : Hid ((meetC o T).length = t.length) := by show _ = _; rw [meetC_len, hol]
     have HMO : Hid (RoOk (meetC o T)) := meetC_ok hook
     have HR9 := Lib.hid hr9
     have HOL := Lib.hid hol
     have lg9 := hqo.lt
     obtain ⟨curE, hgE⟩ : ∃ cur, wr.heap[g9]? = some (.cells cur 54) := by
      obtain ⟨-, ⟨h2, -⟩ | ⟨g', cap, cur, h2, -, hg, -⟩⟩ := hqo
      ·simp at h2
      ·simp only [Value.slice.injEq, Option.some.injEq, Addr.mk.injEq, and_true, true_and] at h2
       obtain ⟨rfl, -⟩ := h2
       exact ⟨cur, hg⟩
     have HGE := Lib.hid hgE
     clear hqo hol hook ho hr9 hgE
     go_wp2_with fail
     refine HMM.out.mono ?_
     clear HMM
     rintro e w5 ⟨rfl, hq5, hb5⟩
     have HT6 := Lib.hid (HT.out.turn (i := q) hqk HR9.out hq5 HML.out HMO.out hb5)
     have HQT6 := Lib.hid (HQT.out.but hb5 (Ne.symm hne9))
     have HLE6 : Hid (OwnI w5 0 (.slice (some ⟨bl, ol, none⟩) L.length cL) L) := World.ownsRow.kept HLE.out (but_grownK hb5) (.inr (ne_row HLE.out HGE.out (by decide)))
     have HB6 : Hid (Below w0.heap.size w w5) := HBB.out.trans (hb5.toBelow hgo (by have := HBB.out.size; have := HBW.out.size; omega))
     have HK6 : Hid (KI w w5) := HKK.out.trans (KI.but hb5 HGE.out (by decide))
     clear hq5 hb5 tc tf
     generalize wentC o T o.length = WN at *
     cases WN <;> cases Nk
     all_goals
      go_wp2_with fail
      go_roundw
      case rel => exact ⟨k + 1, rs', hlt, by go_num, by rw [HS.out, HE.out]; rfl, by rw [HS.out, HE.out]; exact HT6, HQT6, HN, HLE6, HB6, HK6⟩
      case measure => simp [intOf]; omega
  ·obtain rfl : k = L.length := by omega
   rw [List.take_length] at HT ⊢
   go_wp2_with fail
   go_ret
   exact ⟨rfl, ⟨rs', HT.out⟩, HBB.out, HKK.out⟩
end Go.Proofs.YtkhfddodmjnecaaDoor
