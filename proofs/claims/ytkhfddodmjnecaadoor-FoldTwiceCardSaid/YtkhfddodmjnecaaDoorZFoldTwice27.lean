/-
 What registers have whenever a block begins (fold.rows).
-/
import Derived.Test.YtkhfddodmjnecaaDoorZFoldTwice26
import Derived.Test.YtkhfddodmjnecaaDoorZFoldTwice07
set_option linter.all false
namespace Go.Proofs.YtkhfddodmjnecaaDoor
open Go.ChangeShapes Go.WideShapes Go.ChangeAt Go.RowKit
set_option maxHeartbeats 4000000
set_option maxRecDepth 100000
set_option linter.unusedVariables false

theorem run_neqNo (w : World) : (binOp .neq 50 (.slice none 0 0) (.slice none 0 0)).run Tryd.prog w = .ok (.bool false) w := by
 simp only [binOp]
 simp [Op.equal, Op.maxDepth, Lib.run_equalIn_slice_nil w 9999 50 54 none 0 0 0 0 Tryd.underlying50]
theorem run_neqOne (g n c : Nat) (w : World) : (binOp .neq 50 (.slice (some ⟨g, 0, none⟩) n c) (.slice none 0 0)).run Tryd.prog w = .ok (.bool true) w := by
 simp only [binOp]
 simp [Op.equal, Op.maxDepth, Lib.run_equalIn_slice_nil w 9999 50 54 (some ⟨g, 0, none⟩) n c 0 0 Tryd.underlying50]
def fillC (R : Nat) (X : Tb) (k : Nat) : Tb := (List.range X.length).map fun i => if i < k then some ((X.getD i none).getD (roNo R)) else X.getD i none
theorem fillC_len (R : Nat) (X : Tb) (k : Nat) : (fillC R X k).length = X.length := by simp [fillC]
theorem fillC_at (R : Nat) (X : Tb) (k i : Nat) (h : i < X.length) : (fillC R X k).getD i none = if i < k then some ((X.getD i none).getD (roNo R)) else X.getD i none := by simp [fillC, List.getD, h]
theorem fillC_zero (R : Nat) (X : Tb) : fillC R X 0 = X := by
 refine List.ext_getElem (fillC_len R X 0) fun i h1 h2 => ?_
 have := fillC_at R X 0 i h2
 rw [if_neg (Nat.not_lt_zero _)] at this
 simpa [List.getD, h1, h2] using this
theorem fillC_some {R : Nat} {X : Tb} {k : Nat} {t : Ro} (h : k < X.length) (e : X.getD k none = some t) : fillC R X (k + 1) = fillC R X k := by
 unfold fillC
 refine List.map_congr_left fun i _ => ?_
 by_cases hi : i = k
 ·subst hi
  rw [if_pos (Nat.lt_succ_self _), if_neg (Nat.lt_irrefl _), e]; rfl
 ·by_cases h2 : i < k
  ·rw [if_pos (by omega), if_pos h2]
  ·rw [if_neg (by omega), if_neg h2]
theorem fillC_none {R : Nat} {X : Tb} {k : Nat} (h : k < X.length) (e : X.getD k none = none) : fillC R X (k + 1) = (fillC R X k).set k (some (roNo R)) := by
 refine List.ext_getElem (by simp [fillC]) fun i h1 h2 => ?_
 rw [fillC_len] at h1
 rw [List.getElem_set]
 have a1 := fillC_at R X (k + 1) i h1
 have a2 := fillC_at R X k i h1
 simp only [List.getD, List.getElem?_eq_getElem (show i < (fillC R X (k + 1)).length by rw [fillC_len]; exact h1), List.getElem?_eq_getElem (show i < (fillC R X k).length by rw [fillC_len]; exact h1), Option.getD_some] at a1 a2
 by_cases hi : k = i
 ·subst hi
  rw [if_pos rfl, a1, if_pos (Nat.lt_succ_self _)]
  have : X[k]?.getD none = none := e
  rw [this]; rfl
 ·rw [if_neg hi, a1, a2]
  by_cases h2 : i < k
  ·rw [if_pos (by omega), if_pos h2]
  ·rw [if_neg (by omega), if_neg h2]
theorem RowIs.base {w : World} {B B' R : Nat} (hb : B' ≤ B) : ∀ {r : Option (Nat × Nat)} {o : Option Ro}, RowIs w B R r o → RowIs w B' R r o
 | none, none, _ => True.intro
 | some _, some _, ⟨h1, h2, h3, h4⟩ => ⟨h1, h2, h3, Nat.le_trans hb h4⟩
 | none, some _, h => h.elim
 | some _, none, h => h.elim
theorem TbC.base {B B' gt ct R : Nat} {w : World} {rs : Rs} {X : Tb} (h : TbC B w gt ct rs X R) (hb : B' ≤ B) : TbC B' w gt ct rs X R := ⟨h.len, h.tab, fun i hi => (h.row i hi).base hb, h.inj, Nat.le_trans hb h.gB⟩
theorem TbC.isNo {B gt ct R : Nat} {w : World} {rs : Rs} {X : Tb} (h : TbC B w gt ct rs X R) {i : Nat} (hi : i < X.length) (e : X.getD i none = none) : rs.getD i none = none := by
 have := h.row i hi
 rw [e] at this
 cases hr : rs.getD i none with
 | none => rfl
 | some x => rw [hr] at this; exact this.elim
theorem TbC.isOne {B gt ct R : Nat} {w : World} {rs : Rs} {X : Tb} (h : TbC B w gt ct rs X R) {i : Nat} (hi : i < X.length) {t : Ro} (e : X.getD i none = some t) : ∃ g c, rs.getD i none = some (g, c) := by
 have := h.row i hi
 rw [e] at this
 cases hr : rs.getD i none with
 | none => rw [hr] at this; exact this.elim
 | some x => exact ⟨x.1, x.2, rfl⟩
theorem TbC.rl {B gt ct R : Nat} {w : World} {rs : Rs} {X : Tb} (h : TbC B w gt ct rs X R) {i : Nat} {t : Ro} (e : X.getD i none = some t) : t.length = R := by
 by_cases hi : i < X.length
 ·obtain ⟨g, c, hr⟩ := h.isOne hi e
  have := h.row i hi
  rw [hr, e] at this
  exact this.2.1
 ·have : X[i]? = none := List.getElem?_eq_none (by omega)
  rw [List.getD_eq_getElem?_getD, this] at e
  cases e
/-- a row just made is put into the table -/
theorem TbC.lay {B gt ct R : Nat} {w : World} {rs : Rs} {X : Tb} (h : TbC B w gt ct rs X R) {k : Nat} (hk : k < X.length) (hR : R ≤ 1000) (hB : B ≤ w.heap.size) : TbC B ((w.setCell ⟨gt, k, none⟩ (.slice (some ⟨w.heap.size, 0, none⟩) R R)).alloc (.cells (madeCells #[.bool false, .int .u32 0] (R * 2)) 54)) gt ct (rs.set k (some (w.heap.size, R))) (X.set k (some (roNo R))) R ∧ Below B w ((w.setCell ⟨gt, k, none⟩ (.slice (some ⟨w.heap.size, 0, none⟩) R R)).alloc (.cells (madeCells #[.bool false, .int .u32 0] (R * 2)) 54)) := by
 have lgt := h.lt
 have hW6 : ((w.setCell ⟨gt, k, none⟩ (.slice (some ⟨w.heap.size, 0, none⟩) R R)).alloc (.cells (madeCells #[.bool false, .int .u32 0] (R * 2)) 54)) = (w.alloc (.cells (madeCells #[.bool false, .int .u32 0] (R * 2)) 54)).setCell ⟨gt, k, none⟩ (rowVC R (some (w.heap.size, R))) := (World.setCell_alloc_past _ _ _ _ lgt).symm
 have ha3 : Below w.heap.size w (w.alloc (.cells (madeCells #[.bool false, .int .u32 0] (R * 2)) 54)) := below_alloc _ _
 rw [hW6]
 exact ⟨(h.below ha3).put (i := k) hk (x := (w.heap.size, R)) (RowQ.made w R (by omega)) (roNo_len R) (roNo_ok R) (by dsimp only; omega) (fun j y hy => by have := h.old j y hy; dsimp only; omega), (ha3.mono hB).setCell (p := ⟨gt, k, none⟩) h.gB _⟩
def X0C (n R : Nat) : Tb := (tbNo n).set 0 (some (roNo R))
/-- what rows leaves -/
def RowsQ (p : Pr) (R : Nat) (w : World) (e : Ending) (w' : World) : Prop := ∃ (gt ct : Nat) (rs : Rs) (X : Tb), e = .returned (.slice (some ⟨gt, 0, none⟩) p.blks.length ct) ∧ X.length = p.blks.length ∧ RunC p (wkD p).ord.reverse (X0C p.blks.length R) X ∧ (∀ n : Nat, (n : Int) ∈ (wkD p).ord.reverse → StillC p X n) ∧ TbC w.heap.size w' gt ct rs (fillC R X p.blks.length) R ∧ Below w.heap.size w w'
theorem rows_c (p : Pr) (V : Value) (w : World) (R : Nat) (hP : PrV w V p) (hR : p.regs = (R : Int)) (hRb : R ≤ 1000) (h0 : 0 < p.blks.length) (hn : p.blks.length ≤ 1000) (hod : 0 < (wkD p).ord.length)
  (hi : ∀ n, n < p.blks.length → InsC R (p.blks.getD n default).ins ∧ (p.blks.getD n default).ins.length ≤ 100000) (ho : ∀ n, n < p.blks.length → ∀ q ∈ outsB (p.blks.getD n default), 0 ≤ q ∧ q < (p.blks.length : Int)) :
  Calls Tryd.prog 14 #[V] w (RowsQ p R w) := by
 have HOD : Hid (∀ W, Ext w W → Calls Tryd.prog 30 #[V] W (RetI W (wkD p).ord.reverse)) := fun W hW => order_c p V W (hP.ext hW) (by omega)
 have HPV := Lib.hid hP
 obtain ⟨nm, vo, vb, rfl, hvo, hvb⟩ := hP
 obtain ⟨ao, co, rfl, -⟩ := hvo
 obtain ⟨ab, cb, rfl, -, b2, -⟩ := hvb
 unfold maxLen at b2
 have hWD := wkD_ord p
 have HBK : Hid (∀ x ∈ (wkD p).ord.reverse, 0 ≤ x ∧ x < (p.blks.length : Int)) := fun x hx => hWD x (List.mem_reverse.1 hx)
 have hol : (wkD p).ord.length ≤ 10000000 := by have := wkD_len p (by omega); omega
 have HIN := Lib.hid hi
 have HOU := Lib.hid ho
 have hol2 : (wkD p).ord.reverse.length = (wkD p).ord.length := List.length_reverse
 clear hi ho hWD
 unfold RowsQ
 rw [hR] at HPV HOD ⊢
 generalize (wkD p).ord.reverse = od at *
 generalize (wkD p).ord.length = ol at *
 subst hol2
 obtain ⟨W1, hW1⟩ : ∃ W1, W1 = w.alloc (.cells #[.string nm, .bool p.void, .int .i64 p.params, .int .i64 R, .slice ao p.objs.length co, .slice ab p.blks.length cb] 31) := ⟨_, rfl⟩
 have H0 := Lib.hid (heap_of_alloc w _ _ hW1)
 have B1 : Hid (Below w.heap.size w W1) := by
  show Below _ _ _
  rw [hW1]; exact below_alloc w _
 have s1 : W1.heap.size = w.heap.size + 1 := by rw [hW1]; simp
 have HW1 := Lib.hid hW1.symm
 clear hW1
 obtain ⟨p0, p1, p2, p3, p4, p5, lp⟩ := cl6 H0.out
 have hmk := run_rows p.blks.length (by omega)
 go_enter Tryd.func14, Tryd.ntmps14
 go_wp2_with fail
 rw [HW1.out]
 clear HW1 hmk
 obtain ⟨W2, hW2⟩ : ∃ W2, W2 = W1.alloc (.cells (madeCells #[.slice none 0 0] p.blks.length) 50) := ⟨_, rfl⟩
 have HT1 : Hid (TbC (w.heap.size + 1) W2 (w.heap.size + 1) p.blks.length (List.replicate p.blks.length none) (tbNo p.blks.length) R) := by
  have := TbC.made W1 p.blks.length (w.heap.size + 1) R (by omega) (by omega)
  rw [Nat.mul_one, s1] at this
  rw [hW2]
  exact this
 have B2 : Hid (Below (w.heap.size + 1) W1 W2) := by
  show Below _ _ _
  rw [hW2, ← s1]; exact below_alloc W1 _
 rw [← hW2]
 clear hW2
 refine (HOD.out W2 ((Ext.below B1.out).trans (Ext.below (by rw [s1]; exact B2.out)))).mono ?_
 clear HOD
 rintro e w2 ⟨vO, rfl, hoO, hb2⟩
 have hgt2 : w.heap.size + 1 < W2.heap.size := HT1.out.lt
 obtain ⟨aO, cO, rfl⟩ := rowT_form hoO
 have HO0 : Hid (OwnI w2 0 (.slice aO od.length cO) od) := by
  obtain ⟨e1, e2⟩ := hoO
  rcases e2 with ⟨a, b⟩ | ⟨g', cap, cur, a, b, c⟩
  ·exact ⟨e1, .inl ⟨a, b⟩⟩
  ·exact ⟨e1, .inr ⟨g', cap, cur, a, Nat.zero_le _, c⟩⟩
 have HT2 := Lib.hid (HT1.out.below hb2)
 have B3 : Hid (Below (w.heap.size + 1) W1 w2) := B2.out.trans (hb2.mono (by omega))
 clear hoO hb2 HT1 B2 hgt2
 have HB0 : Hid (∀ W, Below (w.heap.size + 1) W1 W → W.heap[w.heap.size]? = some (.cells #[.string nm, .bool p.void, .int .i64 p.params, .int .i64 R, .slice ao p.objs.length co, .slice ab p.blks.length cb] 31)) := fun W hW => (hW.block _ (by omega)).trans H0.out
 clear p0 p1 p2 p3 p4 p5 lp
 obtain ⟨p0, p1, p2, p3, p4, p5, lp⟩ := cl6 (HB0.out w2 B3.out)
 have g1 : decide (0 < od.length) = true := decide_eq_true hod
 have g2 : decide ((od.length : Int) > 0) = true := decide_eq_true (by omega)
 have g3 : decide (0 < (od.length : Int)) = true := decide_eq_true (by omega)
 have gq : decide ((R : Int) ≤ 2000000 / (p.blks.length : Int)) = true := decide_eq_true (Int.le_trans (show (R : Int) ≤ 1000 by omega) (Int.le_ediv_of_mul_le (by omega) (by omega)))
 go_wp2_with fail
 go_quiet (fail)
 obtain ⟨W3, hW3⟩ : ∃ W3, W3 = w2.drewN nq := ⟨_, rfl⟩
 have hd3 : Below w2.heap.size w2 W3 := by rw [hW3]; exact ⟨rfl, rfl, rfl, Nat.le_refl _, fun _ _ => rfl⟩
 rw [← hW3]
 clear hW3
 have HT3 := Lib.hid (HT2.out.below hd3)
 have B4 : Hid (Below (w.heap.size + 1) W1 W3) := B3.out.trans (hd3.mono (by have := HT2.out.lt; omega))
 have HO3 : Hid (OwnI W3 0 (.slice aO od.length cO) od) := own_below HO0.out hd3
 clear hd3 HT2 B3 HO0 p0 p1 p2 p3 p4 p5 lp gq
 obtain ⟨p0, p1, p2, p3, p4, p5, lp⟩ := cl6 (HB0.out W3 B4.out)
 obtain ⟨tc, tf⟩ := HT3.out.cell (i := 0) (by rw [tbNo_len]; exact h0)
 have lgt := HT3.out.lt
 have hrz : (List.replicate p.blks.length (none : Option (Nat × Nat))).getD 0 none = none := by simp only [List.getD, List.getElem?_replicate]; split <;> rfl
 rw [hrz] at tc
 unfold rowVC at tc
 dsimp only at tc
 have hmk2 := run_row R (by omega)
 have gn1 : decide (0 < p.blks.length) = true := decide_eq_true h0
 have gn2 : decide ((0 : Int) < (p.blks.length : Int)) = true := decide_eq_true (by omega)
 go_wp2_with fail
 obtain ⟨W5, hW5⟩ : ∃ W5, W5 = ((W3.setCell ⟨w.heap.size + 1, 0, none⟩ (.slice (some ⟨W3.heap.size, 0, none⟩) R R)).alloc (.cells (madeCells #[.bool false, .int .u32 0] (R * 2)) 54)) := ⟨_, rfl⟩
 have hW6 : W5 = (W3.alloc (.cells (madeCells #[.bool false, .int .u32 0] (R * 2)) 54)).setCell ⟨w.heap.size + 1, 0, none⟩ (rowVC R (some (W3.heap.size, R))) := by rw [hW5]; exact (World.setCell_alloc_past _ _ _ _ lgt).symm
 have ha3 : Below W3.heap.size W3 (W3.alloc (.cells (madeCells #[.bool false, .int .u32 0] (R * 2)) 54)) := below_alloc _ _
 have HT5 : Hid (TbC (w.heap.size + 1) W5 (w.heap.size + 1) p.blks.length ((List.replicate p.blks.length none).set 0 (some (W3.heap.size, R))) (X0C p.blks.length R) R) := by
  show TbC _ _ _ _ _ _ _
  rw [hW6]
  exact (HT3.out.below ha3).put (i := 0) (by rw [tbNo_len]; exact h0) (x := (W3.heap.size, R)) (RowQ.made W3 R (by omega)) (roNo_len R) (roNo_ok R) (by dsimp only; omega) (fun j y hy => by
   have : (List.replicate p.blks.length (none : Option (Nat × Nat))).getD j none = none := by simp only [List.getD, List.getElem?_replicate]; split <;> rfl
   rw [this] at hy; cases hy)
 have B5 : Hid (Below (w.heap.size + 1) W1 W5) := by
  show Below _ _ _
  rw [hW6]
  exact (B4.out.trans (ha3.mono (by omega))).setCell (p := ⟨w.heap.size + 1, 0, none⟩) (Nat.le_refl _) _
 have HO5 : Hid (OwnI W5 0 (.slice aO od.length cO) od) := by
  show OwnI _ _ _ _
  rw [hW6]
  obtain ⟨cur, hg⟩ := (HT3.out.below ha3).heap
  exact KI.but (But.setCell (w.heap.size + 1) 0 _ _) hg (by decide) _ _ (own_below HO3.out ha3)
 rw [← hW5]
 clear hW5 hW6 ha3 HT3 HO3 B4 p0 p1 p2 p3 p4 p5 lp tc tf lgt hrz hmk2 gn1 gn2
 go_loopg [5] (2 * muC R (X0C p.blks.length R) + 1) (fun m b wr => ∃ (X : Tb) (rs : Rs) (g : Bool), b = .bool g ∧ X.length = p.blks.length ∧ Hid (m = 2 * muC R X + (if g then 1 else 0)) ∧ Hid (TbC (w.heap.size + 1) wr (w.heap.size + 1) p.blks.length rs X R) ∧ Hid (RunC p od (X0C p.blks.length R) X) ∧ Hid (g = false → ∀ n : Nat, (n : Int) ∈ od → StillC p X n) ∧ Hid (OwnI wr 0 (.slice aO od.length cO) od) ∧ Hid (Below (w.heap.size + 1) W1 wr))
 case atStart => exact ⟨X0C p.blks.length R, _, true, rfl, by simp [X0C, tbNo], rfl, HT5, RunC.start, (fun h => by cases h), HO5, B5⟩
 case round =>
  clear HT5 B5 HO5
  obtain ⟨X, rs, g, rfl, hX, Hm, HT, HRu, HSt, HO, HB⟩ := hrel
  cases g
  ·have HSS := Lib.hid (HSt.out rfl)
   clear HSt
   clear HO
   go_wp2_with fail
   have HF0 : Hid (TbC (w.heap.size + 1) wr (w.heap.size + 1) p.blks.length rs (fillC R X 0) R) := by
    rw [fillC_zero]; exact HT.out
   have hnilN := fun W => Lib.run_eql_slice_nil (P := Tryd.prog) W 50 54 none 0 0 0 0 Tryd.underlying50
   clear HT
   go_loopw [54] (fun i wr2 => ∃ (k : Nat) (rs2 : Rs), k ≤ p.blks.length ∧ i = .int .i64 (k : Int) ∧ Hid (TbC (w.heap.size + 1) wr2 (w.heap.size + 1) p.blks.length rs2 (fillC R X k) R) ∧ Hid (Below (w.heap.size + 1) W1 wr2)) (fun i _ => p.blks.length - (intOf i).toNat)
   case atStart => exact ⟨0, rs, Nat.zero_le _, rfl, HF0, HB⟩
   case round =>
    clear HF0 HB
    obtain ⟨k, rs2, hk, rfl, HF, HB⟩ := hrel
    by_cases hlt : k < p.blks.length
    ·have g1 : decide (k < p.blks.length) = true := decide_eq_true hlt
     have g2 : decide ((k : Int) < (p.blks.length : Int)) = true := decide_eq_true (by omega)
     have hkX : k < X.length := by omega
     have hkF : k < (fillC R X k).length := by rw [fillC_len]; exact hkX
     have hfa := fillC_at R X k k hkX
     rw [if_neg (Nat.lt_irrefl _)] at hfa
     obtain ⟨tc, tf⟩ := HF.out.cell hkF
     have lgt := HF.out.lt
     obtain ⟨p0, p1, p2, p3, p4, p5, lp⟩ := cl6 (HB0.out wr HB.out)
     cases ho : X.getD k none with
     | none =>
      have hrn := HF.out.isNo hkF (hfa.trans ho)
      rw [hrn] at tc
      unfold rowVC at tc
      dsimp only at tc
      have hst := fillC_none (R := R) hkX ho
      have HST := Lib.hid hst
      have hmk2 := run_row R (by omega)
      obtain ⟨hl1, hl2⟩ := HF.out.lay hkF hRb (by omega)
      have HL1 := Lib.hid hl1
      have HL2 := Lib.hid hl2
      rw [← HST.out] at HL1
      clear hst hrn ho hfa hl1 hl2
      go_wp2_with fail
      go_roundw
      case rel => exact ⟨k + 1, _, hlt, by go_num, HL1, HB.out.trans HL2.out⟩
      case measure => simp [intOf]; omega
     | some t =>
      obtain ⟨g9, c9, hrn⟩ := HF.out.isOne hkF (hfa.trans ho)
      rw [hrn] at tc
      unfold rowVC at tc
      dsimp only at tc
      have hnilS := fun W => Lib.run_eql_slice_nil (P := Tryd.prog) W 50 54 (some ⟨g9, 0, none⟩) R c9 0 0 Tryd.underlying50
      simp only [Option.isNone_some] at hnilS
      have HST := Lib.hid (fillC_some (R := R) hkX ho)
      clear hrn ho hfa
      go_wp2_with fail
      go_roundw
      case rel => exact ⟨k + 1, _, hlt, by go_num, by rw [HST.out]; exact HF, HB⟩
      case measure => simp [intOf]; omega
    ·obtain rfl : k = p.blks.length := by omega
     go_wp2_with fail
     go_ret
     exact ⟨w.heap.size + 1, p.blks.length, rs2, X, rfl, hX, HRu.out, HSS.out, HF.out.base (by omega), B1.out.trans (HB.out.mono (by omega))⟩
  ·clear HSt
   obtain ⟨aO', cO', eO, -, hO2, hcO⟩ := OwnI.rd HO.out
   simp only [Value.slice.injEq] at eO
   obtain ⟨rfl, -, rfl⟩ := eO
   unfold maxLen at hO2
   clear hcO
   go_wp2_with fail
   go_loopw [5, 35] (fun b i wr2 => ∃ (k : Nat) (X2 : Tb) (rs2 : Rs) (g : Bool), k ≤ od.length ∧ i = .int .i64 (k : Int) ∧ b = .bool g ∧ X2.length = p.blks.length ∧ Hid (g = true → muC R X2 < muC R X) ∧ Hid (g = false → X2 = X ∧ ∀ n : Nat, (n : Int) ∈ od.take k → StillC p X n) ∧ Hid (TbC (w.heap.size + 1) wr2 (w.heap.size + 1) p.blks.length rs2 X2 R) ∧ Hid (RunC p od (X0C p.blks.length R) X2) ∧ Hid (OwnI wr2 0 (.slice aO od.length cO) od) ∧ Hid (Below (w.heap.size + 1) W1 wr2)) (fun _ i _ => od.length - (intOf i).toNat)
   case atStart => exact ⟨0, X, rs, false, Nat.zero_le _, rfl, rfl, hX, (fun h => by cases h), (fun _ => ⟨rfl, fun n hn => by simp at hn⟩), HT, HRu, HO, HB⟩
   case round =>
    clear HT HRu HO HB
    obtain ⟨k, X2, rs2, g, hk, rfl, rfl, hX2, HM1, HM2, HT, HRu, HO, HB⟩ := hrel
    by_cases hlt : k < od.length
    ·have g1 : decide (k < od.length) = true := decide_eq_true hlt
     have g2 : decide ((k : Int) < (od.length : Int)) = true := decide_eq_true (by omega)
     have hmem : od.getD k 0 ∈ od := by simp [List.getD, hlt]
     obtain ⟨q0, q1⟩ := HBK.out _ hmem
     obtain ⟨aO', cO', eO, -, -, hcl⟩ := OwnI.rd HO.out
     obtain ⟨bl, ol, hbl, hcell⟩ := hcl k hlt
     simp only [Value.slice.injEq] at eO
     obtain ⟨rfl, -, rfl⟩ := eO
     subst hbl
     simp only [Nat.mul_one, Nat.add_zero] at hcell
     have HTK : Hid (od.take (k + 1) = od.take k ++ [od.getD k 0]) := by
      show _ = _
      rw [List.take_succ, List.getElem?_eq_getElem hlt]; simp [List.getD, hlt]
     generalize od.getD k 0 = Q at *
     obtain ⟨q, rfl⟩ := Int.eq_ofNat_of_zero_le q0
     have hq : q < p.blks.length := by omega
     have gq1 : decide (q < p.blks.length) = true := decide_eq_true hq
     have gq2 : decide ((q : Int) < (p.blks.length : Int)) = true := decide_eq_true (by omega)
     have hqX : q < X2.length := by omega
     obtain ⟨tc, tf⟩ := HT.out.cell hqX
     have lgt := HT.out.lt
     obtain ⟨p0, p1, p2, p3, p4, p5, lp⟩ := cl6 (HB0.out wr HB.out)
     have HMEM := Lib.hid hmem
     clear hcl q0 q1 hmem
     cases ho : X2.getD q none with
     | none =>
      have hrn := HT.out.isNo hqX ho
      rw [hrn] at tc
      unfold rowVC at tc
      dsimp only at tc
      have HOX := Lib.hid ho
      have hnilN := run_neqNo
      clear hrn ho
      go_wp2_with fail
      go_roundw
      case rel =>
       refine ⟨k + 1, X2, rs2, g, hlt, by go_num, rfl, hX2, HM1, fun h => ?_, HT, HRu, HO, HB⟩
       obtain ⟨e1, e2⟩ := HM2.out h
       refine ⟨e1, fun n hn => ?_⟩
       rw [HTK.out, List.mem_append] at hn
       rcases hn with hn | hn
       ·exact e2 n hn
       ·obtain rfl : n = q := by have := List.mem_singleton.1 hn; omega
        intro t ht
        rw [← e1, HOX.out] at ht
        cases ht
      case measure => simp [intOf]; omega
     | some t =>
      obtain ⟨g9, c9, hrn⟩ := HT.out.isOne hqX ho
      have hri := HT.out.row q hqX
      rw [hrn, ho] at hri
      have htl : t.length = R := hri.2.1
      rw [hrn] at tc
      unfold rowVC at tc
      dsimp only at tc
      have HSP := spreadC_c W1 (w.heap.size + 1) p.blks.length R q rs2 X2 p _ t wr (HPV.out.ext (Ext.below B1.out)) (by rw [s1]; exact HB.out) (by rw [s1]; exact HT.out) hq hX2 ho (HIN.out q hq).1 (HIN.out q hq).2 (by omega) (by rw [hX2]; exact HOU.out q hq)
      rw [hX2, s1] at HSP
      have HSP := Lib.hid HSP
      have F1 : Hid (RunC p od (X0C p.blks.length R) (spC (thrC t (p.blks.getD q default).ins) (outsB (p.blks.getD q default)) X2).1) := RunC.step X2 q t HRu.out HMEM.out ho
      have F2 := (spC_mu R (thrC t (p.blks.getD q default).ins) (outsB (p.blks.getD q default)) X2 (by rw [hX2]; exact HOU.out q hq) (by rw [thrC_len]; exact htl) (fun i u hu => HT.out.rl hu) (outsB (p.blks.getD q default)).length).1
      have F4 := spC_len (thrC t (p.blks.getD q default).ins) (outsB (p.blks.getD q default)) X2 (outsB (p.blks.getD q default)).length
      rw [List.take_length] at F2 F4
      have F3 : Hid (spC (thrC t (p.blks.getD q default).ins) (outsB (p.blks.getD q default)) X2 = (X2, false) → StillC p X2 q) := fun h u hu => by
       rw [ho] at hu
       cases hu
       exact h
      have F2 := Lib.hid F2
      have F4 := Lib.hid (F4.trans hX2)
      generalize spC (thrC t (p.blks.getD q default).ins) (outsB (p.blks.getD q default)) X2 = SS at *
      obtain ⟨X5, nb⟩ := SS
      dsimp only at F1 F2 F4
      have hnilS := run_neqOne g9 R c9
      clear hrn ho hri htl
      go_wp2_with fail
      refine HSP.out.mono ?_
      clear HSP
      rintro e w5 ⟨rfl, ⟨rs5, hT5⟩, hb5, hk5⟩
      dsimp only at hT5
      have HT5 := Lib.hid hT5
      have B5 : Hid (Below (w.heap.size + 1) W1 w5) := HB.out.trans hb5
      have HO5 := Lib.hid (hk5 _ _ HO.out)
      clear hT5 hb5 hk5 tc tf hcell p0 p1 p2 p3 p4 p5 lp
      have HQ : Hid (((nb || g) = true → muC R X5 < muC R X) ∧ ((nb || g) = false → X5 = X ∧ ∀ n : Nat, (n : Int) ∈ od.take (k + 1) → StillC p X n)) := by
       constructor
       ·intro h
        rcases F2.out with e | ⟨e, e2⟩
        ·cases e
         rw [Bool.false_or] at h
         exact HM1.out h
        ·cases g with
         | true => exact Nat.lt_trans e2 (HM1.out rfl)
         | false =>
          have := (HM2.out rfl).1
          rw [this] at e2
          exact e2
       ·intro h
        rw [Bool.or_eq_false_iff] at h
        obtain ⟨rfl, rfl⟩ := h
        obtain ⟨e1, e2⟩ := HM2.out rfl
        rcases F2.out with e | ⟨e, -⟩
        ·have h3 := F3.out e
         cases e
         refine ⟨e1, fun n hn => ?_⟩
         rw [HTK.out, List.mem_append] at hn
         rcases hn with hn | hn
         ·exact e2 n hn
         ·obtain rfl : n = q := by have := List.mem_singleton.1 hn; omega
          rw [← e1]; exact h3
        ·cases e
      clear F2 F3 HM1 HM2
      cases nb <;> cases g
      all_goals
       go_wp2_with fail
       go_roundw
       case rel => exact ⟨k + 1, X5, rs5, _, hlt, by go_num, rfl, F4.out, HQ.out.1, HQ.out.2, HT5, F1, HO5, B5⟩
       case measure => simp [intOf]; omega
    ·obtain rfl : k = od.length := by omega
     go_wp2_with fail
     go_roundg (2 * muC R X2 + (if g then 1 else 0))
     case rel =>
      refine ⟨X2, rs2, g, rfl, hX2, rfl, HT, HRu, fun h n hn => ?_, HO, HB⟩
      obtain ⟨e1, e2⟩ := HM2.out h
      rw [List.take_length] at e2
      rw [e1]
      exact e2 n hn
     case measure =>
      rw [Hm.out]
      cases g with
      | true => have := HM1.out rfl; simp; omega
      | false => have := (HM2.out rfl).1; rw [this]; simp
end Go.Proofs.YtkhfddodmjnecaaDoor
