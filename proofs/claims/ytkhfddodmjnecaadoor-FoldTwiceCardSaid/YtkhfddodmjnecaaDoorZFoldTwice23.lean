/-
 The row behind an instruction (fold.behind).; A row's copy; the row behind a block (fold.through); what two rows both have (fold.meet).
-/
import Derived.Test.YtkhfddodmjnecaaDoorZFoldTwice22
import Derived.Laws.AppendOwnNone

set_option linter.all false
namespace Go.Proofs.YtkhfddodmjnecaaDoor
open Go.ChangeShapes Go.WideShapes Go.ChangeAt Go.RowKit
set_option maxHeartbeats 4000000
set_option maxRecDepth 100000
set_option linter.unusedVariables false

theorem flat_set2 : ∀ (t : Ro) (d : Nat) (o : Option Int), d < t.length → ((t.flatMap cellC).set (d * 2) (.bool o.isSome)).set (d * 2 + 1) (.int .u32 (o.getD 0)) = (t.set d o).flatMap cellC
 | [], _, _, h => absurd h (Nat.not_lt_zero _)
 | a :: t, 0, o, _ => by simp [cellC]
 | a :: t, d + 1, o, h => by
  have ih := flat_set2 t d o (by simpa using h)
  have e1 : (d + 1) * 2 = d * 2 + 1 + 1 := by omega
  simp only [List.flatMap_cons, List.set_cons_succ, e1, cellC, List.cons_append, List.nil_append]
  rw [← ih]
theorem flat_set4 (t : Ro) (d : Nat) (S : Bool) (X : Int) (h : d < t.length) (hs : S = false) : ((((t.flatMap cellC).set (d * 2) (.bool S)).set (d * 2 + 1) (.int .u32 X)).set (d * 2) (.bool false)).set (d * 2 + 1) (.int .u32 0) = (t.set d none).flatMap cellC := by
 have e : ((((t.flatMap cellC).set (d * 2) (.bool S)).set (d * 2 + 1) (.int .u32 X)).set (d * 2) (.bool false)).set (d * 2 + 1) (.int .u32 0) = ((t.flatMap cellC).set (d * 2) (.bool false)).set (d * 2 + 1) (.int .u32 0) := by
  rw [List.set_comm (Value.int .u32 X) (Value.bool false) (show d * 2 + 1 ≠ d * 2 by omega), List.set_set, List.set_set]
 rw [e]
 exact flat_set2 t d none h
/-- a cell of a row is written -/
theorem RowQ.set2 {w : World} {g c : Nat} {t : Ro} (h : RowQ w g c t) {d : Nat} (hd : d < t.length) (o : Option Int) : RowQ ((w.setCell ⟨g, d * 2, none⟩ (.bool o.isSome)).setCell ⟨g, d * 2 + 1, none⟩ (.int .u32 (o.getD 0))) g c (t.set d o) := by
 have h1 := (World.ownsRow.stored h (d * 2) (.bool o.isSome)).1
 have h2 := (World.ownsRow.stored h1 (d * 2 + 1) (.int .u32 (o.getD 0))).1
 rw [flat_set2 t d o hd] at h2
 unfold RowQ
 rw [List.length_set]
 exact h2
theorem RowQ.set4 {w : World} {g c : Nat} {t : Ro} (h : RowQ w g c t) {d : Nat} (hd : d < t.length) (X : Int) : RowQ ((((w.setCell ⟨g, d * 2, none⟩ (.bool false)).setCell ⟨g, d * 2 + 1, none⟩ (.int .u32 X)).setCell ⟨g, d * 2, none⟩ (.bool false)).setCell ⟨g, d * 2 + 1, none⟩ (.int .u32 0)) g c (t.set d none) := by
 have h1 := (World.ownsRow.stored h (d * 2) (.bool false)).1
 have h2 := (World.ownsRow.stored h1 (d * 2 + 1) (.int .u32 X)).1
 have h3 := (World.ownsRow.stored h2 (d * 2) (.bool false)).1
 have h4 := (World.ownsRow.stored h3 (d * 2 + 1) (.int .u32 0)).1
 rw [flat_set4 t d false X hd rfl] at h4
 unfold RowQ
 rw [List.length_set]
 exact h4
theorem RowQ.but {w w' : World} {g g' c : Nat} {t : Ro} (h : RowQ w g c t) (hb : But g' w w') (hg : g ≠ g') : RowQ w' g c t := World.ownsRow.kept h (but_grownK hb) (.inr (by simp only [Value.ownBlock]; intro e; exact hg (Option.some.inj e)))
/-- what behind leaves -/
def BehQ (g c : Nat) (t' : Ro) (w : World) (e : Ending) (w' : World) : Prop := e = .returned (.tuple #[]) ∧ RowQ w' g c t' ∧ But g w w'
theorem behind_c (g c : Nat) (t : Ro) (i : In) (va : Value) (w : World) (h : RowQ w g c t) (ht : RoOk t) (hv : RdI w va i.args) (hd : defI i ≠ -1 → 0 ≤ defI i ∧ defI i < (t.length : Int)) :
  Calls Tryd.prog 16 #[.slice (some ⟨g, 0, none⟩) t.length c, aggI i va] w (BehQ g c (behC t i) w) := by
 have HDF : Hid (∀ W, Ext w W → Calls Tryd.prog 32 #[aggI i va] W fun e w' => e = .returned (.int .i64 (defI i)) ∧ Below W.heap.size W w') := fun W hW => def_c i _ W ⟨va, rfl, hv.ext hW⟩
 have HNM : Hid (∀ W, Ext w W → Calls Tryd.prog 33 #[.slice (some ⟨g, 0, none⟩) t.length c, aggI i va] W (NumQ t i W)) := fun W hW => number_c g c t i va W (h.rd.ext hW) ht (hv.ext hW)
 have HBE : Hid (behC t i = if defI i = -1 then t else t.set (defI i).toNat (numC t i)) := rfl
 have HNO : Hid (∀ x, numC t i = some x → 0 ≤ x ∧ x < 4294967296 ∨ True) := fun _ _ => .inr trivial
 clear HNO
 unfold NumQ at HNM
 obtain ⟨aa, ac, rfl, -⟩ := hv
 have H := Lib.hid h
 obtain ⟨h1, h2, h3, h4⟩ := h.at
 unfold maxLen at h2
 clear h
 generalize behC t i = T' at *
 generalize numC t i = NN at *
 generalize defI i = D at *
 obtain ⟨op, d, a, b, fn, obj, off, size, num, args, lg⟩ := i
 unfold aggI at *
 dsimp only at *
 obtain ⟨W1, hW1⟩ : ∃ W1, W1 = w.alloc (.cells #[.int .i64 op, .int .i64 d, .int .i64 a, .int .i64 b, .int .i64 fn, .int .i64 obj, .int .i64 off, .int .i64 size, .int .u32 num, .slice aa args.length ac, .bool lg] 40) := ⟨_, rfl⟩
 have H0 := Lib.hid (heap_of_alloc w _ _ hW1)
 have B1 : Hid (Below w.heap.size w W1) := by
  show Below _ _ _
  rw [hW1]; exact below_alloc w _
 have HW1 := Lib.hid hW1.symm
 clear hW1
 obtain ⟨x0, x1, x2, x3, x4, x5, x6, x7, x8, x9, x10, l0⟩ := cl11 H0.out
 go_enter Tryd.func16, Tryd.ntmps16
 go_wp2_with fail
 rw [HW1.out]
 clear HW1
 refine (HDF.out W1 (Ext.below B1.out)).mono ?_
 rintro e w2 ⟨rfl, hb2⟩
 have H0 := Lib.hid ((hb2.block _ l0).trans H0.out)
 have B2 := Lib.hid (B1.out.trans (hb2.mono B1.out.size))
 clear hb2 HDF B1 x0 x1 x2 x3 x4 x5 x6 x7 x8 x9 x10 l0
 obtain ⟨x0, x1, x2, x3, x4, x5, x6, x7, x8, x9, x10, l0⟩ := cl11 H0.out
 by_cases hD : D = -1
 ·have gD : (D == -1) = true := beq_iff_eq.2 hD
  have HT : Hid (T' = t) := by show _ = _; rw [HBE.out, if_pos hD]
  clear hD HBE
  go_wp2_with fail
  go_end0
  exact ⟨rfl, by rw [HT.out]; exact H.out.below B2.out, But.below B2.out⟩
 ·have gD : (D == -1) = false := beq_eq_false_iff_ne.2 hD
  obtain ⟨d0, d1⟩ := hd hD
  obtain ⟨q, hq⟩ := Int.eq_ofNat_of_zero_le d0
  have HT : Hid (T' = t.set q NN) := by show _ = _; rw [HBE.out, if_neg hD, hq]; rfl
  subst hq
  have hql : q < t.length := by omega
  obtain ⟨hfz, hgl⟩ := h4 (by omega)
  obtain ⟨c0, c1⟩ := h3 q hql
  have g1 : decide (q < t.length) = true := decide_eq_true hql
  have g2 : decide ((q : Int) < (t.length : Int)) = true := decide_eq_true (by omega)
  clear hD HBE hd d0 d1
  go_wp2_with fail
  refine (HNM.out w2 (Ext.below B2.out)).mono ?_
  clear HNM
  rintro e w3 ⟨X, rfl, hX, hb3⟩
  have B3 := Lib.hid (B2.out.trans (hb3.mono B2.out.size))
  have H3 := Lib.hid (H.out.below B3.out)
  have c0 := (B3.out.cell (p := ⟨g, q * 2, none⟩) hgl).trans c0
  have c1 := (B3.out.cell (p := ⟨g, q * 2 + 1, none⟩) hgl).trans c1
  have f0 : w3.frozen? ⟨g, q * 2, none⟩ = false := (H3.out.at.2.2.2 (by omega)).1 _
  have f1 : w3.frozen? ⟨g, q * 2 + 1, none⟩ = false := (H3.out.at.2.2.2 (by omega)).1 _
  have HX := Lib.hid hX
  clear hb3 h3 h4 hX hfz B2 H0 x0 x1 x2 x3 x4 x5 x6 x7 x8 x9 x10 l0
  generalize (t.getD q none).isSome = s0 at *
  generalize (t.getD q none).getD 0 = s1 at *
  cases hNN : NN with
  | none =>
   have HF := Lib.hid (H3.out.set4 hql X)
   rw [hNN] at HT
   clear hNN HX
   simp only [Option.isSome_none]
   go_wp2_with fail
   go_end0
   exact ⟨rfl, by rw [HT.out]; exact HF.out, (((((But.below B3.out).trans (But.setCell g (q * 2) _ _)).trans (But.setCell g (q * 2 + 1) _ _)).trans (But.setCell g (q * 2) _ _)).trans (But.setCell g (q * 2 + 1) _ _))⟩
  | some y =>
   have hXy := HX.out y hNN
   subst hXy
   have HF := Lib.hid (H3.out.set2 hql (some X))
   rw [hNN] at HT
   clear hNN HX
   simp only [Option.isSome_some]
   go_wp2_with fail
   go_end0
   exact ⟨rfl, by rw [HT.out]; exact HF.out, (((But.below B3.out).trans (But.setCell g (q * 2) _ _)).trans (But.setCell g (q * 2 + 1) _ _))⟩
end Go.Proofs.YtkhfddodmjnecaaDoor

set_option linter.all false
namespace Go.Proofs.YtkhfddodmjnecaaDoor
open Go.ChangeShapes Go.WideShapes Go.ChangeAt Go.RowKit
set_option maxHeartbeats 4000000
set_option maxRecDepth 100000
set_option linter.unusedVariables false

theorem info_fcell : (Tryd.prog.info? 54).map (fun i => (i.zero, i.size, i.bytes)) = some (some (.agg #[.bool false, .int .u32 0]), 2, 8) := by kernel_rfl
theorem cell_one (t : Ro) : ∀ u ∈ t.flatMap cellC, u.oneCell' = true := fun u hu => by
 obtain ⟨o, -, h⟩ := List.mem_flatMap.1 hu
 simp only [cellC, List.mem_cons, List.not_mem_nil, or_false] at h
 rcases h with rfl | rfl <;> rfl
theorem vadd_c (g o j : Nat) : (⟨g, o, none⟩ : Addr).add j = ⟨g, o + j, none⟩ := by unfold Addr.add; split <;> simp_all
/-- a row's copy: in a block of its own; never nil -/
theorem cloneC (g c : Nat) (t : Ro) (w : World) (h : RowQ w g c t) (hl : t.length ≤ 1000000) :
  Calls Tryd.prog 45 #[.slice (some ⟨g, 0, none⟩) t.length c] w fun e w' => ∃ g' c', e = .returned (.slice (some ⟨g', 0, none⟩) t.length c') ∧ RowQ w' g' c' t ∧ w.heap.size ≤ g' ∧ Below w.heap.size w w' := by
 have hnil := fun w => Lib.run_eql_slice_nil (P := Tryd.prog) w 50 54 (some ⟨g, 0, none⟩) t.length c 0 0 Tryd.underlying50
 obtain ⟨i0, hi, hz0, hz1, hz2⟩ := info_parts info_fcell
 have hlen := flat_len cellC 2 (fun _ => rfl) t
 have HC : Hid (∀ j u, (t.flatMap cellC)[j]? = some u → (w.alloc (.cells #[] 54)).cell? ((⟨g, 0, none⟩ : Addr).add j) = some u) := fun j u hj => by
  rw [vadd_c]
  have hlt : j < t.length * 2 := by rw [← hlen]; exact (List.getElem?_eq_some_iff.1 hj).1
  have hx : w.cell? ⟨g, 0 + j, none⟩ = some u := by
   rw [Nat.zero_add]
   exact (World.ownsRow.cellAt h j hlt).trans hj
  exact ((below_alloc w _).cell (p := ⟨g, 0 + j, none⟩) (World.block_lt_of_cell? w _ hx)).trans hx
 have h1 := cell_one t
 have HL : Hid (t.flatMap cellC = t.flatMap cellC) := rfl
 clear HL h
 unfold RowQ
 generalize t.flatMap cellC = xs at *
 generalize t.length = n at *
 go_enter Tryd.func45, Tryd.ntmps45
 go_wp2_with (at_builtin; refine wpList_append_own _ rfl _ _ 50 rfl w.heap.size 54 i0 (.agg #[.bool false, .int .u32 0]) 2 8 Tryd.underlying50 hi hz0 hz1 hz2 rfl (by decide) (.slice (some ⟨w.heap.size, 0, none⟩) 0 0) 0 [] rfl (World.ownsRow_made w #[] 0 (Nat.le_refl _) (by simp [maxLen]) (by simp)) ⟨g, 0, none⟩ n c xs rfl hlen HC.out h1 (by unfold maxLen; omega) (by omega) (by simp) ?_; intro v' w1 hown hgrow hnn)
 simp only [Nat.zero_add, List.nil_append] at hown
 have hnv : v' ≠ .slice none 0 0 := fun e => by
  have := hnn.1 e
  simp at this
 have hB := (below_alloc w (.cells #[] 54)).grown hgrow (by simp) fun k hk => by simp [Value.ownBlock] at hk; omega
 obtain ⟨e1, ⟨e2, -⟩ | ⟨g', cap, cur, rfl, hb, hg, r⟩⟩ := hown
 ·exact absurd e2 hnv
 ·go_ret
  exact ⟨g', cap, rfl, ⟨e1, .inr ⟨g', cap, cur, rfl, Nat.zero_le _, hg, r⟩⟩, hb, hB⟩
/-- what a block's instructions owe -/
structure InsC (n : Nat) (l : List In) : Prop where
 num : ∀ i ∈ l, 0 ≤ i.num ∧ i.num < 4294967296
 defs : ∀ i ∈ l, defI i ≠ -1 → 0 ≤ defI i ∧ defI i < (n : Int)
theorem thrC_take (t : Ro) (l : List In) (k : Nat) (h : k < l.length) : thrC t (l.take (k + 1)) = behC (thrC t (l.take k)) (l.getD k default) := by
 unfold thrC
 rw [List.take_succ, List.getElem?_eq_getElem h, Option.toList_some, List.foldl_append]
 simp [List.getD, List.getElem?_eq_getElem h]
theorem thrC_ok {l : List In} : ∀ {t : Ro}, RoOk t → (∀ i ∈ l, 0 ≤ i.num ∧ i.num < 4294967296) → RoOk (thrC t l) := by
 induction l with
 | nil => intro t h _; exact h
 | cons i l ih => intro t h hn; exact ih (behC_ok h (hn i List.mem_cons_self)) fun j hj => hn j (List.mem_cons_of_mem _ hj)
theorem through_c (g c : Nat) (t : Ro) (b : Bk) (vi : Value) (w : World) (h : RowQ w g c t) (hl : t.length ≤ 1000000) (ht : RoOk t) (hv : RdIns w vi b.ins) (hi : InsC t.length b.ins) (hil : b.ins.length ≤ 100000) :
  Calls Tryd.prog 43 #[.slice (some ⟨g, 0, none⟩) t.length c, .agg #[vi, .int .i64 b.fin, .int .i64 b.a, .int .i64 b.to, .int .i64 b.els]] w fun e w' => ∃ g' c', e = .returned (.slice (some ⟨g', 0, none⟩) t.length c') ∧ RowQ w' g' c' (thrC t b.ins) ∧ w.heap.size ≤ g' ∧ Below w.heap.size w w' := by
 have HCL : Hid (∀ W, Below w.heap.size w W → Calls Tryd.prog 45 #[.slice (some ⟨g, 0, none⟩) t.length c] W fun e w' => ∃ g' c', e = .returned (.slice (some ⟨g', 0, none⟩) t.length c') ∧ RowQ w' g' c' t ∧ W.heap.size ≤ g' ∧ Below W.heap.size W w') := fun W hW => cloneC g c t W (h.below hW) hl
 obtain ⟨ai, ci, rfl, i1, i2, i3⟩ := hv
 have HIN := Lib.hid (RdIns.at (w := w) (a := ai) (c := ci) (l := b.ins) ⟨ai, ci, rfl, i1, i2, i3⟩).2
 unfold maxLen at i2
 have HI := Lib.hid hi
 have HT : Hid (∀ k, RoOk (thrC t (b.ins.take k))) := fun k => thrC_ok ht fun i hh => hi.num i (List.mem_of_mem_take hh)
 have HTL : Hid (∀ l, (thrC t l).length = t.length) := fun l => thrC_len l t
 clear h hi ht i3
 obtain ⟨B, fin, ba, bto, bel⟩ := b
 dsimp only at *
 obtain ⟨W1, hW1⟩ : ∃ W1, W1 = w.alloc (.cells #[.slice ai B.length ci, .int .i64 fin, .int .i64 ba, .int .i64 bto, .int .i64 bel] 43) := ⟨_, rfl⟩
 have H0 := Lib.hid (heap_of_alloc w _ _ hW1)
 have B1 : Hid (Below w.heap.size w W1) := by
  show Below _ _ _
  rw [hW1]; exact below_alloc w _
 have HW1 := Lib.hid hW1.symm
 have hz1 : w.heap.size < W1.heap.size := by rw [hW1]; simp
 clear hW1
 have l0 := (Array.getElem?_eq_some_iff.1 H0.out).1
 go_enter Tryd.func43, Tryd.ntmps43
 go_wp2_with fail
 rw [HW1.out]
 clear HW1
 refine (HCL.out W1 B1.out).mono ?_
 clear HCL
 rintro e w2 ⟨g', c', rfl, hq, hg', hb2⟩
 have H0 := Lib.hid ((hb2.block _ l0).trans H0.out)
 have B2 := Lib.hid (B1.out.trans (hb2.mono B1.out.size))
 have HQ0 : Hid (RowQ w2 g' c' (thrC t (B.take 0))) := hq
 clear hb2 B1 hq l0
 obtain ⟨y0, y1, y2, y3, y4, l0⟩ := cl5 H0.out
 go_wp2_with fail
 go_loopw [13] (fun i wr => ∃ k : Nat, k ≤ B.length ∧ i = .int .i64 (k : Int) ∧ Hid (RowQ wr g' c' (thrC t (B.take k))) ∧ Hid (Below w.heap.size w wr)) (fun i _ => B.length - (intOf i).toNat)
 case atStart => exact ⟨0, Nat.zero_le _, rfl, HQ0, B2⟩
 case round =>
  clear HQ0 B2 H0 y0 y1 y2 y3 y4 l0
  obtain ⟨k, hk, rfl, HQ, BB⟩ := hrel
  by_cases hlt : k < B.length
  ·have g1 : decide (k < B.length) = true := decide_eq_true hlt
   have g2 : decide ((k : Int) < (B.length : Int)) = true := decide_eq_true (by omega)
   obtain ⟨ib, io, va, rfl, lib, hva, c0, c1, c2, c3, c4, c5, c6, c7, c8, c9, c10⟩ := HIN.out k hlt
   have lift : ∀ {a : Addr} {u : Value}, w.cell? a = some u → wr.cell? a = some u := fun h => (Ext.below BB.out) _ _ h
   have c0 := lift c0
   have c1 := lift c1
   have c2 := lift c2
   have c3 := lift c3
   have c4 := lift c4
   have c5 := lift c5
   have c6 := lift c6
   have c7 := lift c7
   have c8 := lift c8
   have c9 := lift c9
   have c10 := lift c10
   clear lift
   have lib : ib < wr.heap.size := World.block_lt_of_cell? _ _ c0
   have hmem : B.getD k default ∈ B := by simp [List.getD, hlt]
   have HTK := Lib.hid (thrC_take t B k hlt)
   have HDK := Lib.hid (HI.out.defs _ hmem)
   have HVA := Lib.hid hva
   have HOK := HT.out k
   have HLK := HTL.out (B.take k)
   generalize thrC t (B.take k) = T at *
   have HBH : Hid (∀ W, Below wr.heap.size wr W → Calls Tryd.prog 16 #[.slice (some ⟨g', 0, none⟩) t.length c', aggI (B.getD k default) va] W (BehQ g' c' (behC T (B.getD k default)) W)) := fun W hW => by
    have h := behind_c g' c' T (B.getD k default) va W (HQ.out.below hW) HOK (HVA.out.ext ((Ext.below BB.out).trans (Ext.below hW))) (fun hd => by rw [HLK]; exact HDK.out hd)
    rw [HLK] at h
    exact h
   clear hmem HQ HOK HLK HDK HVA
   obtain ⟨aa, ac, rfl, -⟩ := hva
   generalize B.getD k default = I at *
   obtain ⟨op, d, a, b, fn, obj, off, size, num, args, lg⟩ := I
   unfold aggI at HBH
   dsimp only at c0 c1 c2 c3 c4 c5 c6 c7 c8 c9 c10 HBH
   go_wp2_with fail
   refine (HBH.out _ (below_alloc wr _)).mono ?_
   clear HBH
   rintro e w5 ⟨rfl, hq5, hb5⟩
   have BB5 : Hid (Below w.heap.size w w5) := (BB.out.trans ((below_alloc wr _).mono BB.out.size)).trans (hb5.toBelow (by omega) (by have := BB.out.size; simp; omega))
   have HQ5 := Lib.hid hq5
   clear hq5 hb5 c0 c1 c2 c3 c4 c5 c6 c7 c8 c9 c10 lib
   go_wp2_with fail
   go_roundw
   case rel => exact ⟨k + 1, hlt, by go_num, by rw [HTK.out]; exact HQ5, BB5⟩
   case measure => simp [intOf]; omega
  ·obtain rfl : k = B.length := by omega
   rw [List.take_length] at HQ
   go_wp2_with fail
   go_ret
   exact ⟨g', c', rfl, HQ.out, by omega, BB.out⟩
end Go.Proofs.YtkhfddodmjnecaaDoor
