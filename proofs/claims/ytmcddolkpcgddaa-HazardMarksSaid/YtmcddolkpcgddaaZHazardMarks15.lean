/-
 alias: a view of a procedure in memory; let, thing, spot.
-/
import Derived.Test.YtmcddolkpcgddaaZHazardMarks12
import Derived.Test.YtmcddolkpcgddaaZHazardMarks14
set_option linter.all false
namespace Go.Proofs.Ytmcddolkpcgddaa
open Go.ChangeShapes Go.WideShapes Go.ChangeAt Go.RowKit
set_option maxHeartbeats 4000000
set_option maxRecDepth 100000
set_option linter.unusedVariables false

/-- what stays of a view -/
structure VwK where
 p : Pr
 nm : ByteArray
 vo : Value
 vb : Value
 T : Nat
 N : Nat
 bv : Nat
 bO : Nat
 bs : List Nat
 vR : Value
 vS : Value
instance : Inhabited Sp := ⟨⟨0, 0, 0, false⟩⟩
def spCells (s : Sp) : List Value := [.int .i64 s.thing, .int .i64 s.off, .int .i64 s.sets, .bool s.is]
def VwK.cells (k : VwK) : List Value := [.string k.nm, .bool k.p.void, .int .i64 k.p.params, .int .i64 k.p.regs, k.vo, k.vb, .int .i64 (k.T : Int), k.vR, slW k.bO, k.vS]
/-- the blocks that the rows of things lie in -/
def VwK.mine (k : VwK) (b : Nat) : Prop := b = k.bO ∨ b ∈ k.bs ∨ some b = k.vS.ownBlock
structure VwM (w0 w : World) (k : VwK) (x : AS) (sp : List Sp) : Prop where
 pv : PrV w0 (.agg #[.string k.nm, .bool k.p.void, .int .i64 k.p.params, .int .i64 k.p.regs, k.vo, k.vb]) k.p
 hv : w.heap[k.bv]? = some (.cells k.cells.toArray 124 (0, 0))
 own : w.ownsRow w0.heap.size 122 1 k.vR k.bs.length (k.bs.map slW)
 row : ∀ r, r < k.bs.length → RowW w (k.bs.getD r 0) (x.regs.getD r 0) ∧ x.regs.getD r 0 < 2 ^ 64
 out : RowW w k.bO x.out ∧ x.out < 2 ^ 64
 spo : w.ownsRow w0.heap.size 128 4 k.vS k.N (sp.flatMap spCells)
 xl : x.regs.length = k.bs.length
 sl : sp.length = k.N
 pl : k.bs.length ≤ k.N
 inj : ∀ i j, i < k.bs.length → j < k.bs.length → k.bs.getD i 0 = k.bs.getD j 0 → i = j
 neO : ∀ i, i < k.bs.length → k.bs.getD i 0 ≠ k.bO
 ge : w0.heap.size ≤ k.bv ∧ w0.heap.size ≤ k.bO ∧ ∀ i, i < k.bs.length → w0.heap.size ≤ k.bs.getD i 0
 below : Below w0.heap.size w0 w
/-- all but a view's rows stays -/
structure KpW (k : VwK) (w w' : World) : Prop where
 os : w'.os = w.os
 tape : w'.tape = w.tape
 output : w'.output = w.output
 size : w.heap.size ≤ w'.heap.size
 keep : ∀ b, b < w.heap.size → ¬ k.mine b → w'.heap[b]? = w.heap[b]?
section
variable {w0 w w' w1 : World} {k : VwK} {x : AS} {sp : List Sp}
theorem KpW.refl (k : VwK) (w : World) : KpW k w w := ⟨rfl, rfl, rfl, Nat.le_refl _, fun _ _ _ => rfl⟩
theorem KpW.trans (h : KpW k w w1) (h' : KpW k w1 w') : KpW k w w' := ⟨h'.os.trans h.os, h'.tape.trans h.tape, h'.output.trans h.output, Nat.le_trans h.size h'.size, fun b hb hn => (h'.keep b (Nat.lt_of_lt_of_le hb h.size) hn).trans (h.keep b hb hn)⟩
theorem KpW.of_below (h : Below w.heap.size w w') : KpW k w w' := ⟨h.os, h.tape, h.output, h.size, fun b hb _ => h.block b hb⟩
theorem KpW.of_but {b : Nat} (h : But b w w') (hb : k.mine b) : KpW k w w' := ⟨h.os, h.tape, h.output, h.size, fun c hc hn => h.block c hc (fun e => hn (e ▸ hb))⟩
theorem but_grownK {g : Nat} {w w' : World} (h : But g w w') : w.grownBy w' (some g) := ⟨h.os, h.tape, h.output, h.size, fun k hk hne => h.block k hk (fun e => hne (by rw [e]))⟩
theorem own_lenY {w : World} {B s n m c : Nat} {e : TypeId} {a : Option Addr} {xs : List Value} (h : w.ownsRow B e s (.slice a n c) m xs) : n = m := by
 obtain ⟨-, ⟨h1, h2⟩ | ⟨g1, cap, cur, h1, -⟩⟩ := h
 ·simp only [Value.slice.injEq] at h1; omega
 ·simp only [Value.slice.injEq] at h1; exact h1.2.1
theorem ne_row {w : World} {B s n b : Nat} {e t : TypeId} {v : Value} {xs : List Value} {c : Array Value} (h : w.ownsRow B e s v n xs) (hb : w.heap[b]? = some (.cells c t (0, 0))) (he : e ≠ t) : v.ownBlock ≠ some b := by
 intro hv
 obtain ⟨-, ⟨rfl, -⟩ | ⟨g, cap, cur, rfl, -, hg, -⟩⟩ := h
 ·cases hv
 ·have e2 : g = b := by simpa [Value.ownBlock] using hv
  subst e2
  rw [hb] at hg
  simp only [Option.some.injEq, Obj.cells.injEq] at hg
  exact he hg.2.1.symm
theorem ne_heap {w : World} {b b' : Nat} {t t' : TypeId} {c c' : Array Value} (h : w.heap[b]? = some (.cells c t (0, 0))) (h' : w.heap[b']? = some (.cells c' t' (0, 0))) (he : t ≠ t') : b ≠ b' := by
 rintro rfl
 rw [h] at h'
 simp only [Option.some.injEq, Obj.cells.injEq] at h'
 exact he h'.2.1
theorem VwM.lv (h : VwM w0 w k x sp) : k.bv < w.heap.size := (Array.getElem?_eq_some_iff.1 h.hv).1
theorem VwM.ext (h : VwM w0 w k x sp) : Ext w0 w := Ext.below h.below
/-- a world in which no block of the view is written -/
theorem VwM.grown (h : VwM w0 w k x sp) (hk : ∀ b, b < w.heap.size → (b = k.bv ∨ some b = k.vR.ownBlock ∨ k.mine b) → w'.heap[b]? = w.heap[b]?) (hg : ∃ row, w.grownBy w' row ∧ (k.vR.ownBlock = none ∨ k.vR.ownBlock ≠ row) ∧ (k.vS.ownBlock = none ∨ k.vS.ownBlock ≠ row) ∧ ∀ b, row = some b → w0.heap.size ≤ b) : VwM w0 w' k x sp := by
 obtain ⟨row, hg, hR, hS, hB⟩ := hg
 refine ⟨h.pv, (hk _ h.lv (.inl rfl)).trans h.hv, h.own.kept hg hR, fun r hr => ⟨(hk _ (h.row r hr).1.lt (.inr (.inr (.inr (.inl (by simp [List.getD, hr])))))).trans (h.row r hr).1, (h.row r hr).2⟩, ⟨(hk _ h.out.1.lt (.inr (.inr (.inl rfl)))).trans h.out.1, h.out.2⟩, h.spo.kept hg hS, h.xl, h.sl, h.pl, h.inj, h.neO, h.ge, h.below.grown hg h.below.size hB⟩
theorem VwM.grow (h : VwM w0 w k x sp) (hb : Below w.heap.size w w') : VwM w0 w' k x sp :=
 ⟨h.pv, (hb.block _ h.lv).trans h.hv, own_below h.own hb, fun r hr => ⟨(hb.block _ (h.row r hr).1.lt).trans (h.row r hr).1, (h.row r hr).2⟩, ⟨(hb.block _ h.out.1.lt).trans h.out.1, h.out.2⟩, own_below h.spo hb, h.xl, h.sl, h.pl, h.inj, h.neO, h.ge, h.below.trans (hb.mono h.below.size)⟩
theorem VwM.below1 (h : VwM w0 w k x sp) (hk : KpW k w w') : Below w0.heap.size w0 w' := by
 refine h.below.trans ⟨hk.os, hk.tape, hk.output, hk.size, fun b hb => hk.keep b (Nat.lt_of_lt_of_le hb h.below.size) ?_⟩
 rintro (rfl | hm | he)
 ·exact absurd hb (Nat.not_lt.2 h.ge.2.1)
 ·obtain ⟨i, hi, rfl⟩ := List.getElem_of_mem hm
  have := h.ge.2.2 i hi
  simp only [List.getD, List.getElem?_eq_getElem hi, Option.getD_some] at this
  exact absurd hb (Nat.not_lt.2 this)
 ·exact absurd hb (Nat.not_lt.2 (World.ownsRow.lt h.spo b he.symm).1)
theorem VwM.setRow (h : VwM w0 w k x sp) {r : Nat} (hr : r < k.bs.length) {y : Nat} (hy : y < 2 ^ 64) (hb : But (k.bs.getD r 0) w w') (hw : RowW w' (k.bs.getD r 0) y) : VwM w0 w' k { x with regs := x.regs.set r y } sp ∧ KpW k w w' := by
 have hm : k.mine (k.bs.getD r 0) := .inr (.inl (by simp [List.getD, hr]))
 have hK : KpW k w w' := KpW.of_but hb hm
 have hrow := (h.row r hr).1
 have hg := but_grownK hb
 refine ⟨⟨h.pv, (hb.block _ h.lv (ne_heap h.hv hrow (by decide))).trans h.hv, h.own.kept hg (.inr (ne_row h.own hrow (by decide))), fun i hi => ?_, ?_, h.spo.kept hg (.inr (ne_row h.spo hrow (by decide))), by simpa using h.xl, h.sl, h.pl, h.inj, h.neO, h.ge, h.below1 hK⟩, hK⟩
 ·by_cases e : i = r
  ·subst e
   rw [show (x.regs.set i y).getD i 0 = y by simp [List.getD, h.xl, hi]]
   exact ⟨hw, hy⟩
  ·rw [show (x.regs.set r y).getD i 0 = x.regs.getD i 0 by simp [List.getD, List.getElem?_set, Ne.symm e]]
   exact ⟨(hb.block _ (h.row i hi).1.lt (fun e2 => e (h.inj _ _ hi hr e2))).trans (h.row i hi).1, (h.row i hi).2⟩
 ·exact ⟨(hb.block _ h.out.1.lt (Ne.symm (h.neO r hr))).trans h.out.1, h.out.2⟩
theorem VwM.setOut (h : VwM w0 w k x sp) {y : Nat} (hy : y < 2 ^ 64) (hb : But k.bO w w') (hw : RowW w' k.bO y) : VwM w0 w' k { x with out := y } sp ∧ KpW k w w' := by
 have hK : KpW k w w' := KpW.of_but hb (.inl rfl)
 have hrow := h.out.1
 have hg := but_grownK hb
 exact ⟨⟨h.pv, (hb.block _ h.lv (ne_heap h.hv hrow (by decide))).trans h.hv, h.own.kept hg (.inr (ne_row h.own hrow (by decide))), fun i hi => ⟨(hb.block _ (h.row i hi).1.lt (h.neO i hi)).trans (h.row i hi).1, (h.row i hi).2⟩, ⟨hw, hy⟩, h.spo.kept hg (.inr (ne_row h.spo hrow (by decide))), h.xl, h.sl, h.pl, h.inj, h.neO, h.ge, h.below1 hK⟩, hK⟩
/-- registers' rows as they are read -/
theorem VwM.at (h : VwM w0 w k x sp) {r : Nat} (hr : r < k.bs.length) : ∃ g c, k.vR = .slice (some ⟨g, 0, none⟩) k.bs.length c ∧ k.bs.length ≤ c ∧ c ≤ maxLen ∧ g < w.heap.size ∧ w.cell? ⟨g, r, none⟩ = some (slW (k.bs.getD r 0)) := by
 have h' := h.own
 obtain ⟨h1, ⟨h2, h3⟩ | ⟨g, cap, cur, h2, hb, hg, hn, hc, hcs, ht⟩⟩ := h.own
 ·omega
 ·refine ⟨g, cap, h2, hn, hc, (Array.getElem?_eq_some_iff.1 hg).1, ?_⟩
  rw [h2] at h'
  rw [World.ownsRow.cellAt h' r (by omega)]
  simp [List.getD, hr]
theorem flat_sp (sp : List Sp) (r j : Nat) (hr : r < sp.length) (hj : j < 4) : (sp.flatMap spCells)[r * 4 + j]? = (spCells (sp.getD r default))[j]? := by
 exact flat_at spCells 4 (fun _ => rfl) sp r j hr hj
theorem VwM.sat (h : VwM w0 w k x sp) {r : Nat} (hr : r < k.N) : ∃ g c, k.vS = .slice (some ⟨g, 0, none⟩) k.N c ∧ k.N ≤ c ∧ c ≤ maxLen ∧ g < w.heap.size ∧ (∀ o, w.frozen? ⟨g, o, none⟩ = false) ∧ ∀ j, j < 4 → w.cell? ⟨g, r * 4 + j, none⟩ = (spCells (sp.getD r default))[j]? := by
 have h' := h.spo
 obtain ⟨h1, ⟨h2, h3⟩ | ⟨g, cap, cur, h2, hb, hg, hn, hc, hcs, ht⟩⟩ := h.spo
 ·omega
 ·refine ⟨g, cap, h2, hn, hc, (Array.getElem?_eq_some_iff.1 hg).1, fun o => frozen_of_heap hg o, fun j hj => ?_⟩
  rw [h2] at h'
  have hsl := h.sl
  rw [World.ownsRow.cellAt h' _ (by omega), flat_sp sp r j (by omega) hj]
theorem flat_set {α : Type} (f : α → List Value) (n : Nat) (hn : ∀ a, (f a).length = n) : ∀ (l : List α) (r j : Nat) (a : α) (v : Value), r < l.length → j < n → f a = (f (l[r]?.getD a)).set j v → (l.flatMap f).set (r * n + j) v = (l.set r a).flatMap f
 | b :: l, 0, j, a, v, _, hj, h => by
  simp only [Nat.zero_mul, Nat.zero_add, List.flatMap_cons, List.set_cons_zero]
  rw [List.set_append_left _ _ (by rw [hn]; exact hj), h]; rfl
 | b :: l, r + 1, j, a, v, hr, hj, h => by
  simp only [List.flatMap_cons, List.set_cons_succ]
  rw [List.set_append_right _ _ (by rw [hn, Nat.succ_mul]; omega), hn, show (r + 1) * n + j - n = r * n + j by rw [Nat.succ_mul]; omega]
  rw [flat_set f n hn l r j a v (by simpa using hr) hj (by simpa using h)]
/-- a cell of a spot is set -/
theorem VwM.setSp (h : VwM w0 w k x sp) {g n c r j : Nat} (hg : k.vS = .slice (some ⟨g, 0, none⟩) n c) (hr : r < k.N) (hj : j < 4) {s : Sp} {v : Value} (hs : spCells s = (spCells (sp.getD r default)).set j v) :
  VwM w0 (w.setCell ⟨g, r * 4 + j, none⟩ v) k x (sp.set r s) ∧ KpW k w (w.setCell ⟨g, r * 4 + j, none⟩ v) := by
 have hb : But g w (w.setCell ⟨g, r * 4 + j, none⟩ v) := But.setCell g _ w v
 have hm : k.mine g := .inr (.inr (by rw [hg]; rfl))
 have hK : KpW k w (w.setCell ⟨g, r * 4 + j, none⟩ v) := KpW.of_but hb hm
 have hsl := h.sl
 have hrow := h.spo
 rw [hg] at hrow
 obtain rfl := own_lenY hrow
 obtain ⟨hst, hgr⟩ := World.ownsRow.stored hrow (r * 4 + j) v
 have hne : ∀ {b : Nat} {t : TypeId} {cc : Array Value}, w.heap[b]? = some (.cells cc t (0, 0)) → 128 ≠ t → b ≠ g := fun hb he e => ne_row hrow hb he (by rw [e]; rfl)
 refine ⟨⟨h.pv, (hb.block _ h.lv (hne h.hv (by decide))).trans h.hv, h.own.kept hgr (rows_ne h.own hrow (by decide)), fun i hi => ⟨(hb.block _ (h.row i hi).1.lt (hne (h.row i hi).1 (by decide))).trans (h.row i hi).1, (h.row i hi).2⟩, ⟨(hb.block _ h.out.1.lt (hne h.out.1 (by decide))).trans h.out.1, h.out.2⟩, ?_, h.xl, by simpa using h.sl, h.pl, h.inj, h.neO, h.ge, h.below1 hK⟩, hK⟩
 rw [hg, ← flat_set spCells 4 (fun _ => rfl) sp r j s v (by omega) hj (by simpa [List.getD, hsl, hr] using hs)]
 exact hst
end
theorem thing_c (w0 : World) (k : VwK) (x : AS) (sp : List Sp) (i : In) (va : Value) (w : World) (h : VwM w0 w k x sp) (hol : k.p.objs.length ≤ 1000) (hi : 0 ≤ i.obj ∧ i.obj ≤ 100000) :
  Calls Try.prog 95 #[.pointer (some ⟨k.bv, 0, none⟩), aggI i va] w fun e w' => e = .returned (.int .i64 (if i.op = 8 then (k.p.objs.length : Int) + i.obj else i.obj)) ∧ Below w.heap.size w w' := by
 have H := Lib.hid h.hv
 have hlv := h.lv
 obtain ⟨a, c, hvo, -⟩ := id (show RdSls w0 k.vo k.p.objs from by obtain ⟨_, _, _, e, h1, -⟩ := h.pv; simp only [Value.agg.injEq, Array.mk.injEq, List.cons.injEq, Value.string.injEq] at e; obtain ⟨-, -, -, -, e, -, -⟩ := e; rw [e]; exact h1)
 clear h
 have c4 : w.cell? ⟨k.bv, 4, none⟩ = some (.slice a k.p.objs.length c) := by rw [cell_of_heap H.out 4, ← hvo]; rfl
 generalize k.p.objs.length = n at *
 generalize k.bv = bv at *
 unfold aggI
 by_cases h8 : i.op = 8
 ·have g1 : (i.op == 8) = true := by rw [h8]; rfl
  rw [if_pos h8]
  clear h8
  go_enter Try.func95, Try.ntmps95
  go_wp2_with fail
  go_quiet (fail)
  go_wp2_with fail
  go_ret
  exact ⟨rfl, drewN_b (below_alloc _ _) _⟩
 ·have g1 : (i.op == 8) = false := by simpa using h8
  rw [if_neg h8]
  clear h8
  go_enter Try.func95, Try.ntmps95
  go_wp2_with fail
  go_ret
  exact ⟨rfl, below_alloc _ _⟩
theorem let_c (w0 : World) (k : VwK) (x : AS) (sp : List Sp) (r : Nat) (w : World) (h : VwM w0 w k x sp) (hr : r < k.bs.length) :
  Calls Try.prog 94 #[.pointer (some ⟨k.bv, 0, none⟩), .int .i64 (r : Int)] w fun e w' => e = .returned (.bool (x.news (.sub (some r) none))) ∧ VwM w0 w' k (x.con (.sub (some r) none)) sp ∧ KpW k w w' := by
 obtain ⟨g, c, hvR, hc1, hc2, hgl, hcr⟩ := h.at hr
 have hlv := h.lv
 have c7 : w.cell? ⟨k.bv, 7, none⟩ = some (.slice (some ⟨g, 0, none⟩) k.bs.length c) := by rw [cell_of_heap h.hv 7, ← hvR]; rfl
 have c8 : w.cell? ⟨k.bv, 8, none⟩ = some (slW k.bO) := by rw [cell_of_heap h.hv 8]; rfl
 have h0 := Lib.hid (h.row r hr)
 have h1 := Lib.hid h.out
 have HS := Lib.hid (fun w' (hb : But k.bO w w') (hw : RowW w' k.bO (x.out ||| x.regs.getD r 0)) => h.setOut (Nat.or_lt_two_pow h.out.2 (h.row r hr).2) hb hw)
 have HN : Hid (x.news (.sub (some r) none) = ((x.out ||| x.regs.getD r 0) != x.out) ∧ x.con (.sub (some r) none) = { x with out := x.out ||| x.regs.getD r 0 }) := ⟨rfl, rfl⟩
 rw [HN.out.1, HN.out.2]
 have hb0 := ne_heap h.hv h.out.1 (by decide)
 have hg0 : g ≠ k.bO := fun e => ne_row h.own h.out.1 (by decide) (by rw [hvR, e]; rfl)
 clear HN h hvR
 unfold maxLen at hc2
 generalize k.bs.getD r 0 = br at *
 generalize x.regs.getD r 0 = y at *
 generalize k.bs.length = n at *
 have g1 : decide (r < n) = true := decide_eq_true hr
 have g2 : decide ((r : Int) < (n : Int)) = true := decide_eq_true (by omega)
 unfold slW at c8 hcr
 go_enter Try.func94, Try.ntmps94
 go_wp2_with fail
 refine wp_region_game (fun b => b = k.bv ∨ b = g) (by kernel_rfl) ?_
 refine E_mob2s [0, 1, 2, 3, 4, 5, 6, 7, 8, 9, 10] _ _ _ _ (by kernel_rfl) ?_
 simp only [List.map_cons, List.map_nil, List.getElem?_toArray, List.getElem?_cons_succ, List.getElem?_cons_zero, Option.getD_some, List.size_toArray, List.length_cons, List.length_nil, Nat.reduceAdd, Nat.reduceSub]
 repeat (go_big_quiet_step (fail))
 refine wpQuiet_nil ?_
 refine E_loud1 11 _ rfl (by kernel_rfl) ?_
 simp only [List.getElem_toArray, List.getElem_cons_succ, List.getElem_cons_zero]
 go_wp2_with fail
 refine (jn_c k.bO br x.out y w.drew h1.out.1 h0.out.1 h1.out.2 h0.out.2).mono ?_
 rintro e w1 ⟨rfl, hw1, hb1⟩
 go_wp2_with fail
 refine ⟨fun b o hb => by rcases hb with rfl | rfl; exact hb1.cell hlv hb0; exact hb1.cell hgl hg0, ?_⟩
 refine E_mob2s [12] _ _ _ _ (by kernel_rfl) ?_
 simp only [List.map_cons, List.map_nil, List.getElem?_toArray, List.getElem?_cons_succ, List.getElem?_cons_zero, Option.getD_some, List.size_toArray, List.length_cons, List.length_nil, Nat.reduceAdd, Nat.reduceSub]
 repeat (go_big_quiet_step (fail))
 refine wpQuiet_nil ?_
 refine E_done (by kernel_rfl) ?_ _
 go_wp2_with fail
 go_ret
 exact ⟨rfl, HS.out _ ((but_drewN k.bO w 1).trans hb1) hw1⟩
end Go.Proofs.Ytmcddolkpcgddaa
