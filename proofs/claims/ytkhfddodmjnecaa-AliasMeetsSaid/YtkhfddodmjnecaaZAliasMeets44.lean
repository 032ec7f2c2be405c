/-
 The document's exact places: the walk of Exact.
-/
import Derived.Test.YtkhfddodmjnecaaZAliasMeets43
import Derived.Test.YtkhfddodmjnecaaZAliasMeets13
import Derived.Test.YtkhfddodmjnecaaZAliasMeets02
import Derived.Test.YtkhfddodmjnecaaZAliasMeets11
set_option linter.all false
namespace Go.Proofs.Ytkhfddodmjnecaa
open Go.ChangeShapes Go.WideShapes Go.ChangeAt Go.RowKit
set_option maxHeartbeats 4000000
set_option maxRecDepth 100000
set_option linter.unusedVariables false

def preP (p : Pr) (n k : Nat) : List In := (p.blks.take n).flatMap (·.ins) ++ (p.blks.getD n default).ins.take k
def dlP (r : Int) (l : List In) : List In := l.filter fun i => defI i == r
theorem preP_step (p : Pr) (n k : Nat) (h : k < (p.blks.getD n default).ins.length) : preP p n (k + 1) = preP p n k ++ [(p.blks.getD n default).ins.getD k default] := by
 unfold preP
 generalize p.blks.getD n default = B at *
 rw [List.append_assoc]
 congr 1
 rw [List.take_succ, List.getElem?_eq_getElem h]
 simp [List.getD, List.getElem?_eq_getElem h]
theorem preP_next (p : Pr) (n : Nat) (h : n < p.blks.length) : preP p n (p.blks.getD n default).ins.length = preP p (n + 1) 0 := by
 unfold preP
 rw [List.take_length, List.take_succ, List.getElem?_eq_getElem h, List.take_zero, List.append_nil, List.flatMap_append]
 simp [List.getD, List.getElem?_eq_getElem h]
theorem preP_all (p : Pr) : preP p p.blks.length 0 = insP p := by
 unfold preP insP
 rw [List.take_zero, List.append_nil, List.take_length]
theorem preP_zero (p : Pr) : preP p 0 0 = [] := by simp [preP]
theorem dlP_snoc (r : Int) (l : List In) (i : In) : dlP r (l ++ [i]) = dlP r l ++ (if (defI i == r) = true then [i] else []) := by
 unfold dlP
 rw [List.filter_append]
 congr 1
 by_cases h : (defI i == r) = true <;> simp [h]
def exE (p : Pr) (r : Int) (n k : Nat) : Ex := (dlP r (preP p n k)).foldl (exI p.objs.length) ⟨0, 0, false⟩
def exN (p : Pr) (r : Int) (n k : Nat) : Nat := (dlP r (preP p n k)).length
theorem exN_le (p : Pr) (r : Int) (hb : ∀ b ∈ p.blks, b.ins.length ≤ 1000) : ∀ n k, n ≤ p.blks.length → exN p r n k ≤ n * 1000 + k := by
 intro n k hn
 have h1 : exN p r n k ≤ (preP p n k).length := List.length_filter_le _ _
 have h2 : ((p.blks.take n).flatMap (·.ins)).length ≤ n * 1000 := by
  have : ∀ l : List Bk, (∀ b ∈ l, b.ins.length ≤ 1000) → (l.flatMap (·.ins)).length ≤ l.length * 1000 := by
   intro l
   induction l with
   | nil => intro _; simp
   | cons b l ih =>
    intro h
    have h3 := h b (List.mem_cons_self ..)
    have h4 := ih fun b hb => h b (List.mem_cons_of_mem _ hb)
    rw [List.flatMap_cons, List.length_append, List.length_cons, Nat.succ_mul]
    omega
  refine Nat.le_trans (this _ fun b hb' => hb b (List.mem_of_mem_take hb')) (Nat.mul_le_mul_right _ ?_)
  rw [List.length_take]; omega
 have h3 : ((p.blks.getD n default).ins.take k).length ≤ k := by rw [List.length_take]; omega
 unfold preP at h1
 rw [List.length_append] at h1
 omega
theorem three_heap (w : World) (A B C : Obj) : (((w.alloc A).alloc B).alloc C).heap[w.heap.size]? = some A ∧ (((w.alloc A).alloc B).alloc C).heap[w.heap.size + 1]? = some B ∧ (((w.alloc A).alloc B).alloc C).heap[w.heap.size + 1 + 1]? = some C := by
 refine ⟨?_, ?_, ?_⟩
 ·rw [heap_alloc, if_neg (by simp; omega), heap_alloc, if_neg (by simp), heap_alloc, if_pos rfl]
 ·rw [heap_alloc, if_neg (by simp), heap_alloc, if_pos (by simp)]
 ·rw [heap_alloc, if_pos (by simp)]
theorem set3_heap {w : World} {b : Nat} {x0 x1 x2 : Value} {t : TypeId} (h : w.heap[b]? = some (.cells #[x0, x1, x2] t)) (u v y : Value) : (((w.setCell ⟨b, 0, none⟩ u).setCell ⟨b, 1, none⟩ v).setCell ⟨b, 2, none⟩ y).heap[b]? = some (.cells #[u, v, y] t) :=
 heap_setCell_same _ _ 2 _ _ _ (heap_setCell_same _ _ 1 _ _ _ (heap_setCell_same _ _ 0 _ _ _ h))
theorem below_setB {w w1 : World} {b : Nat} (h : Below w.heap.size w w1) (hb : w.heap.size ≤ b) (u v y : Value) : Below w.heap.size w (((w1.setCell ⟨b, 0, none⟩ u).setCell ⟨b, 1, none⟩ v).setCell ⟨b, 2, none⟩ y) :=
 ((h.setCell (p := ⟨b, 0, none⟩) hb _).setCell (p := ⟨b, 1, none⟩) hb _).setCell (p := ⟨b, 2, none⟩) hb _
theorem set3_other {w : World} {b c : Nat} {z : Option Obj} (h : w.heap[c]? = z) (hc : c ≠ b) (u v y : Value) : (((w.setCell ⟨b, 0, none⟩ u).setCell ⟨b, 1, none⟩ v).setCell ⟨b, 2, none⟩ y).heap[c]? = z :=
 (Below.heap_setCell _ ⟨b, 2, none⟩ _ c hc).trans ((Below.heap_setCell _ ⟨b, 1, none⟩ _ c hc).trans ((Below.heap_setCell _ ⟨b, 0, none⟩ _ c hc).trans h))
theorem exact21_no (p : Pr) (r : Int) (V : Value) (w : World) (hv : PrV w V p) (h : r < p.params ∨ p.regs ≤ r) :
  Calls Try.prog 21 #[V, .int .i64 r] w fun e w' => e = .returned (.agg #[.int .i64 0, .int .i64 0, .bool false]) ∧ Below w.heap.size w w' := by
 obtain ⟨nm, vo, vb, rfl, -, -⟩ := hv
 by_cases h1 : r < p.params
 ·have g1 : decide (r < p.params) = true := decide_eq_true h1
  clear h h1
  go_enter Try.func21, Try.ntmps21
  go_wp2_with fail
  refine bodyPost_ret (v := .agg #[.int .i64 0, .int .i64 0, .bool false]) (by simp [results, Try.results21, go_sem]) rfl ?_
  exact ⟨rfl, Below.alloc (below_alloc w _) (by simp) _⟩
 ·have g1 : decide (r < p.params) = false := decide_eq_false h1
  have g2 : decide (r ≥ p.regs) = true := decide_eq_true (by omega)
  have g3 : decide (p.regs ≤ r) = true := decide_eq_true (by omega)
  clear h h1
  go_enter Try.func21, Try.ntmps21
  go_wp2_with fail
  refine bodyPost_ret (v := .agg #[.int .i64 0, .int .i64 0, .bool false]) (by simp [results, Try.results21, go_sem]) rfl ?_
  exact ⟨rfl, Below.alloc (below_alloc w _) (by simp) _⟩
theorem exact21_yes (p : Pr) (r : Int) (V : Value) (w : World) (hv : PrV w V p) (h1 : p.params ≤ r) (h2 : r < p.regs) (hbl : p.blks.length ≤ 1000) (hil : ∀ b ∈ p.blks, b.ins.length ≤ 1000) (hol : p.objs.length ≤ 1000) (hob : ∀ b ∈ p.blks, ∀ i ∈ b.ins, i.op = 8 → 0 ≤ i.obj ∧ i.obj ≤ 1000) :
  Calls Try.prog 21 #[V, .int .i64 r] w fun e w' => e = .returned (.agg #[.int .i64 (exR p r).thing, .int .i64 (exR p r).off, .bool (exR p r).is]) ∧ Below w.heap.size w w' := by
 obtain ⟨nm, vo, vb, rfl, hvo, hvb⟩ := hv
 have g1 : decide (r < p.params) = false := decide_eq_false (by omega)
 have g2 : decide (r ≥ p.regs) = false := decide_eq_false (by omega)
 have g3 : decide (p.regs ≤ r) = false := decide_eq_false (by omega)
 have HX : Hid (exR p r = if exN p r p.blks.length 0 = 1 then exE p r p.blks.length 0 else ⟨0, 0, false⟩) := by
  show exR p r = _
  unfold exR exN exE
  rw [if_neg (by omega), preP_all]
  rfl
 have HNL := Lib.hid (exN_le p r hil)
 obtain ⟨ab, cb, rfl, hb1, hb2, hb3⟩ := hvb
 obtain ⟨ao, co, rfl, ho1, ho2, -⟩ := hvo
 unfold maxLen at ho2
 have HBK := Lib.hid (RdBks.at (w := w) (a := ab) (n := p.blks.length) (c := cb) (l := p.blks) ⟨ab, cb, rfl, hb1, hb2, hb3⟩).2
 unfold maxLen at hb2
 clear hb3 h1 h2
 generalize exR p r = X at *
 go_enter Try.func21, Try.ntmps21
 go_wp2_with fail
 go_loopw [6, 7] (fun s i wr => ∃ n : Nat, n ≤ p.blks.length ∧ i = .int .i64 (n : Int) ∧ s = .int .i64 (exN p r n 0 : Int) ∧ Hid (wr.heap[w.heap.size]? = some (.cells #[.string nm, .bool p.void, .int .i64 p.params, .int .i64 p.regs, .slice ao p.objs.length co, .slice ab p.blks.length cb] 32)) ∧ Hid (wr.heap[w.heap.size + 1]? = some (.cells #[.int .i64 0, .int .i64 0, .bool false] 57)) ∧ Hid (wr.heap[w.heap.size + 1 + 1]? = some (.cells #[.int .i64 (exE p r n 0).thing, .int .i64 (exE p r n 0).off, .bool (exE p r n 0).is] 57)) ∧ Hid (Below w.heap.size w wr)) (fun _ i _ => p.blks.length - (intOf i).toNat)
 case atStart =>
  have hz : exE p r 0 0 = ⟨0, 0, false⟩ := by simp [exE, preP_zero, dlP]
  obtain ⟨t1, t2, t3⟩ := three_heap w (.cells #[.string nm, .bool p.void, .int .i64 p.params, .int .i64 p.regs, .slice ao p.objs.length co, .slice ab p.blks.length cb] 32) (.cells #[.int .i64 0, .int .i64 0, .bool false] 57) (.cells #[.int .i64 0, .int .i64 0, .bool false] 57)
  exact ⟨0, Nat.zero_le _, rfl, by simp [exN, preP_zero, dlP], t1, t2, by rw [hz]; exact t3, Below.alloc (Below.alloc (below_alloc w _) (by simp) _) (by simp; omega) _⟩
 case round =>
  obtain ⟨n, hn, rfl, rfl, HP, HR, HO, HB⟩ := hrel
  obtain ⟨p0, p1, p2, p3, p4, p5, lp⟩ := cl6 HP.out
  have hbn := HNL.out n 0 hn
  by_cases hlt : n < p.blks.length
  ·obtain ⟨bb, bo, vi, rfl, hvi, y0, y1, y2, y3, y4⟩ := HBK.out n hlt
   clear y1 y2 y3 y4
   have gn : decide ((n : Int) < (p.blks.length : Int)) = true := decide_eq_true (by omega)
   have gn2 : decide (n < p.blks.length) = true := decide_eq_true hlt
   obtain ⟨ai, ci, rfl, i1, i2, i3⟩ := hvi
   have HIN := Lib.hid (RdIns.at (w := w) (a := ai) (c := ci) (l := (p.blks.getD n default).ins) ⟨ai, ci, rfl, i1, i2, i3⟩).2
   have lbb := World.block_lt_of_cell? _ _ y0
   have HY : Hid (w.cell? ⟨bb, bo + n * 5, none⟩ = some (.slice ai (p.blks.getD n default).ins.length ci)) := y0
   have z0 : wr.cell? ⟨bb, bo + n * 5, none⟩ = some (.slice ai (p.blks.getD n default).ins.length ci) := (HB.out.cell (p := ⟨bb, bo + n * 5, none⟩) lbb).trans y0
   have hL : (p.blks.getD n default).ins.length ≤ 1000 := by
    simp only [List.getD, List.getElem?_eq_getElem hlt, Option.getD_some]; exact hil _ (List.getElem_mem _)
   have HNx := Lib.hid (preP_next p n hlt)
   have hO8 : ∀ i ∈ (p.blks.getD n default).ins, i.op = 8 → 0 ≤ i.obj ∧ i.obj ≤ 1000 := by
    simp only [List.getD, List.getElem?_eq_getElem hlt, Option.getD_some]; exact hob _ (List.getElem_mem _)
   have HO8 := Lib.hid hO8
   clear hO8
   have HSt := Lib.hid (preP_step p n)
   unfold maxLen at i2
   clear i3 y0
   generalize (p.blks.getD n default).ins = B at *
   go_wp2_with fail
   go_loopw [6, 8] (fun s i wr => ∃ k : Nat, k ≤ B.length ∧ i = .int .i64 (k : Int) ∧ s = .int .i64 (exN p r n k : Int) ∧ Hid (wr.heap[w.heap.size]? = some (.cells #[.string nm, .bool p.void, .int .i64 p.params, .int .i64 p.regs, .slice ao p.objs.length co, .slice (some ⟨bb, bo, none⟩) p.blks.length cb] 32)) ∧ Hid (wr.heap[w.heap.size + 1]? = some (.cells #[.int .i64 0, .int .i64 0, .bool false] 57)) ∧ Hid (wr.heap[w.heap.size + 1 + 1]? = some (.cells #[.int .i64 (exE p r n k).thing, .int .i64 (exE p r n k).off, .bool (exE p r n k).is] 57)) ∧ Hid (Below w.heap.size w wr)) (fun _ i _ => B.length - (intOf i).toNat)
   case atStart => exact ⟨0, Nat.zero_le _, rfl, rfl, HP, HR, HO, HB⟩
   case round =>
    clear HP HR HO HB z0 p0 p1 p2 p3 p4 p5 lp
    obtain ⟨k, hk, rfl, rfl, HP, HR, HO, HB⟩ := hrel
    obtain ⟨p0, p1, p2, p3, p4, p5, lp⟩ := cl6 HP.out
    have hbk := HNL.out n k hn
    have z0 : wr.cell? ⟨bb, bo + n * 5, none⟩ = some (.slice ai B.length ci) := (HB.out.cell (p := ⟨bb, bo + n * 5, none⟩) lbb).trans HY.out
    by_cases hlt2 : k < B.length
    ·obtain ⟨ib, io, va, rfl, lib, hva, w0, w1, w2, w3, w4, w5, w6, w7, w8, w9, w10⟩ := HIN.out k hlt2
     have lift : ∀ {q : Nat} {u : Value}, w.cell? ⟨ib, q, none⟩ = some u → wr.cell? ⟨ib, q, none⟩ = some u := fun h => (HB.out.cell (p := ⟨ib, _, none⟩) lib).trans h
     have x0 := lift w0
     have x1 := lift w1
     have x2 := lift w2
     have x3 := lift w3
     have x4 := lift w4
     have x5 := lift w5
     have x6 := lift w6
     have x7 := lift w7
     have x8 := lift w8
     have x9 := lift w9
     have x10 := lift w10
     clear lift w0 w1 w2 w3 w4 w5 w6 w7 w8 w9 w10
     have gk : decide ((k : Int) < (B.length : Int)) = true := decide_eq_true (by omega)
     have gk2 : decide (k < B.length) = true := decide_eq_true hlt2
     have HPS := Lib.hid (HSt.out k hlt2)
     have hI8 : (B.getD k default).op = 8 → 0 ≤ (B.getD k default).obj ∧ (B.getD k default).obj ≤ 1000 := HO8.out _ (by simp only [List.getD, List.getElem?_eq_getElem hlt2, Option.getD_some]; exact List.getElem_mem _)
     generalize B.getD k default = I at *
     have HD := Lib.hid (fun W V h => rdef_c I V W h)
     have HN2 : Hid (exN p r n (k + 1) = exN p r n k + (if (defI I == r) = true then 1 else 0)) := by
      show _ = _
      unfold exN
      rw [HPS.out, dlP_snoc]
      split <;> simp
     have HE2 : Hid (exE p r n (k + 1) = if (defI I == r) = true then exI p.objs.length (exE p r n k) I else exE p r n k) := by
      show _ = _
      unfold exE
      rw [HPS.out, dlP_snoc]
      split <;> simp
     obtain ⟨op, d, a, b, fn, obj, off, size, num, args, lg⟩ := I
     dsimp only at x0 x1 x2 x3 x4 x5 x6 x7 x8 x9 x10 hva hI8
     have HVA := Lib.hid (hva.ext ((Ext.below HB.out).trans (Ext.alloc wr (.cells #[.int .i64 op, .int .i64 d, .int .i64 a, .int .i64 b, .int .i64 fn, .int .i64 obj, .int .i64 off, .int .i64 size, .int .u32 num, va, .bool lg] 39))))
     obtain ⟨aa, ac, rfl, -⟩ := hva
     have HC := Lib.hid (rdef_c ⟨op, d, a, b, fn, obj, off, size, num, args, lg⟩ _ (wr.alloc (.cells #[.int .i64 op, .int .i64 d, .int .i64 a, .int .i64 b, .int .i64 fn, .int .i64 obj, .int .i64 off, .int .i64 size, .int .u32 num, .slice aa args.length ac, .bool lg] 39)) ⟨_, rfl, HVA.out⟩)
     clear HVA HD HPS
     generalize defI ⟨op, d, a, b, fn, obj, off, size, num, args, lg⟩ = D at *
     have lR := (Array.getElem?_eq_some_iff.1 HR.out).1
     have lO := (Array.getElem?_eq_some_iff.1 HO.out).1
     go_wp2_with fail
     refine HC.out.mono ?_
     rintro e w5 ⟨rfl, hb5⟩
     have HBx : Hid (w5.heap[wr.heap.size]? = some (.cells #[.int .i64 op, .int .i64 d, .int .i64 a, .int .i64 b, .int .i64 fn, .int .i64 obj, .int .i64 off, .int .i64 size, .int .u32 num, .slice aa args.length ac, .bool lg] 39)) := (hb5.block _ (by simp)).trans (heap_alloc_new wr _)
     have B5 : Below wr.heap.size wr w5 := (below_alloc wr _).trans (hb5.mono (by simp))
     have HP5 := Lib.hid ((B5.block _ lp).trans HP.out)
     have HR5 := Lib.hid ((B5.block _ lR).trans HR.out)
     have HO5 := Lib.hid ((B5.block _ lO).trans HO.out)
     have HB5 := Lib.hid (HB.out.trans (B5.mono HB.out.size))
     have hszr : w.heap.size ≤ wr.heap.size := HB.out.size
     clear hb5 HC B5 HP HR HO HB x0 x1 x2 x3 x4 x5 x6 x7 x8 x9 x10 p0 p1 p2 p3 p4 p5 z0
     obtain ⟨x0, x1, x2, x3, x4, x5, x6, x7, x8, x9, x10, lx⟩ := cl11 HBx.out
     obtain ⟨p0, p1, p2, p3, p4, p5, lp5⟩ := cl6 HP5.out
     cases hD : (D == r)
     ·rw [hD] at HN2 HE2
      have gD : (D != r) = true := by rw [bne_iff_ne]; simpa using hD
      clear hD
      go_wp2_with fail
      go_roundw
      case rel => exact ⟨k + 1, by omega, by go_num, by rw [HN2.out]; simp, HP5, HR5, by rw [HE2.out]; exact HO5.out, HB5⟩
      case measure => simp [intOf]; omega
     ·rw [hD] at HN2 HE2
      have gD : (D != r) = false := by simpa using hD
      clear hD
      generalize exN p r n k = N at *
      by_cases e7 : op = 7
      ·have HE3 : Hid (exE p r n (k + 1) = ⟨obj, off, true⟩) := by show _ = _; rw [HE2.out, if_pos rfl]; simp [exI, e7]
       subst e7
       generalize exE p r n k = E at *
       have oc := cell_of_heap HO5.out
       have ofz := frozen_of_heap HO5.out
       have o0 := oc 0
       have o1 := oc 1
       have o2 := oc 2
       simp only [List.getElem?_toArray, List.getElem?_cons_zero, List.getElem?_cons_succ] at o0 o1 o2
       have f0 := ofz 0
       have f1 := ofz 1
       have f2 := ofz 2
       clear oc ofz
       have S1 := Lib.hid (set3_heap HO5.out (.int .i64 obj) (.int .i64 off) (.bool true))
       have S2 := Lib.hid (set3_other (b := w.heap.size + 1 + 1) HP5.out (by omega) (.int .i64 obj) (.int .i64 off) (.bool true))
       have S3 := Lib.hid (set3_other (b := w.heap.size + 1 + 1) HR5.out (by omega) (.int .i64 obj) (.int .i64 off) (.bool true))
       have S4 := Lib.hid (below_setB (b := w.heap.size + 1 + 1) HB5.out (by omega) (.int .i64 obj) (.int .i64 off) (.bool true))
       have S5 := Lib.hid (cl11 (set3_other (b := w.heap.size + 1 + 1) HBx.out (by omega) (.int .i64 obj) (.int .i64 off) (.bool true)))
       go_wp2_with fail
       go_roundw
       case rel => exact ⟨k + 1, by omega, by go_num, by rw [HN2.out]; simp, S2, S3, by rw [HE3.out]; exact S1.out, S4⟩
       case measure => simp [intOf]; omega
      ·have g7 : (op == 7) = false := by simpa using e7
       by_cases e8 : op = 8
       ·have hq := hI8 e8
        have HE3 : Hid (exE p r n (k + 1) = ⟨p.objs.length + obj, off, true⟩) := by show _ = _; rw [HE2.out, if_pos rfl]; simp [exI, e8]
        subst e8
        generalize exE p r n k = E at *
        have oc := cell_of_heap HO5.out
        have ofz := frozen_of_heap HO5.out
        have o0 := oc 0
        have o1 := oc 1
        have o2 := oc 2
        simp only [List.getElem?_toArray, List.getElem?_cons_zero, List.getElem?_cons_succ] at o0 o1 o2
        have f0 := ofz 0
        have f1 := ofz 1
        have f2 := ofz 2
        clear oc ofz
        have S1 := Lib.hid (set3_heap HO5.out (.int .i64 (p.objs.length + obj)) (.int .i64 off) (.bool true))
        have S2 := Lib.hid (set3_other (b := w.heap.size + 1 + 1) HP5.out (by omega) (.int .i64 (p.objs.length + obj)) (.int .i64 off) (.bool true))
        have S3 := Lib.hid (set3_other (b := w.heap.size + 1 + 1) HR5.out (by omega) (.int .i64 (p.objs.length + obj)) (.int .i64 off) (.bool true))
        have S4 := Lib.hid (below_setB (b := w.heap.size + 1 + 1) HB5.out (by omega) (.int .i64 (p.objs.length + obj)) (.int .i64 off) (.bool true))
        go_wp2_with fail
        go_roundw
        case rel => exact ⟨k + 1, by omega, by go_num, by rw [HN2.out]; simp, S2, S3, by rw [HE3.out]; exact S1.out, S4⟩
        case measure => simp [intOf]; omega
       ·have g8 : (op == 8) = false := by simpa using e8
        have HE3 : Hid (exE p r n (k + 1) = exE p r n k) := by show _ = _; rw [HE2.out, if_pos rfl]; simp [exI, e7, e8]
        clear e7 e8
        go_wp2_with fail
        go_roundw
        case rel => exact ⟨k + 1, by omega, by go_num, by rw [HN2.out]; simp, HP5, HR5, by rw [HE3.out]; exact HO5.out, HB5⟩
        case measure => simp [intOf]; omega
    ·obtain rfl : k = B.length := by omega
     have hE : exE p r n B.length = exE p r (n + 1) 0 := by unfold exE; rw [HNx.out]
     have hN : exN p r n B.length = exN p r (n + 1) 0 := by unfold exN; rw [HNx.out]
     rw [hE] at HO
     rw [hN] at *
     go_wp2_with fail
     go_roundw
     case rel => exact ⟨n + 1, by omega, by go_num, rfl, HP, HR, HO, HB⟩
     case measure => simp [intOf]; omega
  ·obtain rfl : n = p.blks.length := by omega
   obtain ⟨r0, r1, r2, lr⟩ : wr.cell? ⟨w.heap.size + 1, 0, none⟩ = some (.int .i64 0) ∧ wr.cell? ⟨w.heap.size + 1, 1, none⟩ = some (.int .i64 0) ∧ wr.cell? ⟨w.heap.size + 1, 2, none⟩ = some (.bool false) ∧ w.heap.size + 1 < wr.heap.size := ⟨cell_of_heap HR.out 0, cell_of_heap HR.out 1, cell_of_heap HR.out 2, (Array.getElem?_eq_some_iff.1 HR.out).1⟩
   have rf := frozen_of_heap HR.out
   have o0 := cell_of_heap HO.out 0
   have o1 := cell_of_heap HO.out 1
   have o2 := cell_of_heap HO.out 2
   simp only [List.getElem?_toArray, List.getElem?_cons_zero, List.getElem?_cons_succ] at o0 o1 o2
   generalize exE p r p.blks.length 0 = E at *
   generalize exN p r p.blks.length 0 = N at *
   by_cases h1 : N = 1
   ·rw [if_pos h1] at HX
    subst h1
    go_wp2_with fail
    have K := set3_heap HR.out (.int .i64 E.thing) (.int .i64 E.off) (.bool E.is)
    have KB := Lib.hid (below_setB (b := w.heap.size + 1) HB.out (by omega) (.int .i64 E.thing) (.int .i64 E.off) (.bool E.is))
    generalize (((wr.setCell ⟨w.heap.size + 1, 0, none⟩ (.int .i64 E.thing)).setCell ⟨w.heap.size + 1, 1, none⟩ (.int .i64 E.off)).setCell ⟨w.heap.size + 1, 2, none⟩ (.bool E.is)) = WF at *
    have r0 := cell_of_heap K 0
    have r1 := cell_of_heap K 1
    have r2 := cell_of_heap K 2
    refine bodyPost_ret (v := .agg #[.int .i64 E.thing, .int .i64 E.off, .bool E.is]) (by simp [results, Try.results21, go_sem, r0, r1, r2]) rfl ?_
    exact ⟨by rw [HX.out], KB.out⟩
   ·rw [if_neg h1] at HX
    have gN : ((N : Int) != 1) = true := by rw [bne_iff_ne]; omega
    clear h1
    go_wp2_with fail
    have K := set3_heap HR.out (.int .i64 0) (.int .i64 0) (.bool false)
    have KB := Lib.hid (below_setB (b := w.heap.size + 1) HB.out (by omega) (.int .i64 0) (.int .i64 0) (.bool false))
    generalize (((wr.setCell ⟨w.heap.size + 1, 0, none⟩ (.int .i64 0)).setCell ⟨w.heap.size + 1, 1, none⟩ (.int .i64 0)).setCell ⟨w.heap.size + 1, 2, none⟩ (.bool false)) = WF at *
    have r0 := cell_of_heap K 0
    have r1 := cell_of_heap K 1
    have r2 := cell_of_heap K 2
    refine bodyPost_ret (v := .agg #[.int .i64 0, .int .i64 0, .bool false]) (by simp [results, Try.results21, go_sem, r0, r1, r2]) rfl ?_
    exact ⟨by rw [HX.out], KB.out⟩
end Go.Proofs.Ytkhfddodmjnecaa
