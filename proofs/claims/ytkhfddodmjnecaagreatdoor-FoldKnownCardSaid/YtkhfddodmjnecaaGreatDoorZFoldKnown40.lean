/-
 The row behind any instruction (rushlightref17.Behind).; The document's row behind a block (rushlightref17.End).; What both rows have (rushlightref17.meet).
-/
import Derived.Test.YtkhfddodmjnecaaGreatDoorZFoldKnown38
import Derived.Test.YtkhfddodmjnecaaGreatDoorZFoldKnown39
import Derived.Test.YtkhfddodmjnecaaGreatDoorZFoldKnown15

set_option linter.all false
namespace Go.Proofs.YtkhfddodmjnecaaGreatDoor
open Go.ChangeShapes Go.WideShapes Go.ChangeAt Go.RowKit
set_option maxHeartbeats 16000000
set_option maxRecDepth 100000
set_option linter.unusedVariables false

theorem rbehind_c (v vi : Value) (r : Ro) (i : In) (w : World) (h : RwV w v (some r)) (hi : InV w vi i) (hl : r.length ≤ 1000) (hok : RoOk r) (hd : defI i ≠ -1 → 0 ≤ defI i ∧ defI i < (r.length : Int)) (hu : UseC r.length i) :
  Calls Tryz.prog 13 #[v, vi] w fun e w' => ∃ v', e = .returned v' ∧ BehP w v r (behC r i) w' v' ∧ Below w.heap.size w w' := by
 by_cases h3 : i.op = 3
 ·exact rbehind_d v vi r i w h hi hl hok hd hu h3
 ·by_cases h4 : i.op = 4
  ·exact rbehind_b v vi r i w h hi hl hok hd hu h4
  ·exact rbehind_a v vi r i w h hi hl hok hd hu ⟨h3, h4⟩
end Go.Proofs.YtkhfddodmjnecaaGreatDoor

set_option linter.all false
namespace Go.Proofs.YtkhfddodmjnecaaGreatDoor
open Go.ChangeShapes Go.WideShapes Go.ChangeAt Go.RowKit
set_option maxHeartbeats 4000000
set_option maxRecDepth 100000
set_option linter.unusedVariables false

/-- while a block's instructions are gone through -/
structure EndM (w : World) (v : Value) (r t : Ro) (vi : Value) (fin a t3 els : Int) (wr : World) (vh vn : Value) : Prop where
 bx : wr.heap[w.heap.size]? = some (.cells #[.bool true, vh, vn] 40)
 b1 : wr.heap[w.heap.size + 1]? = some (.cells #[vi, .int .i64 fin, .int .i64 a, .int .i64 t3, .int .i64 els] 43)
 b2 : wr.heap[w.heap.size + 2]? = some (.cells #[.bool false, .slice none 0 0, .slice none 0 0] 40)
 rw : .agg #[.bool true, vh, vn] = v ∧ t = r ∨ OwRw wr (w.heap.size + 3) (.agg #[.bool true, vh, vn]) true t
 bl : Below w.heap.size w wr
theorem EndM.step {w wr w5 : World} {v : Value} {r t t' : Ro} {vi : Value} {fin a t3 els : Int} {vh vn vh5 vn5 : Value} (h : EndM w v r t vi fin a t3 els wr vh vn) (hb : Below wr.heap.size wr w5)
  (hP : BehP wr (.agg #[.bool true, vh, vn]) t t' w5 (.agg #[.bool true, vh5, vn5])) : EndM w v r t' vi fin a t3 els (((w5.setCell ⟨w.heap.size, 0, none⟩ (.bool true)).setCell ⟨w.heap.size, 1, none⟩ vh5).setCell ⟨w.heap.size, 2, none⟩ vn5) vh5 vn5 := by
 have l0 := (Array.getElem?_eq_some_iff.1 h.b2).1
 have e0 := (hb.block _ (by omega)).trans h.bx
 have e1 := (hb.block _ (by omega)).trans h.b1
 have e2 := (hb.block _ (by omega)).trans h.b2
 refine ⟨?_, ?_, ?_, ?_, ?_⟩
 ·rw [heap_setCell_same _ _ _ _ _ _ (heap_setCell_same _ _ _ _ _ _ (heap_setCell_same _ _ _ _ _ _ e0))]; rfl
 ·exact (Below.heap_setCell _ ⟨_, 2, none⟩ _ _ (by dsimp only; omega)).trans ((Below.heap_setCell _ ⟨_, 1, none⟩ _ _ (by dsimp only; omega)).trans ((Below.heap_setCell _ ⟨_, 0, none⟩ _ _ (by dsimp only; omega)).trans e1))
 ·exact (Below.heap_setCell _ ⟨_, 2, none⟩ _ _ (by dsimp only; omega)).trans ((Below.heap_setCell _ ⟨_, 1, none⟩ _ _ (by dsimp only; omega)).trans ((Below.heap_setCell _ ⟨_, 0, none⟩ _ _ (by dsimp only; omega)).trans e2))
 ·rcases hP with ⟨q1, q2⟩ | q
  ·rcases h.rw with ⟨q3, q4⟩ | q3
   ·exact .inl ⟨q1.trans q3, q2.trans q4⟩
   ·right
    rw [q1, q2]
    exact (q3.below hb).set3 (by omega)
  ·exact .inr ((q.base (by omega)).set3 (by omega))
 ·exact (((h.bl.trans (hb.mono h.bl.size)).setCell (p := ⟨w.heap.size, 0, none⟩) (Nat.le_refl _) _).setCell (p := ⟨w.heap.size, 1, none⟩) (Nat.le_refl _) _).setCell (p := ⟨w.heap.size, 2, none⟩) (Nat.le_refl _) _
theorem RwV.form {w : World} {s : Bool} {vh vn : Value} {o : Option Ro} (h : RwV w (.agg #[.bool s, vh, vn]) o) : ∃ a1 c1 a2 c2, vh = .slice a1 (o.getD []).length c1 ∧ vn = .slice a2 (o.getD []).length c2 := by
 obtain ⟨vh', vn', e, ⟨a1, c1, e1, -⟩, ⟨a2, c2, e2, -⟩⟩ := h
 simp only [Value.agg.injEq, Array.mk.injEq, List.cons.injEq, and_true] at e
 obtain ⟨-, rfl, rfl⟩ := e
 exact ⟨a1, c1, a2, c2, by rw [e1]; simp [hasV], by rw [e2]; simp [numV]⟩
theorem rend_c (v vb : Value) (r : Ro) (b : Bk) (w : World) (h : RwV w v (some r)) (hb : BkV w vb b) (hl : r.length ≤ 1000) (hok : RoOk r) (hi : InsC r.length b.ins) (hu : ∀ i ∈ b.ins, UseC r.length i) (hlen : b.ins.length ≤ 100000) :
  Calls Tryz.prog 37 #[v, vb] w fun e w' => ∃ v', e = .returned v' ∧ BehP w v r (thrC r b.ins) w' v' ∧ Below w.heap.size w w' := by
 obtain ⟨vi, rfl, hvi⟩ := hb
 have HRW := Lib.hid h
 obtain ⟨vh0, vn0, rfl, -⟩ := h
 obtain ⟨ai, ci, rfl, i1, i2, i3⟩ := hvi
 have HIN := Lib.hid (RdIns.at (w := w) (a := ai) (c := ci) (l := b.ins) ⟨ai, ci, rfl, i1, i2, i3⟩).2
 unfold maxLen at i2
 have HI := Lib.hid hi
 have HU := Lib.hid hu
 have HT : Hid (∀ k, RoOk (thrC r (b.ins.take k))) := fun k => thrC_ok hok fun i hh => hi.num i (List.mem_of_mem_take hh)
 have HTL : Hid (∀ l, (thrC r l).length = r.length) := fun l => thrC_len l r
 clear hi hu hok i3
 obtain ⟨B, fin, ba, bto, bel⟩ := b
 dsimp only [Option.isSome_some] at *
 have hA3 := heap3 w (.cells #[.bool true, vh0, vn0] 40) (.cells #[.slice ai B.length ci, .int .i64 fin, .int .i64 ba, .int .i64 bto, .int .i64 bel] 43) (.cells #[.bool false, .slice none 0 0, .slice none 0 0] 40)
 obtain ⟨W0, hW0⟩ : ∃ W0, W0 = (((w.alloc (.cells #[.bool true, vh0, vn0] 40)).alloc (.cells #[.slice ai B.length ci, .int .i64 fin, .int .i64 ba, .int .i64 bto, .int .i64 bel] 43)).alloc (.cells #[.bool false, .slice none 0 0, .slice none 0 0] 40)) := ⟨_, rfl⟩
 rw [← hW0] at hA3
 have HB0 : Hid (Below w.heap.size w W0) := by
  show Below _ _ _
  rw [hW0]; exact (below_alloc w _).alloc (by simp) _ |>.alloc (by simp; omega) _
 have M0 : Hid (EndM w (.agg #[.bool true, vh0, vn0]) r (thrC r (B.take 0)) (.slice ai B.length ci) fin ba bto bel W0 vh0 vn0) := ⟨hA3.1, hA3.2.1, hA3.2.2, .inl ⟨rfl, rfl⟩, HB0.out⟩
 have HW0 := Lib.hid hW0.symm
 clear hA3 hW0 HB0
 go_enter Tryz.func37, Tryz.ntmps37
 go_wp2_with fail
 rw [HW0.out]
 clear HW0
 go_loopw [5] (fun i wr => ∃ (k : Nat) (vh vn : Value), k ≤ B.length ∧ i = .int .i64 (k : Int) ∧ Hid (EndM w (.agg #[.bool true, vh0, vn0]) r (thrC r (B.take k)) (.slice ai B.length ci) fin ba bto bel wr vh vn)) (fun i _ => B.length - (intOf i).toNat)
 case atStart => exact ⟨0, _, _, Nat.zero_le _, rfl, M0⟩
 case round =>
  clear M0
  obtain ⟨k, vh, vn, hk, rfl, M⟩ := hrel
  have hrv : RwV wr (.agg #[.bool true, vh, vn]) (some (thrC r (B.take k))) := by
   rcases M.out.rw with ⟨q1, q2⟩ | q
   ·rw [q1, q2]; exact HRW.out.ext (Ext.below M.out.bl)
   ·exact q.rdS
  obtain ⟨a1, p1, a2, p2, ev1, ev2⟩ := hrv.form
  rw [Option.getD_some, HTL.out] at ev1 ev2
  subst ev1 ev2
  obtain ⟨x0, x1, x2, lx⟩ := cl3 M.out.bx
  obtain ⟨y0, y1, y2, y3, y4, ly⟩ := cl5 M.out.b1
  by_cases hlt : k < B.length
  ·have g1 : decide (k < B.length) = true := decide_eq_true hlt
   have g2 : decide ((k : Int) < (B.length : Int)) = true := decide_eq_true (by omega)
   obtain ⟨ib, io, va, rfl, lib, hva, c0, c1, c2, c3, c4, c5, c6, c7, c8, c9, c10⟩ := HIN.out k hlt
   have lift : ∀ {a : Addr} {u : Value}, w.cell? a = some u → wr.cell? a = some u := fun h => (Ext.below M.out.bl) _ _ h
   have c0 := lift c0
   have c1 := lift c1
   have c2 := lift c2
   have c3 := lift c3
   have c4 := lift c4
   have c5 := lift c5
   have c6 := lift c6
   have c7 := lift c7
   have c8 := lift c8
   have c9 := lift c9
   have c10 := lift c10
   clear lift
   have lib : ib < wr.heap.size := World.block_lt_of_cell? _ _ c0
   have hmem : B.getD k default ∈ B := by simp [List.getD, hlt]
   have HTK := Lib.hid (thrC_take r B k hlt)
   have hdef := HI.out.defs _ hmem
   have huse := HU.out _ hmem
   have HVA := Lib.hid hva
   have hokk := HT.out k
   have hlk := HTL.out (B.take k)
   have HBH : Hid (∀ W, Below wr.heap.size wr W → Calls Tryz.prog 13 #[.agg #[.bool true, .slice a1 r.length p1, .slice a2 r.length p2], aggI (B.getD k default) va] W fun e w' => ∃ v', e = .returned v' ∧ BehP W (.agg #[.bool true, .slice a1 r.length p1, .slice a2 r.length p2]) (thrC r (B.take k)) (behC (thrC r (B.take k)) (B.getD k default)) w' v' ∧ Below W.heap.size W w') := fun W hW =>
    rbehind_c _ _ _ _ W (hrv.ext (Ext.below hW)) ⟨va, rfl, (HVA.out.ext (Ext.below M.out.bl)).ext (Ext.below hW)⟩ (by rw [hlk]; exact hl) hokk (fun hd => by rw [hlk]; exact hdef hd) (by rw [hlk]; exact huse)
   have HRV : Hid (∀ w5 v5, Below wr.heap.size wr w5 → BehP wr (.agg #[.bool true, .slice a1 r.length p1, .slice a2 r.length p2]) (thrC r (B.take k)) (behC (thrC r (B.take k)) (B.getD k default)) w5 v5 → ∃ a3 p3 a4 p4, v5 = .agg #[.bool true, .slice a3 r.length p3, .slice a4 r.length p4]) := fun w5 v5 hw hP => by
    have h5 := hP.rd (hrv.ext (Ext.below hw))
    have h6 := h5
    obtain ⟨vh5, vn5, rfl, -⟩ := h5
    obtain ⟨a3, p3, a4, p4, e3, e4⟩ := h6.form
    rw [Option.getD_some, behC_len, HTL.out] at e3 e4
    rw [e3, e4]
    exact ⟨a3, p3, a4, p4, rfl⟩
   clear hmem hdef huse hokk hlk hrv HVA
   obtain ⟨aa, ac, rfl, -⟩ := hva
   unfold aggI at HBH
   rw [← HTK.out] at HBH HRV
   generalize hT' : thrC r (B.take (k + 1)) = T' at *
   have HT' := Lib.hid hT'
   clear hT'
   generalize thrC r (B.take k) = T at *
   generalize B.getD k default = I at *
   obtain ⟨op, d, a, b, fn, obj, off, size, num, args, lg⟩ := I
   dsimp only at c0 c1 c2 c3 c4 c5 c6 c7 c8 c9 c10 HBH
   clear HTK
   go_wp2_with fail
   refine wp_region_game (fun x => x = w.heap.size ∨ x = w.heap.size + 1 ∨ x = ib) (by kernel_rfl) ?_
   show wpE _ _ _ _ _ _ _ wr.drew
   refine E_mob2s [0, 1, 2, 3, 4, 5] _ _ _ _ (by kernel_rfl) ?_
   simp only [List.map_cons, List.map_nil, List.getElem?_toArray, List.getElem?_cons_succ, List.getElem?_cons_zero, Option.getD_some, List.size_toArray, List.length_cons, List.length_nil, Nat.reduceAdd, Nat.reduceSub]
   repeat (go_big_quiet_step (fail))
   refine wpQuiet_nil ?_
   refine E_loud1 6 _ rfl (by kernel_rfl) ?_
   simp only [List.getElem_toArray, List.getElem_cons_succ, List.getElem_cons_zero]
   go_wp2_with fail
   refine (HBH.out _ (Below.refl _ _).drew).mono ?_
   clear HBH
   rintro e w5 ⟨v5, rfl, hP, hb5⟩
   have hb5' : Below wr.heap.size wr w5 := (Below.refl wr.heap.size wr).drew.trans hb5
   obtain ⟨a3, p3, a4, p4, rfl⟩ := HRV.out w5 v5 hb5' hP
   clear HRV
   have M5 := Lib.hid (M.out.step hb5' hP)
   have hx5 := (hb5'.block _ lx).trans M.out.bx
   obtain ⟨z0, z1, z2, lz⟩ := cl3 hx5
   have fz0 := frozen_of_heap hx5 0
   have fz1 := frozen_of_heap hx5 1
   have fz2 := frozen_of_heap hx5 2
   have HK5 : Hid (Keep (fun x => x = w.heap.size ∨ x = w.heap.size + 1 ∨ x = ib) wr.drew w5) := keep_below hb5 (fun x hx => by rcases hx with rfl | rfl | rfl <;> assumption)
   clear hP hb5 hb5' hx5 x0 x1 x2 y0 y1 y2 y3 y4 c0 c1 c2 c3 c4 c5 c6 c7 c8 c9 c10
   go_wp2_with fail
   refine ⟨HK5.out, ?_⟩
   refine E_last 7 _ rfl (by kernel_rfl) ?_
   simp only [List.getElem_toArray, List.getElem_cons_succ, List.getElem_cons_zero]
   go_wp2_with fail
   refine E_done (by kernel_rfl) ?_ _
   clear HK5 M z0 z1 z2 lz fz0 fz1 fz2
   go_wp2_with fail
   go_roundw
   case rel => exact ⟨k + 1, _, _, hlt, by go_num, by rw [HT'.out]; exact M5⟩
   case measure => simp [intOf]; omega
  ·clear hrv
   obtain rfl : k = B.length := by omega
   obtain ⟨r0, r1, r2, lr⟩ := cl3 M.out.b2
   have fr0 := frozen_of_heap M.out.b2 0
   have fr1 := frozen_of_heap M.out.b2 1
   have fr2 := frozen_of_heap M.out.b2 2
   go_wp2_with fail
   refine bodyPost_ret (v := .agg #[.bool true, .slice a1 r.length p1, .slice a2 r.length p2]) (by simp [results, Tryz.results37, go_sem, r0, r1, r2]) rfl ?_
   have hr := M.out.rw
   rw [List.take_length] at hr
   refine ⟨_, rfl, ?_, ((M.out.bl.setCell (p := ⟨w.heap.size + 2, 0, none⟩) (by simp) _).setCell (p := ⟨w.heap.size + 2, 1, none⟩) (by simp) _).setCell (p := ⟨w.heap.size + 2, 2, none⟩) (by simp) _⟩
   rcases hr with ⟨q1, q2⟩ | q
   ·exact .inl ⟨q1, q2⟩
   ·exact .inr ((q.set3 (by omega)).base (by omega))
end Go.Proofs.YtkhfddodmjnecaaGreatDoor

set_option linter.all false
namespace Go.Proofs.YtkhfddodmjnecaaGreatDoor
open Go.ChangeShapes Go.WideShapes Go.ChangeAt Go.RowKit
set_option maxHeartbeats 4000000
set_option maxRecDepth 100000
set_option linter.unusedVariables false

def meetO (o : Option Ro) (t : Ro) : Ro := match o with
 | none => t
 | some a => meetC a t
/-- met up to k -/
def mrgC (a t : Ro) (k : Nat) : Ro := (List.range a.length).map fun i => if i < k then (meetC a t).getD i none else a.getD i none
theorem mrgC_len (a t : Ro) (k : Nat) : (mrgC a t k).length = a.length := by simp [mrgC]
theorem mrgC_get (a t : Ro) (k i : Nat) (h : i < a.length) : (mrgC a t k).getD i none = if i < k then (meetC a t).getD i none else a.getD i none := by simp [mrgC, List.getD, h]
theorem mrgC_zero (a t : Ro) : mrgC a t 0 = a := ro_ext (mrgC_len _ _ _) fun i => by
 by_cases h : i < a.length
 ·rw [mrgC_get _ _ _ _ h, if_neg (Nat.not_lt_zero _)]
 ·have e1 : (mrgC a t 0)[i]? = none := List.getElem?_eq_none (by rw [mrgC_len]; omega)
  have e2 : a[i]? = none := List.getElem?_eq_none (by omega)
  rw [List.getD_eq_getElem?_getD, e1, List.getD_eq_getElem?_getD, e2]
theorem mrgC_all (a t : Ro) : mrgC a t a.length = meetC a t := ro_ext (by rw [mrgC_len, meetC_len]) fun i => by
 by_cases h : i < a.length
 ·rw [mrgC_get _ _ _ _ h, if_pos h]
 ·have e1 : (mrgC a t a.length)[i]? = none := List.getElem?_eq_none (by rw [mrgC_len]; omega)
  have e2 : (meetC a t)[i]? = none := List.getElem?_eq_none (by rw [meetC_len]; omega)
  rw [List.getD_eq_getElem?_getD, e1, List.getD_eq_getElem?_getD, e2]
theorem mrgC_on (a t : Ro) (k : Nat) (h : k < a.length) : mrgC a t (k + 1) = (mrgC a t k).set k ((meetC a t).getD k none) := ro_ext (by rw [List.length_set, mrgC_len, mrgC_len]) fun i => by
 by_cases hi : i < a.length
 ·rw [mrgC_get _ _ _ _ hi]
  by_cases e : i = k
  ·subst e
   rw [if_pos (by omega)]
   simp [List.getD, mrgC_len, hi]
  ·rw [show ((mrgC a t k).set k ((meetC a t).getD k none)).getD i none = (mrgC a t k).getD i none by simp [List.getD, List.getElem?_set, Ne.symm e], mrgC_get _ _ _ _ hi]
   by_cases e2 : i < k
   ·rw [if_pos e2, if_pos (by omega)]
   ·rw [if_neg e2, if_neg (by omega)]
 ·have e1 : (mrgC a t (k + 1))[i]? = none := List.getElem?_eq_none (by rw [mrgC_len]; omega)
  have e2 : ((mrgC a t k).set k ((meetC a t).getD k none))[i]? = none := List.getElem?_eq_none (by rw [List.length_set, mrgC_len]; omega)
  rw [List.getD_eq_getElem?_getD, e1, List.getD_eq_getElem?_getD, e2]
theorem set_same {t : Ro} {k : Nat} {o : Option Int} (h : t.getD k none = o) : t.set k o = t := ro_ext (by simp) fun i => by
 by_cases e : k = i
 ·subst e
  by_cases hl : k < t.length
  ·rw [show (t.set k o).getD k none = o by simp [List.getD, hl], h]
  ·have e1 : (t.set k o)[k]? = none := List.getElem?_eq_none (by simp; omega)
   have e2 : t[k]? = none := List.getElem?_eq_none (by omega)
   rw [List.getD_eq_getElem?_getD, e1, List.getD_eq_getElem?_getD, e2]
 ·simp [List.getD, List.getElem?_set, e]
/-- what is taken away, and what stays -/
theorem mrgC_go {a t : Ro} {k : Nat} (h : k < a.length) (hn : (t.getD k none).isSome = false ∨ (t.getD k none).getD 0 ≠ ((mrgC a t k).getD k none).getD 0) : mrgC a t (k + 1) = (mrgC a t k).set k none := by
 rw [mrgC_on _ _ _ h]
 congr 1
 rw [mrgC_get _ _ _ _ h, if_neg (Nat.lt_irrefl _)] at hn
 rw [meetC_get]
 cases ha : a.getD k none with
 | none => split <;> rfl
 | some x =>
  rw [ha] at hn
  cases ht : t.getD k none with
  | none => rw [if_neg (by simp)]
  | some y =>
   rw [ht] at hn
   simp only [Option.isSome_some, Bool.true_eq_false, false_or, Option.getD_some] at hn
   rw [if_neg (by simp only [Option.some.injEq]; exact fun e => hn e.symm)]
theorem mrgC_stay {a t : Ro} {k : Nat} (h : k < a.length) (h1 : (t.getD k none).isSome = true) (h2 : (t.getD k none).getD 0 = ((mrgC a t k).getD k none).getD 0) : mrgC a t (k + 1) = mrgC a t k := by
 rw [mrgC_on _ _ _ h]
 refine set_same ?_
 rw [mrgC_get _ _ _ _ h, if_neg (Nat.lt_irrefl _)] at h2 ⊢
 rw [meetC_get]
 cases ha : a.getD k none with
 | none => split <;> rfl
 | some x =>
  rw [ha] at h2
  cases ht : t.getD k none with
  | none => rw [ht] at h1; cases h1
  | some y =>
   rw [ht] at h2
   simp only [Option.getD_some] at h2
   rw [h2, if_pos rfl]
theorem rmeet_c (va vb : Value) (o : Option Ro) (t : Ro) (w : World) (ha : RwV w va o) (hb : RwV w vb (some t)) (hl : t.length ≤ 1000) (hla : ∀ a, o = some a → a.length = t.length) :
  Calls Tryz.prog 36 #[va, vb] w fun e w' => ∃ v', e = .returned v' ∧ OwRw w' w.heap.size v' true (meetO o t) ∧ Below w.heap.size w w' := by
 have HCA : Hid (∀ W, Ext w W → Calls Tryz.prog 38 #[va] W fun e w' => ∃ v', e = .returned v' ∧ OwRw w' W.heap.size v' o.isSome (o.getD []) ∧ Below W.heap.size W w') := fun W hW => copied_c va o W (ha.ext hW) (by
  cases o with
  | none => simp
  | some a => rw [Option.getD_some, hla a rfl]; exact hl)
 have HCB : Hid (∀ W, Ext w W → Calls Tryz.prog 38 #[vb] W fun e w' => ∃ v', e = .returned v' ∧ OwRw w' W.heap.size v' true t ∧ Below W.heap.size W w') := fun W hW => copied_c vb (some t) W (hb.ext hW) hl
 have HLA := Lib.hid hla
 obtain ⟨vha, vna, rfl, -⟩ := ha
 obtain ⟨vh, vn, rfl, hh, hn⟩ := hb
 dsimp only [Option.getD_some, Option.isSome_some] at hh hn HCB ⊢
 obtain ⟨ah, ch, rfl, h1, h2, h3⟩ := hh
 obtain ⟨an, cn, rfl, n1, n2, n3⟩ := hn
 have hhl : (hasV t).length = t.length := by simp [hasV]
 have hnl : (numV t).length = t.length := by simp [numV]
 rw [hhl] at h1 h3 HCB ⊢
 rw [hnl] at n1 n3 HCB ⊢
 unfold maxLen at h2 n2
 have H3 := Lib.hid h3
 have N3 := Lib.hid n3
 clear h3 n3 hhl hnl hla
 have hA3 := heap3 w (.cells #[.bool o.isSome, vha, vna] 40) (.cells #[.bool true, .slice ah t.length ch, .slice an t.length cn] 40) (.cells #[.bool false, .slice none 0 0, .slice none 0 0] 40)
 obtain ⟨W0, hW0⟩ : ∃ W0, W0 = (((w.alloc (.cells #[.bool o.isSome, vha, vna] 40)).alloc (.cells #[.bool true, .slice ah t.length ch, .slice an t.length cn] 40)).alloc (.cells #[.bool false, .slice none 0 0, .slice none 0 0] 40)) := ⟨_, rfl⟩
 rw [← hW0] at hA3
 have hz : w.heap.size + 3 ≤ W0.heap.size := by rw [hW0]; simp
 have HA := Lib.hid hA3.1
 have HB := Lib.hid hA3.2.1
 have HR := Lib.hid hA3.2.2
 have HB0 : Hid (Below w.heap.size w W0) := by
  show Below _ _ _
  rw [hW0]; exact (below_alloc w _).alloc (by simp) _ |>.alloc (by simp; omega) _
 have HW0 := Lib.hid hW0.symm
 clear hA3 hW0
 cases o with
 | none =>
  dsimp only [Option.isSome_none] at *
  obtain ⟨b0, b1, b2, lb⟩ := cl3 HB.out
  obtain ⟨a0, a1, a2, la⟩ := cl3 HA.out
  go_enter Tryz.func36, Tryz.ntmps36
  go_wp2_with fail
  rw [HW0.out]
  clear HW0
  refine (HCB.out W0 (Ext.below HB0.out)).mono ?_
  rintro e w3 ⟨v', rfl, ho, hb3⟩
  have HR := Lib.hid ((hb3.block _ (by omega)).trans HR.out)
  have hz3 : w.heap.size + 3 ≤ w3.heap.size := by have := hb3.size; omega
  obtain ⟨r0, r1, r2, lr⟩ := cl3 HR.out
  have fr0 := frozen_of_heap HR.out 0
  have fr1 := frozen_of_heap HR.out 1
  have fr2 := frozen_of_heap HR.out 2
  have HO := Lib.hid (fun u1 u2 => ho.set3 (b := w.heap.size + 2) (u0 := .bool true) (u1 := u1) (u2 := u2) (by omega))
  obtain ⟨vh3, vn3, rfl, oo1, oo2⟩ := ho
  obtain ⟨p3, p4, rfl⟩ := ow_form oo1
  obtain ⟨p5, p6, rfl⟩ := ow_form oo2
  clear oo1 oo2
  have B3 := Lib.hid (HB0.out.trans (hb3.mono HB0.out.size))
  clear hb3 b0 b1 b2 lb a0 a1 a2 la
  go_wp2_with fail
  refine bodyPost_ret (v := .agg #[.bool true, .slice p3 t.length p4, .slice p5 t.length p6]) (by simp [results, Tryz.results36, go_sem, r0, r1, r2]) rfl ?_
  exact ⟨_, rfl, (HO.out _ _).base (by omega), ((B3.out.setCell (p := ⟨w.heap.size + 2, 0, none⟩) (by simp) _).setCell (p := ⟨w.heap.size + 2, 1, none⟩) (by simp) _).setCell (p := ⟨w.heap.size + 2, 2, none⟩) (by simp) _⟩
 | some a =>
  have hal := HLA.out a rfl
  dsimp only [Option.isSome_some, Option.getD_some] at *
  obtain ⟨b0, b1, b2, lb⟩ := cl3 HB.out
  obtain ⟨a0, a1, a2, la⟩ := cl3 HA.out
  clear HLA
  go_enter Tryz.func36, Tryz.ntmps36
  have HAL := Lib.hid hal
  clear hal
  go_wp2_with fail
  rw [HW0.out]
  clear HW0
  refine (HCA.out W0 (Ext.below HB0.out)).mono ?_
  rintro e w3 ⟨v', rfl, ⟨vh3, vn3, rfl, oh, on⟩, hb3⟩
  rw [HAL.out] at oh on
  have HR := Lib.hid ((hb3.block _ (by omega)).trans HR.out)
  have HB := Lib.hid ((hb3.block _ (by omega)).trans HB.out)
  have hz3 : w.heap.size + 3 ≤ w3.heap.size := by have := hb3.size; omega
  obtain ⟨ah3, ch3, rfl⟩ := ow_form oh
  obtain ⟨an3, cn3, rfl⟩ := ow_form on
  have M0 : Hid (BhM W0 W0.heap.size w3.heap.size t.length (w3.alloc (.cells #[.bool true, .slice ah3 t.length ch3, .slice an3 t.length cn3] 40)) (.slice ah3 t.length ch3) (.slice an3 t.length cn3) (hasV (mrgC a t 0)) (numV (mrgC a t 0))) := by
   rw [mrgC_zero]
   exact ⟨heap_alloc_new w3 _, own_below oh (below_alloc w3 _), own_below on (below_alloc w3 _), hb3.trans ((below_alloc w3 _).mono hb3.size), hb3.size⟩
  have B3 := Lib.hid HB0.out
  have HRW : Hid (∀ wr, Below W0.heap.size W0 wr → wr.heap[w.heap.size + 1]? = some (.cells #[.bool true, .slice ah t.length ch, .slice an t.length cn] 40) ∧ wr.heap[w.heap.size + 2]? = some (.cells #[.bool false, .slice none 0 0, .slice none 0 0] 40) ∧ Below w.heap.size w wr) := fun wr h => by
   have e1 := (hb3.block (w.heap.size + 1) (by omega)).symm.trans HB.out
   have e2 := (hb3.block (w.heap.size + 2) (by omega)).symm.trans HR.out
   exact ⟨(h.block _ (by omega)).trans e1, (h.block _ (by omega)).trans e2, HB0.out.trans (h.mono (by omega))⟩
  have HCV : Hid (∀ W, Ext w W → ∀ i, i < t.length → ∃ b o, ah = some ⟨b, o, none⟩ ∧ b < w.heap.size ∧ W.cell? ⟨b, o + i, none⟩ = some (.bool (t.getD i none).isSome)) := fun W hW i hi => by
   obtain ⟨b, o, e1, e2⟩ := H3.out i hi
   rw [show (hasV t)[i]? = some (.bool (t.getD i none).isSome) by simp [hasV, List.getD, hi]] at e2
   exact ⟨b, o, e1, World.block_lt_of_cell? _ _ e2, hW _ _ e2⟩
  have HNV : Hid (∀ W, Ext w W → ∀ i, i < t.length → ∃ b o, an = some ⟨b, o, none⟩ ∧ b < w.heap.size ∧ W.cell? ⟨b, o + i, none⟩ = some (.int .u32 ((t.getD i none).getD 0))) := fun W hW i hi => by
   obtain ⟨b, o, e1, e2⟩ := N3.out i hi
   rw [show (numV t)[i]? = some (.int .u32 ((t.getD i none).getD 0)) by simp [numV, List.getD, hi]] at e2
   exact ⟨b, o, e1, World.block_lt_of_cell? _ _ e2, hW _ _ e2⟩
  have hzz := hb3.size
  have hz0 := hz
  clear b0 b1 b2 lb a0 a1 a2 la HB HR oh on HCA HCB H3 N3 hb3 HB0 hz3 HA
  go_wp2_with fail
  generalize w3.alloc (.cells #[.bool true, .slice ah3 t.length ch3, .slice an3 t.length cn3] 40) = W4 at *
  generalize hb5 : w3.heap.size = b5 at *
  clear hb5
  go_loopw [6] (fun i wr => ∃ k : Nat, k ≤ t.length ∧ i = .int .i64 (k : Int) ∧ Hid (BhM W0 W0.heap.size b5 t.length wr (.slice ah3 t.length ch3) (.slice an3 t.length cn3) (hasV (mrgC a t k)) (numV (mrgC a t k)))) (fun i _ => t.length - (intOf i).toNat)
  case atStart => exact ⟨0, Nat.zero_le _, rfl, M0⟩
  case round =>
   clear M0
   obtain ⟨k, hk, rfl, M⟩ := hrel
   obtain ⟨hB6, hR6, b6⟩ := HRW.out wr M.out.bl
   obtain ⟨z0, z1, z2, lz⟩ := cl3 M.out.bx
   by_cases hlt : k < t.length
   ·obtain ⟨x0, x1, x2, lx⟩ := cl3 hB6
    have g1 : decide (k < t.length) = true := decide_eq_true hlt
    have g2 : decide ((k : Int) < (t.length : Int)) = true := decide_eq_true (by omega)
    obtain ⟨gh, c', e⟩ := own_slice M.out.oh (by omega)
    simp only [Value.slice.injEq] at e
    obtain ⟨rfl, -, rfl⟩ := e
    obtain ⟨gn, c', e⟩ := own_slice M.out.on (by omega)
    simp only [Value.slice.injEq] at e
    obtain ⟨rfl, -, rfl⟩ := e
    obtain ⟨m1, m2, m3, m4, m5⟩ := M.out.ne (by omega)
    obtain ⟨cgh, cgn, fgh, fgn, lgh, lgn⟩ := M.out.at hlt
    obtain ⟨bh, oh, rfl, lbh, ch0⟩ := HCV.out wr (Ext.below b6) k hlt
    obtain ⟨bn, on, rfl, lbn, cn0⟩ := HNV.out wr (Ext.below b6) k hlt
    have hka : k < a.length := by rw [HAL.out]; exact hlt
    have HGO := Lib.hid (mrgC_go (a := a) (t := t) hka)
    have HST := Lib.hid (mrgC_stay (a := a) (t := t) hka)
    rw [show (hasV (mrgC a t k))[k]? = some (.bool ((mrgC a t k).getD k none).isSome) by simp [hasV, List.getD, mrgC_len, hka]] at cgh
    rw [show (numV (mrgC a t k))[k]? = some (.int .u32 (((mrgC a t k).getD k none).getD 0)) by simp [numV, List.getD, mrgC_len, hka]] at cgn
    have HM : Hid (∀ W, Below wr.heap.size wr W → BhM W0 W0.heap.size b5 t.length ((W.setCell ⟨gh, k, none⟩ (.bool false)).setCell ⟨gn, k, none⟩ (.int .u32 0)) (.slice (some ⟨gh, 0, none⟩) t.length ch3) (.slice (some ⟨gn, 0, none⟩) t.length cn3) (hasV ((mrgC a t k).set k none)) (numV ((mrgC a t k).set k none))) := fun W hW => (M.out.below hW).set hlt none
    have HB7 : Hid (∀ W, Below wr.heap.size wr W → BhM W0 W0.heap.size b5 t.length W (.slice (some ⟨gh, 0, none⟩) t.length ch3) (.slice (some ⟨gn, 0, none⟩) t.length cn3) (hasV (mrgC a t k)) (numV (mrgC a t k))) := fun W hW => M.out.below hW
    have lhz : gh < wr.heap.size ∧ gn < wr.heap.size := ⟨lgh, lgn⟩
    have n1 : gh ≠ bh := by omega
    have n2 : gn ≠ bn := by omega
    have n3 : gh ≠ bn := by omega
    have n4 : gn ≠ bh := by omega
    have n5 : gh ≠ w.heap.size + 1 := by omega
    have n6 : gn ≠ w.heap.size + 1 := by omega
    clear hka hB6 hR6 b6 M
    generalize hs : (t.getD k none).isSome = S at *
    generalize hx : (t.getD k none).getD 0 = X at *
    generalize hy : ((mrgC a t k).getD k none).getD 0 = Y at *
    generalize ((mrgC a t k).getD k none).isSome = SY at *
    clear hs hx hy
    cases S
    ·have HT : Hid (mrgC a t (k + 1) = (mrgC a t k).set k none) := HGO.out (.inl rfl)
     clear HGO HST
     go_wp2_with fail
     go_quiet (fail)
     have HM8 := Lib.hid (HM.out _ (below_drewN2 wr nq))
     rw [← HT.out] at HM8
     clear HM HB7
     go_wp2_with fail
     go_roundw
     case rel => exact ⟨k + 1, hlt, by go_num, HM8⟩
     case measure => simp [intOf]; omega
    ·by_cases hxy : X = Y
     ·subst hxy
      have HT : Hid (mrgC a t (k + 1) = mrgC a t k) := HST.out rfl rfl
      clear HGO HST
      go_wp2_with fail
      go_quiet (fail)
      have HM8 := Lib.hid (HB7.out _ (below_drewN2 wr nq))
      rw [← HT.out] at HM8
      clear HM HB7
      go_wp2_with fail
      go_roundw
      case rel => exact ⟨k + 1, hlt, by go_num, HM8⟩
      case measure => simp [intOf]; omega
     ·have HT : Hid (mrgC a t (k + 1) = (mrgC a t k).set k none) := HGO.out (.inr hxy)
      have e1 : (X == Y) = false := beq_eq_false_iff_ne.2 hxy
      have e2 : (X != Y) = true := bne_iff_ne.2 hxy
      clear HGO HST hxy
      go_wp2_with fail
      go_quiet (fail)
      have HM8 := Lib.hid (HM.out _ (below_drewN2 wr nq))
      rw [← HT.out] at HM8
      clear HM HB7
      go_wp2_with fail
      go_roundw
      case rel => exact ⟨k + 1, hlt, by go_num, HM8⟩
      case measure => simp [intOf]; omega
   ·obtain rfl : k = t.length := by omega
    obtain ⟨r0, r1, r2, lr⟩ := cl3 hR6
    have fr0 := frozen_of_heap hR6 0
    have fr1 := frozen_of_heap hR6 1
    have fr2 := frozen_of_heap hR6 2
    have oh := M.out.oh
    have on := M.out.on
    have hml : (meetC a t).length = t.length := by rw [meetC_len]; exact HAL.out
    rw [← HAL.out, mrgC_all, HAL.out] at oh on
    have HO : Hid (OwRw wr W0.heap.size (.agg #[.bool true, .slice ah3 t.length ch3, .slice an3 t.length cn3]) true (meetC a t)) := ⟨_, _, rfl, by rw [hml]; exact oh, by rw [hml]; exact on⟩
    clear oh on hml
    have B8 := Lib.hid b6
    clear b6 hB6 hR6
    go_wp2_with fail
    refine bodyPost_ret (v := .agg #[.bool true, .slice ah3 t.length ch3, .slice an3 t.length cn3]) (by simp [results, Tryz.results36, go_sem, r0, r1, r2]) rfl ?_
    exact ⟨_, rfl, (HO.out.set3 (by omega)).base (by omega), ((B8.out.setCell (p := ⟨w.heap.size + 2, 0, none⟩) (by simp) _).setCell (p := ⟨w.heap.size + 2, 1, none⟩) (by simp) _).setCell (p := ⟨w.heap.size + 2, 2, none⟩) (by simp) _⟩
end Go.Proofs.YtkhfddodmjnecaaGreatDoor
