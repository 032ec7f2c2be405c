/-
 The row behind any instruction (rushlightref17.Behind).; The document's row behind a block (rushlightref17.End).
-/
import Derived.Test.YtkhfddodmjnecaaZFoldConsts42
import Derived.Test.YtkhfddodmjnecaaZFoldConsts43
import Derived.Test.YtkhfddodmjnecaaZFoldConsts07

set_option linter.all false
namespace Go.Proofs.Ytkhfddodmjnecaa
open Go.ChangeShapes Go.WideShapes Go.ChangeAt Go.RowKit
set_option maxHeartbeats 16000000
set_option maxRecDepth 100000
set_option linter.unusedVariables false

theorem rbehind_c (v vi : Value) (r : Ro) (i : In) (w : World) (h : RwV w v (some r)) (hi : InV w vi i) (hl : r.length ≤ 1000) (hok : RoOk r) (hd : defI i ≠ -1 → 0 ≤ defI i ∧ defI i < (r.length : Int)) (hu : UseC r.length i) :
  Calls Try.prog 124 #[v, vi] w fun e w' => ∃ v', e = .returned v' ∧ BehP w v r (behC r i) w' v' ∧ Below w.heap.size w w' := by
 by_cases h3 : i.op = 3
 ·exact rbehind_d v vi r i w h hi hl hok hd hu h3
 ·by_cases h4 : i.op = 4
  ·exact rbehind_b v vi r i w h hi hl hok hd hu h4
  ·exact rbehind_a v vi r i w h hi hl hok hd hu ⟨h3, h4⟩
end Go.Proofs.Ytkhfddodmjnecaa

set_option linter.all false
namespace Go.Proofs.Ytkhfddodmjnecaa
open Go.ChangeShapes Go.WideShapes Go.ChangeAt Go.RowKit
set_option maxHeartbeats 4000000
set_option maxRecDepth 100000
set_option linter.unusedVariables false

/-- while a block's instructions are gone through -/
structure EndM (w : World) (v : Value) (r t : Ro) (vi : Value) (fin a t3 els : Int) (wr : World) (vh vn : Value) : Prop where
 bx : wr.heap[w.heap.size]? = some (.cells #[.bool true, vh, vn] 83)
 b1 : wr.heap[w.heap.size + 1]? = some (.cells #[vi, .int .i64 fin, .int .i64 a, .int .i64 t3, .int .i64 els] 35)
 b2 : wr.heap[w.heap.size + 2]? = some (.cells #[.bool false, .slice none 0 0, .slice none 0 0] 83)
 rw : .agg #[.bool true, vh, vn] = v ∧ t = r ∨ OwRw wr (w.heap.size + 3) (.agg #[.bool true, vh, vn]) true t
 bl : Below w.heap.size w wr
theorem EndM.step {w wr w5 : World} {v : Value} {r t t' : Ro} {vi : Value} {fin a t3 els : Int} {vh vn vh5 vn5 : Value} (h : EndM w v r t vi fin a t3 els wr vh vn) (hb : Below wr.heap.size wr w5)
  (hP : BehP wr (.agg #[.bool true, vh, vn]) t t' w5 (.agg #[.bool true, vh5, vn5])) : EndM w v r t' vi fin a t3 els (((w5.setCell ⟨w.heap.size, 0, none⟩ (.bool true)).setCell ⟨w.heap.size, 1, none⟩ vh5).setCell ⟨w.heap.size, 2, none⟩ vn5) vh5 vn5 := by
 have l0 := (Array.getElem?_eq_some_iff.1 h.b2).1
 have e0 := (hb.block _ (by omega)).trans h.bx
 have e1 := (hb.block _ (by omega)).trans h.b1
 have e2 := (hb.block _ (by omega)).trans h.b2
 refine ⟨?_, ?_, ?_, ?_, ?_⟩
 ·rw [heap_setCell_same _ _ _ _ _ _ (heap_setCell_same _ _ _ _ _ _ (heap_setCell_same _ _ _ _ _ _ e0))]; rfl
 ·exact (Below.heap_setCell _ ⟨_, 2, none⟩ _ _ (by dsimp only; omega)).trans ((Below.heap_setCell _ ⟨_, 1, none⟩ _ _ (by dsimp only; omega)).trans ((Below.heap_setCell _ ⟨_, 0, none⟩ _ _ (by dsimp only; omega)).trans e1))
 ·exact (Below.heap_setCell _ ⟨_, 2, none⟩ _ _ (by dsimp only; omega)).trans ((Below.heap_setCell _ ⟨_, 1, none⟩ _ _ (by dsimp only; omega)).trans ((Below.heap_setCell _ ⟨_, 0, none⟩ _ _ (by dsimp only; omega)).trans e2))
 ·rcases hP with ⟨q1, q2⟩ | q
  ·rcases h.rw with ⟨q3, q4⟩ | q3
   ·exact .inl ⟨q1.trans q3, q2.trans q4⟩
   ·right
    rw [q1, q2]
    exact (q3.below hb).set3 (by omega)
  ·exact .inr ((q.base (by omega)).set3 (by omega))
 ·exact (((h.bl.trans (hb.mono h.bl.size)).setCell (p := ⟨w.heap.size, 0, none⟩) (Nat.le_refl _) _).setCell (p := ⟨w.heap.size, 1, none⟩) (Nat.le_refl _) _).setCell (p := ⟨w.heap.size, 2, none⟩) (Nat.le_refl _) _
theorem RwV.form {w : World} {s : Bool} {vh vn : Value} {o : Option Ro} (h : RwV w (.agg #[.bool s, vh, vn]) o) : ∃ a1 c1 a2 c2, vh = .slice a1 (o.getD []).length c1 ∧ vn = .slice a2 (o.getD []).length c2 := by
 obtain ⟨vh', vn', e, ⟨a1, c1, e1, -⟩, ⟨a2, c2, e2, -⟩⟩ := h
 simp only [Value.agg.injEq, Array.mk.injEq, List.cons.injEq, and_true] at e
 obtain ⟨-, rfl, rfl⟩ := e
 exact ⟨a1, c1, a2, c2, by rw [e1]; simp [hasV], by rw [e2]; simp [numV]⟩
theorem rend_c (v vb : Value) (r : Ro) (b : Bk) (w : World) (h : RwV w v (some r)) (hb : BkV w vb b) (hl : r.length ≤ 1000) (hok : RoOk r) (hi : InsC r.length b.ins) (hu : ∀ i ∈ b.ins, UseC r.length i) (hlen : b.ins.length ≤ 100000) :
  Calls Try.prog 83 #[v, vb] w fun e w' => ∃ v', e = .returned v' ∧ BehP w v r (thrC r b.ins) w' v' ∧ Below w.heap.size w w' := by
 obtain ⟨vi, rfl, hvi⟩ := hb
 have HRW := Lib.hid h
 obtain ⟨vh0, vn0, rfl, -⟩ := h
 obtain ⟨ai, ci, rfl, i1, i2, i3⟩ := hvi
 have HIN := Lib.hid (RdIns.at (w := w) (a := ai) (c := ci) (l := b.ins) ⟨ai, ci, rfl, i1, i2, i3⟩).2
 unfold maxLen at i2
 have HI := Lib.hid hi
 have HU := Lib.hid hu
 have HT : Hid (∀ k, RoOk (thrC r (b.ins.take k))) := fun k => thrC_ok hok fun i hh => hi.num i (List.mem_of_mem_take hh)
 have HTL : Hid (∀ l, (thrC r l).length = r.length) := fun l => thrC_len l r
 clear hi hu hok i3
 obtain ⟨B, fin, ba, bto, bel⟩ := b
 dsimp only [Option.isSome_some] at *
 have hA3 := heap3 w (.cells #[.bool true, vh0, vn0] 83) (.cells #[.slice ai B.length ci, .int .i64 fin, .int .i64 ba, .int .i64 bto, .int .i64 bel] 35) (.cells #[.bool false, .slice none 0 0, .slice none 0 0] 83)
 obtain ⟨W0, hW0⟩ : ∃ W0, W0 = (((w.alloc (.cells #[.bool true, vh0, vn0] 83)).alloc (.cells #[.slice ai B.length ci, .int .i64 fin, .int .i64 ba, .int .i64 bto, .int .i64 bel] 35)).alloc (.cells #[.bool false, .slice none 0 0, .slice none 0 0] 83)) := ⟨_, rfl⟩
 rw [← hW0] at hA3
 have HB0 : Hid (Below w.heap.size w W0) := by
  show Below _ _ _
  rw [hW0]; exact (below_alloc w _).alloc (by simp) _ |>.alloc (by simp; omega) _
 have M0 : Hid (EndM w (.agg #[.bool true, vh0, vn0]) r (thrC r (B.take 0)) (.slice ai B.length ci) fin ba bto bel W0 vh0 vn0) := ⟨hA3.1, hA3.2.1, hA3.2.2, .inl ⟨rfl, rfl⟩, HB0.out⟩
 have HW0 := Lib.hid hW0.symm
 clear hA3 hW0 HB0
 go_enter Try.func83, Try.ntmps83
 go_wp2_with fail
 rw [HW0.out]
 clear HW0
 go_loopw [5] (fun i wr => ∃ (k : Nat) (vh vn : Value), k ≤ B.length ∧ i = .int .i64 (k : Int) ∧ Hid (EndM w (.agg #[.bool true, vh0, vn0]) r (thrC r (B.take k)) (.slice ai B.length ci) fin ba bto bel wr vh vn)) (fun i _ => B.length - (intOf i).toNat)
 case atStart => exact ⟨0, _, _, Nat.zero_le _, rfl, M0⟩
 case round =>
  clear M0
  obtain ⟨k, vh, vn, hk, rfl, M⟩ := hrel
  have hrv : RwV wr (.agg #[.bool true, vh, vn]) (some (thrC r (B.take k))) := by
   rcases M.out.rw with ⟨q1, q2⟩ | q
   ·rw [q1, q2]; exact HRW.out.ext (Ext.below M.out.bl)
   ·exact q.rdS
  obtain ⟨a1, p1, a2, p2, ev1, ev2⟩ := hrv.form
  rw [Option.getD_some, HTL.out] at ev1 ev2
  subst ev1 ev2
  obtain ⟨x0, x1, x2, lx⟩ := cl3 M.out.bx
  obtain ⟨y0, y1, y2, y3, y4, ly⟩ := cl5 M.out.b1
  by_cases hlt : k < B.length
  ·have g1 : decide (k < B.length) = true := decide_eq_true hlt
   have g2 : decide ((k : Int) < (B.length : Int)) = true := decide_eq_true (by omega)
   obtain ⟨ib, io, va, rfl, lib, hva, c0, c1, c2, c3, c4, c5, c6, c7, c8, c9, c10⟩ := HIN.out k hlt
   have lift : ∀ {a : Addr} {u : Value}, w.cell? a = some u → wr.cell? a = some u := fun h => (Ext.below M.out.bl) _ _ h
   have c0 := lift c0
   have c1 := lift c1
   have c2 := lift c2
   have c3 := lift c3
   have c4 := lift c4
   have c5 := lift c5
   have c6 := lift c6
   have c7 := lift c7
   have c8 := lift c8
   have c9 := lift c9
   have c10 := lift c10
   clear lift
   have lib : ib < wr.heap.size := World.block_lt_of_cell? _ _ c0
   have hmem : B.getD k default ∈ B := by simp [List.getD, hlt]
   have HTK := Lib.hid (thrC_take r B k hlt)
   have hdef := HI.out.defs _ hmem
   have huse := HU.out _ hmem
   have HVA := Lib.hid hva
   have hokk := HT.out k
   have hlk := HTL.out (B.take k)
   have HBH : Hid (∀ W, Below wr.heap.size wr W → Calls Try.prog 124 #[.agg #[.bool true, .slice a1 r.length p1, .slice a2 r.length p2], aggI (B.getD k default) va] W fun e w' => ∃ v', e = .returned v' ∧ BehP W (.agg #[.bool true, .slice a1 r.length p1, .slice a2 r.length p2]) (thrC r (B.take k)) (behC (thrC r (B.take k)) (B.getD k default)) w' v' ∧ Below W.heap.size W w') := fun W hW =>
    rbehind_c _ _ _ _ W (hrv.ext (Ext.below hW)) ⟨va, rfl, (HVA.out.ext (Ext.below M.out.bl)).ext (Ext.below hW)⟩ (by rw [hlk]; exact hl) hokk (fun hd => by rw [hlk]; exact hdef hd) (by rw [hlk]; exact huse)
   have HRV : Hid (∀ w5 v5, Below wr.heap.size wr w5 → BehP wr (.agg #[.bool true, .slice a1 r.length p1, .slice a2 r.length p2]) (thrC r (B.take k)) (behC (thrC r (B.take k)) (B.getD k default)) w5 v5 → ∃ a3 p3 a4 p4, v5 = .agg #[.bool true, .slice a3 r.length p3, .slice a4 r.length p4]) := fun w5 v5 hw hP => by
    have h5 := hP.rd (hrv.ext (Ext.below hw))
    have h6 := h5
    obtain ⟨vh5, vn5, rfl, -⟩ := h5
    obtain ⟨a3, p3, a4, p4, e3, e4⟩ := h6.form
    rw [Option.getD_some, behC_len, HTL.out] at e3 e4
    rw [e3, e4]
    exact ⟨a3, p3, a4, p4, rfl⟩
   clear hmem hdef huse hokk hlk hrv HVA
   obtain ⟨aa, ac, rfl, -⟩ := hva
   unfold aggI at HBH
   rw [← HTK.out] at HBH HRV
   generalize hT' : thrC r (B.take (k + 1)) = T' at *
   have HT' := Lib.hid hT'
   clear hT'
   generalize thrC r (B.take k) = T at *
   generalize B.getD k default = I at *
   obtain ⟨op, d, a, b, fn, obj, off, size, num, args, lg⟩ := I
   dsimp only at c0 c1 c2 c3 c4 c5 c6 c7 c8 c9 c10 HBH
   clear HTK
   go_wp2_with fail
   refine wp_region_game (fun x => x = w.heap.size ∨ x = w.heap.size + 1 ∨ x = ib) (by kernel_rfl) ?_
   show wpE _ _ _ _ _ _ _ wr.drew
   refine E_mob2s [0, 1, 2, 3, 4, 5] _ _ _ _ (by kernel_rfl) ?_
   simp only [List.map_cons, List.map_nil, List.getElem?_toArray, List.getElem?_cons_succ, List.getElem?_cons_zero, Option.getD_some, List.size_toArray, List.length_cons, List.length_nil, Nat.reduceAdd, Nat.reduceSub]
   repeat (go_big_quiet_step (fail))
   refine wpQuiet_nil ?_
   refine E_loud1 6 _ rfl (by kernel_rfl) ?_
   simp only [List.getElem_toArray, List.getElem_cons_succ, List.getElem_cons_zero]
   go_wp2_with fail
   refine (HBH.out _ (Below.refl _ _).drew).mono ?_
   clear HBH
   rintro e w5 ⟨v5, rfl, hP, hb5⟩
   have hb5' : Below wr.heap.size wr w5 := (Below.refl wr.heap.size wr).drew.trans hb5
   obtain ⟨a3, p3, a4, p4, rfl⟩ := HRV.out w5 v5 hb5' hP
   clear HRV
   have M5 := Lib.hid (M.out.step hb5' hP)
   have hx5 := (hb5'.block _ lx).trans M.out.bx
   obtain ⟨z0, z1, z2, lz⟩ := cl3 hx5
   have fz0 := frozen_of_heap hx5 0
   have fz1 := frozen_of_heap hx5 1
   have fz2 := frozen_of_heap hx5 2
   have HK5 : Hid (Keep (fun x => x = w.heap.size ∨ x = w.heap.size + 1 ∨ x = ib) wr.drew w5) := keep_below hb5 (fun x hx => by rcases hx with rfl | rfl | rfl <;> assumption)
   clear hP hb5 hb5' hx5 x0 x1 x2 y0 y1 y2 y3 y4 c0 c1 c2 c3 c4 c5 c6 c7 c8 c9 c10
   go_wp2_with fail
   refine ⟨HK5.out, ?_⟩
   refine E_last 7 _ rfl (by kernel_rfl) ?_
   simp only [List.getElem_toArray, List.getElem_cons_succ, List.getElem_cons_zero]
   go_wp2_with fail
   refine E_done (by kernel_rfl) ?_ _
   clear HK5 M z0 z1 z2 lz fz0 fz1 fz2
   go_wp2_with fail
   go_roundw
   case rel => exact ⟨k + 1, _, _, hlt, by go_num, by rw [HT'.out]; exact M5⟩
   case measure => simp [intOf]; omega
  ·clear hrv
   obtain rfl : k = B.length := by omega
   obtain ⟨r0, r1, r2, lr⟩ := cl3 M.out.b2
   have fr0 := frozen_of_heap M.out.b2 0
   have fr1 := frozen_of_heap M.out.b2 1
   have fr2 := frozen_of_heap M.out.b2 2
   go_wp2_with fail
   refine bodyPost_ret (v := .agg #[.bool true, .slice a1 r.length p1, .slice a2 r.length p2]) (by simp [results, Try.results83, go_sem, r0, r1, r2]) rfl ?_
   have hr := M.out.rw
   rw [List.take_length] at hr
   refine ⟨_, rfl, ?_, ((M.out.bl.setCell (p := ⟨w.heap.size + 2, 0, none⟩) (by simp) _).setCell (p := ⟨w.heap.size + 2, 1, none⟩) (by simp) _).setCell (p := ⟨w.heap.size + 2, 2, none⟩) (by simp) _⟩
   rcases hr with ⟨q1, q2⟩ | q
   ·exact .inl ⟨q1, q2⟩
   ·exact .inr ((q.set3 (by omega)).base (by omega))
end Go.Proofs.Ytkhfddodmjnecaa
