/-
 fold's desk: the key of what lies somewhere.; fold's desk: the value that an instruction sets.
-/
import Derived.Test.YtkhfddodmjnecaaDoorZFoldTwice36
import Derived.Test.YtkhfddodmjnecaaDoorZFoldTwice22
import Derived.Test.YtkhfddodmjnecaaDoorZFoldTwice10
import Derived.Test.YtkhfddodmjnecaaDoorZFoldTwice09

set_option linter.all false
namespace Go.Proofs.YtkhfddodmjnecaaDoor
open Go.ChangeShapes Go.WideShapes Go.ChangeAt Go.RowKit Go.Maps
set_option maxHeartbeats 16000000
set_option maxRecDepth 100000
set_option linter.unusedVariables false

def insO (i : In) (va : Value) : Obj := .cells #[.int .i64 i.op, .int .i64 i.d, .int .i64 i.a, .int .i64 i.b, .int .i64 i.fn, .int .i64 i.obj, .int .i64 i.off, .int .i64 i.size, .int .u32 i.num, va, .bool i.log] 40
def keyZ : Obj := .cells #[.int .i64 0, .int .i64 0, .int .i64 0, .int .i64 0, .int .i64 0, .int .i64 0, .int .i64 0, .int .u32 0, .int .i64 0] 94
theorem mm_value (d : Dk) (r : Int) : (valueD d r).2.mm = d.mm := by unfold valueD; cases d.of r <;> rfl
theorem Stp.keepK {S S' T : Nat → Prop} {w w' : World} (p : Stp S w w' S') (hz : ∀ z, T z → z < w.heap.size ∧ ¬ S z) : Keep T w w' := fun b o hb => World.cell?_of_block (w := w) (a := ⟨b, o, none⟩) (p.keep b (hz b hb).1 (hz b hb).2)
theorem Stp.but {S S' : Nat → Prop} {w w' wz : World} {g : Nat} (p : Stp S w w' S') (hb : But g w' wz) (hg : w.heap.size ≤ g) : Stp S w wz S' :=
 ⟨hb.os.trans p.os, hb.tape.trans p.tape, hb.output.trans p.output, Nat.le_trans p.size hb.size, fun b h1 h2 => (hb.block b (Nat.lt_of_lt_of_le h1 p.size) (by omega)).trans (p.keep b h1 h2), p.sub⟩
theorem lies_c (w : World) (S : Nat → Prop) (q : Dkb) (c : Nat) (R : Int) (d : Dk) (i : In) (va : Value) (h : DkM w S q c R d) (hc : c + 2 ≤ 1000000000) (hr : 0 ≤ i.a ∧ i.a < R) :
  Calls Tryd.prog 38 #[.pointer (some ⟨q.bd, 0, none⟩), aggI i va] w (DkQ S q (c + 2) R (keyV (liesD d i).1) (liesD d i).2 w) := by
 obtain ⟨W2, hW2⟩ : ∃ W2, W2 = (w.alloc (insO i va)).alloc keyZ := ⟨_, rfl⟩
 have hW2' : W2 = allocs w [insO i va, keyZ] := hW2
 have hB : Below w.heap.size w W2 := by rw [hW2']; exact allocs_below _ _
 have H0 : Hid (W2.heap[w.heap.size]? = some (insO i va)) := by rw [hW2']; exact allocs_heap _ w 0 (by simp)
 have H1 : Hid (W2.heap[w.heap.size + 1]? = some keyZ) := by rw [hW2']; exact allocs_heap _ w 1 (by simp)
 have HW2 := Lib.hid hW2.symm
 clear hW2 hW2'
 have HM := Lib.hid (h.below hB)
 have HNS : Hid (¬ S w.heap.size ∧ ¬ S (w.heap.size + 1)) := ⟨fun e => by have := h.lt e; omega, fun e => by have := h.lt e; omega⟩
 have HP := Lib.hid (Stp.of_below (S := S) hB)
 have HD : Hid (liesD d i = (kyL (valueD d i.a).1 i.off i.size d.mm, (valueD d i.a).2)) := by
  show _ = _
  unfold liesD; rw [mm_value]
 have HMM := Lib.hid (mm_value d i.a)
 rw [HD.out]
 clear h hB HD
 unfold insO keyZ at HW2
 unfold insO at H0
 unfold keyZ at H1
 unfold aggI
 have EV : Hid (∀ W, Below W2.heap.size W2 W → Calls Tryd.prog 28 #[.pointer (some ⟨q.bd, 0, none⟩), .int .i64 i.a] W (DkQ S q (c + 2) R (.int .i64 (valueD d i.a).1) (valueD d i.a).2 W)) := fun W hW => value_c W S q c R d i.a (HM.out.below hW) hc hr
 generalize valueD d i.a = vd at *
 obtain ⟨v, d1⟩ := vd
 dsimp only at HMM EV ⊢
 obtain ⟨z0, z1, z2, z3, z4, z5, lz⟩ := cl6 HM.out.st
 obtain ⟨x0, x1, x2, x3, x4, x5, x6, x7, x8, x9, x10, lx⟩ := cl11 H0.out
 have ly : w.heap.size + 1 < W2.heap.size := (Array.getElem?_eq_some_iff.1 H1.out).1
 go_enter Tryd.func38, Tryd.ntmps38
 go_wp2_with fail
 rw [HW2.out]
 clear HW2
 refine wp_region_game (fun z => z = w.heap.size ∨ z = w.heap.size + 1) (by kernel_rfl) ?_
 show wpE _ _ _ _ _ _ _ W2.drew
 refine E_mob2s [0, 1, 2, 4, 5, 6, 7, 8, 9, 10] _ _ _ _ (by kernel_rfl) ?_
 simp only [List.map_cons, List.map_nil, List.getElem?_toArray, List.getElem?_cons_succ, List.getElem?_cons_zero, Option.getD_some, List.size_toArray, List.length_cons, List.length_nil, Nat.reduceAdd, Nat.reduceSub]
 repeat (go_big_quiet_step (fail))
 refine wpQuiet_nil ?_
 clear z0 z1 z2 z3 z4 x0 x1 x2 x3 x4 x5 x6 x7 x8 x9 x10
 refine E_loud2 3 11 _ _ rfl rfl (by kernel_rfl) ?_ ?_
 all_goals simp only [List.getElem_toArray, List.getElem_cons_succ, List.getElem_cons_zero]
 ·go_wp2_with fail
  refine (EV.out W2.drew (Below.refl _ _).drew).mono ?_
  rintro e w3 ⟨rfl, S3, h3, p3⟩
  have p4 := (HP.out.trans (Stp.of_below (Below.refl _ _).drew)).trans p3
  have HP4 := Lib.hid p4
  have HK3 : Hid (Keep (fun z => z = w.heap.size ∨ z = w.heap.size + 1) W2.drew w3) := p3.keepK (fun z hz => by
   rcases hz with rfl | rfl
   ·exact ⟨lx, HNS.out.1⟩
   ·exact ⟨ly, HNS.out.2⟩)
  have HY3 := Lib.hid ((p3.keep _ ly HNS.out.2).trans H1.out)
  have HN3 : Hid (¬ S3 (w.heap.size + 1)) := p3.away ly HNS.out.2
  have HM3 := Lib.hid h3
  clear h3 p3 p4
  go_wp2_with fail
  refine ⟨HK3.out, ?_⟩
  clear HK3
  obtain ⟨-, -, -, -, -, z5, lz⟩ := cl6 HM3.out.st
  rw [HMM.out] at z5
  refine E_loud1 11 _ rfl (by kernel_rfl) ?_
  simp only [List.getElem_toArray, List.getElem_cons_succ, List.getElem_cons_zero]
  go_wp2_with fail
  refine ⟨Keep.refl _ _, ?_⟩
  refine E_mob2s [12] _ _ _ _ (by kernel_rfl) ?_
  simp only [List.map_cons, List.map_nil, List.getElem?_toArray, List.getElem?_cons_succ, List.getElem?_cons_zero, Option.getD_some, List.size_toArray, List.length_cons, List.length_nil, Nat.reduceAdd, Nat.reduceSub]
  repeat (go_big_quiet_step (fail))
  refine wpQuiet_nil ?_
  refine E_last 13 _ rfl (by kernel_rfl) ?_
  simp only [List.getElem_toArray, List.getElem_cons_succ, List.getElem_cons_zero]
  have HF := fun o => frozen_of_heap HY3.out o
  have f0 := HF 0
  have f1 := HF 1
  have f2 := HF 2
  have f3 := HF 3
  have f4 := HF 4
  have f5 := HF 5
  have f6 := HF 6
  have f7 := HF 7
  have f8 := HF 8
  obtain ⟨y0, y1, y2, y3, y4, y5, y6, y7, y8, ly3⟩ := cl9 HY3.out
  have HE : Hid (∀ wz, But (w.heap.size + 1) w3 wz → DkQ S q (c + 2) R (keyV (kyL v i.off i.size d.mm)) d1 w (.returned (keyV (kyL v i.off i.size d.mm))) wz) := fun wz hb =>
   ⟨rfl, S3, HM3.out.but hb HN3.out, HP4.out.but hb (by omega)⟩
  clear HF
  generalize w.heap.size = ks at *
  go_wp2_with fail
  refine E_done (by kernel_rfl) ?_ _
  go_wp2_with fail
  refine bodyPost_ret (v := keyV (kyL v i.off i.size d.mm)) ?_ rfl ?_
  ·simp [results, Tryd.results38, go_sem, keyV, kyL, y0, y1, y2, y3, y4, y5, y6, y7, y8, f0, f1, f2, f3, f4, f5, f6, f7, f8]
  ·exact HE.out _ (((((((((But.setCell _ _ _ _).trans (But.setCell _ _ _ _)).trans (But.setCell _ _ _ _)).trans (But.setCell _ _ _ _)).trans (But.setCell _ _ _ _)).trans (But.setCell _ _ _ _)).trans (But.setCell _ _ _ _)).trans (But.setCell _ _ _ _)).trans (But.setCell _ _ _ _))
 ·go_wp2_with fail
  refine ⟨Keep.refl _ _, ?_⟩
  refine E_loud1 3 _ rfl (by kernel_rfl) ?_
  simp only [List.getElem_toArray, List.getElem_cons_succ, List.getElem_cons_zero]
  go_wp2_with fail
  refine (EV.out W2.drew (Below.refl _ _).drew).mono ?_
  rintro e w3 ⟨rfl, S3, h3, p3⟩
  have p4 := (HP.out.trans (Stp.of_below (Below.refl _ _).drew)).trans p3
  have HP4 := Lib.hid p4
  have HK3 : Hid (Keep (fun z => z = w.heap.size ∨ z = w.heap.size + 1) W2.drew w3) := p3.keepK (fun z hz => by
   rcases hz with rfl | rfl
   ·exact ⟨lx, HNS.out.1⟩
   ·exact ⟨ly, HNS.out.2⟩)
  have HY3 := Lib.hid ((p3.keep _ ly HNS.out.2).trans H1.out)
  have HN3 : Hid (¬ S3 (w.heap.size + 1)) := p3.away ly HNS.out.2
  have HM3 := Lib.hid h3
  clear h3 p3 p4
  go_wp2_with fail
  refine ⟨HK3.out, ?_⟩
  clear HK3
  refine E_mob2s [12] _ _ _ _ (by kernel_rfl) ?_
  simp only [List.map_cons, List.map_nil, List.getElem?_toArray, List.getElem?_cons_succ, List.getElem?_cons_zero, Option.getD_some, List.size_toArray, List.length_cons, List.length_nil, Nat.reduceAdd, Nat.reduceSub]
  repeat (go_big_quiet_step (fail))
  refine wpQuiet_nil ?_
  refine E_last 13 _ rfl (by kernel_rfl) ?_
  simp only [List.getElem_toArray, List.getElem_cons_succ, List.getElem_cons_zero]
  have HF := fun o => frozen_of_heap HY3.out o
  have f0 := HF 0
  have f1 := HF 1
  have f2 := HF 2
  have f3 := HF 3
  have f4 := HF 4
  have f5 := HF 5
  have f6 := HF 6
  have f7 := HF 7
  have f8 := HF 8
  obtain ⟨y0, y1, y2, y3, y4, y5, y6, y7, y8, ly3⟩ := cl9 HY3.out
  have HE : Hid (∀ wz, But (w.heap.size + 1) w3 wz → DkQ S q (c + 2) R (keyV (kyL v i.off i.size d.mm)) d1 w (.returned (keyV (kyL v i.off i.size d.mm))) wz) := fun wz hb =>
   ⟨rfl, S3, HM3.out.but hb HN3.out, HP4.out.but hb (by omega)⟩
  clear HF
  generalize w.heap.size = ks at *
  go_wp2_with fail
  refine E_done (by kernel_rfl) ?_ _
  go_wp2_with fail
  refine bodyPost_ret (v := keyV (kyL v i.off i.size d.mm)) ?_ rfl ?_
  ·simp [results, Tryd.results38, go_sem, keyV, kyL, y0, y1, y2, y3, y4, y5, y6, y7, y8, f0, f1, f2, f3, f4, f5, f6, f7, f8]
  ·exact HE.out _ (((((((((But.setCell _ _ _ _).trans (But.setCell _ _ _ _)).trans (But.setCell _ _ _ _)).trans (But.setCell _ _ _ _)).trans (But.setCell _ _ _ _)).trans (But.setCell _ _ _ _)).trans (But.setCell _ _ _ _)).trans (But.setCell _ _ _ _)).trans (But.setCell _ _ _ _))
end Go.Proofs.YtkhfddodmjnecaaDoor

set_option linter.all false
namespace Go.Proofs.YtkhfddodmjnecaaDoor
open Go.ChangeShapes Go.WideShapes Go.ChangeAt Go.RowKit Go.Maps
set_option maxHeartbeats 16000000
set_option maxRecDepth 100000
set_option linter.unusedVariables false

/-- what an instruction owes that is told -/
structure ToOk (R : Int) (i : In) : Prop where
 num : 0 ≤ i.num ∧ i.num < 4294967296
 fn : I64 i.fn
 obj : I64 i.obj
 off : I64 i.off
 size : I64 i.size
 a : i.op = 2 ∨ i.op = 3 ∨ i.op = 4 ∨ i.op = 5 → 0 ≤ i.a ∧ i.a < R
 b : i.op = 3 → 0 ≤ i.b ∧ i.b < R
theorem told_c (w : World) (S : Nat → Prop) (q : Dkb) (c : Nat) (R : Int) (d : Dk) (i : In) (va : Value) (h : DkM w S q c R d) (hc : c + 7 ≤ 1000000000) (hi : ToOk R i) :
  Calls Tryd.prog 39 #[.pointer (some ⟨q.bd, 0, none⟩), aggI i va] w (DkQ S q (c + 7) R (.int .i64 (toldD d i).1) (toldD d i).2 w) := by
 obtain ⟨W1, hW1⟩ : ∃ W1, W1 = w.alloc (insO i va) := ⟨_, rfl⟩
 have hB : Below w.heap.size w W1 := by rw [hW1]; exact below_alloc w _
 have H0 := Lib.hid (heap_of_alloc w _ _ hW1)
 have HW1 := Lib.hid hW1.symm
 clear hW1
 have HM := Lib.hid (h.below hB)
 have lx : w.heap.size < W1.heap.size := (Array.getElem?_eq_some_iff.1 H0.out).1
 have HNS : Hid (¬ S w.heap.size) := fun e => by have := h.lt e; omega
 have HP := Lib.hid (Stp.of_below (S := S) hB)
 have HI := Lib.hid hi
 have hbd := h.bd
 clear h hB hi
 unfold insO at HW1 H0
 unfold aggI
 have HEND : Hid (∀ r d' e w', DkQ S q (c + 7) R r d' W1 e w' → DkQ S q (c + 7) R r d' w e w') := fun r d' e w' ⟨h1, S', h2, h3⟩ => ⟨h1, S', h2, HP.out.trans h3⟩
 obtain ⟨x0, x1, x2, x3, x4, x5, x6, x7, x8, x9, x10, -⟩ := cl11 H0.out
 by_cases o1 : i.op = 1
 ·have g1 : (i.op == 1) = true := beq_iff_eq.2 o1
  have HT : Hid (toldD d i = constD d i.num) := by show _ = _; unfold toldD; rw [if_pos o1]
  clear o1
  have EC := Lib.hid (const_c W1 S q c R d i.num HM.out (by omega) HI.out.num)
  rw [HT.out]
  clear HT
  go_enter Tryd.func39, Tryd.ntmps39
  go_wp2_with fail
  rw [HW1.out]
  clear HW1
  refine EC.out.mono ?_
  rintro e w2 ⟨rfl, S2, h2, p2⟩
  go_wp2_with fail
  go_ret
  exact HEND.out _ _ _ _ ⟨rfl, S2, h2.mono (by omega), p2⟩
 ·have g1 : (i.op == 1) = false := beq_eq_false_iff_ne.2 o1
  by_cases o2 : i.op = 2
  ·have g2 : (i.op == 2) = true := beq_iff_eq.2 o2
   have HT : Hid (toldD d i = valueD d i.a) := by show _ = _; unfold toldD; rw [if_neg o1, if_pos o2]
   have EV := Lib.hid (value_c W1 S q c R d i.a HM.out (by omega) (HI.out.a (by omega)))
   clear o1 o2
   rw [HT.out]
   clear HT
   go_enter Tryd.func39, Tryd.ntmps39
   go_wp2_with fail
   rw [HW1.out]
   clear HW1
   refine EV.out.mono ?_
   rintro e w2 ⟨rfl, S2, h2, p2⟩
   go_wp2_with fail
   go_ret
   exact HEND.out _ _ _ _ ⟨rfl, S2, h2.mono (by omega), p2⟩
  ·have g2 : (i.op == 2) = false := beq_eq_false_iff_ne.2 o2
   by_cases o3 : i.op = 3
   ·have g3 : (i.op == 3) = true := beq_iff_eq.2 o3
    have HT : Hid (toldD d i = twoD (valueD (valueD d i.a).2 i.b).2 i.fn (valueD d i.a).1 (valueD (valueD d i.a).2 i.b).1) := by show _ = _; unfold toldD; rw [if_neg o1, if_neg o2, if_pos o3]
    have hra := HI.out.a (by omega)
    have hrb := HI.out.b o3
    clear o1 o2 o3
    rw [HT.out]
    clear HT
    have EV : Hid (∀ W, Below W1.heap.size W1 W → Calls Tryd.prog 28 #[.pointer (some ⟨q.bd, 0, none⟩), .int .i64 i.a] W (DkQ S q (c + 2) R (.int .i64 (valueD d i.a).1) (valueD d i.a).2 W)) := fun W hW => value_c W S q c R d i.a (HM.out.below hW) (by omega) hra
    have HV1 := Lib.hid (HM.out.B.value hra)
    generalize valueD d i.a = va1 at *
    obtain ⟨v1, d1⟩ := va1
    dsimp only at EV HV1 ⊢
    have HV2 := Lib.hid (HV1.out.1.value hrb)
    have HMO := Lib.hid (HV1.out.1.more hrb)
    have EV2 : Hid (∀ W S1, DkM W S1 q (c + 2) R d1 → Calls Tryd.prog 28 #[.pointer (some ⟨q.bd, 0, none⟩), .int .i64 i.b] W (DkQ S1 q (c + 2 + 2) R (.int .i64 (valueD d1 i.b).1) (valueD d1 i.b).2 W)) := fun W S1 hW => value_c W S1 q (c + 2) R d1 i.b hW (by omega) hrb
    generalize valueD d1 i.b = va2 at *
    obtain ⟨v2, d2⟩ := va2
    dsimp only at EV2 HV2 HMO ⊢
    have hf := HI.out.fn
    go_enter Tryd.func39, Tryd.ntmps39
    go_wp2_with fail
    rw [HW1.out]
    clear HW1
    refine wp_region_game (fun z => z = w.heap.size) (by kernel_rfl) ?_
    show wpE _ _ _ _ _ _ _ W1.drew
    refine E_mob2s [0, 1, 2, 3, 4, 5, 7, 8, 9] _ _ _ _ (by kernel_rfl) ?_
    simp only [List.map_cons, List.map_nil, List.getElem?_toArray, List.getElem?_cons_succ, List.getElem?_cons_zero, Option.getD_some, List.size_toArray, List.length_cons, List.length_nil, Nat.reduceAdd, Nat.reduceSub]
    repeat (go_big_quiet_step (fail))
    refine wpQuiet_nil ?_
    clear x0 x1 x2 x3 x4 x5 x6 x7 x8 x9 x10
    refine E_loud1 6 _ rfl (by kernel_rfl) ?_
    simp only [List.getElem_toArray, List.getElem_cons_succ, List.getElem_cons_zero]
    go_wp2_with fail
    refine (EV.out W1.drew (Below.refl _ _).drew).mono ?_
    rintro e w2 ⟨rfl, S2, h2, p2⟩
    have HK2 := Lib.hid (p2.keepK (T := fun z => z = w.heap.size) (fun z hz => by rw [hz]; exact ⟨lx, HNS.out⟩))
    have H2 := Lib.hid h2
    have P2 := Lib.hid ((Stp.of_below (Below.refl W1.heap.size W1).drew).trans p2)
    have HN2 : Hid (¬ S2 w.heap.size) := p2.away lx HNS.out
    have l2 : w.heap.size < w2.heap.size := Nat.lt_of_lt_of_le lx p2.size
    clear h2 p2
    go_wp2_with fail
    refine ⟨HK2.out, ?_⟩
    refine E_loud1 10 _ rfl (by kernel_rfl) ?_
    simp only [List.getElem_toArray, List.getElem_cons_succ, List.getElem_cons_zero]
    go_wp2_with fail
    refine (EV2.out w2 S2 H2.out).mono ?_
    rintro e w3 ⟨rfl, S3, h3, p3⟩
    have HK3 := Lib.hid (p3.keepK (T := fun z => z = w.heap.size) (fun z hz => by rw [hz]; exact ⟨l2, HN2.out⟩))
    have H3 := Lib.hid h3
    have P3 := Lib.hid (P2.out.trans p3)
    have HN3 : Hid (¬ S3 w.heap.size) := p3.away l2 HN2.out
    have l3 : w.heap.size < w3.heap.size := Nat.lt_of_lt_of_le l2 p3.size
    clear h3 p3
    go_wp2_with fail
    refine ⟨HK3.out, ?_⟩
    refine E_loud1 11 _ rfl (by kernel_rfl) ?_
    simp only [List.getElem_toArray, List.getElem_cons_succ, List.getElem_cons_zero]
    go_wp2_with fail
    refine (two_c w3 S3 q (c + 2 + 2) R d2 i.fn v1 v2 H3.out (by omega) hf (by have := HV1.out.2.1; have := HMO.out; omega) HV2.out.2.1).mono ?_
    rintro e w4 ⟨rfl, S4, h4, p4⟩
    have HK4 := Lib.hid (p4.keepK (T := fun z => z = w.heap.size) (fun z hz => by rw [hz]; exact ⟨l3, HN3.out⟩))
    have H4 := Lib.hid h4
    have P4 := Lib.hid (P3.out.trans p4)
    clear h4 p4
    go_wp2_with fail
    refine ⟨HK4.out, ?_⟩
    refine E_mob2s [12] _ _ _ _ (by kernel_rfl) ?_
    simp only [List.map_cons, List.map_nil, List.getElem?_toArray, List.getElem?_cons_succ, List.getElem?_cons_zero, Option.getD_some, List.size_toArray, List.length_cons, List.length_nil, Nat.reduceAdd, Nat.reduceSub]
    repeat (go_big_quiet_step (fail))
    refine wpQuiet_nil ?_
    refine E_done (by kernel_rfl) ?_ _
    clear HK2 HK3 HK4
    go_wp2_with fail
    go_ret
    exact HEND.out _ _ _ _ ⟨rfl, S4, H4.out, P4.out⟩
   ·have g3 : (i.op == 3) = false := beq_eq_false_iff_ne.2 o3
    by_cases o4 : i.op = 4
    ·have g4 : (i.op == 4) = true := beq_iff_eq.2 o4
     have hra := HI.out.a (by omega)
     have HT : Hid (toldD d i = unD (valueD d i.a).2 i.fn (valueD d i.a).1) := by show _ = _; unfold toldD; rw [if_neg o1, if_neg o2, if_neg o3, if_pos o4]
     rw [HT.out]
     clear HT
     have EV := Lib.hid (value_c W1 S q c R d i.a HM.out (by omega) hra)
     have HV1 := Lib.hid (HM.out.B.value hra)
     generalize valueD d i.a = va1 at *
     obtain ⟨v1, d1⟩ := va1
     dsimp only at EV HV1 ⊢
     have hf := HI.out.fn
     have HO4 := Lib.hid o4
     clear o1 o2 o3 o4
     cases en : d1.num v1 with
     | some n =>
      have HT : Hid (unD d1 i.fn v1 = constD d1 (fnF i.fn n 0)) := by show _ = _; unfold unD; rw [en]
      have hn := (HV1.out.1.num v1 n en).2
      go_enter Tryd.func39, Tryd.ntmps39
      go_wp2_with fail
      rw [HW1.out]
      clear HW1
      refine EV.out.mono ?_
      rintro e w2 ⟨rfl, S2, h2, p2⟩
      have H2 := Lib.hid h2
      have P2 := Lib.hid p2
      have HB2 := Lib.hid ((p2.keep _ lx HNS.out).trans H0.out)
      have hbd2 := h2.bd
      have hlk : (Instr.lookup 77 (.map (some q.bn)) (.int .i64 v1) true).run Tryd.prog w2 = .ok (.tuple #[.int .u32 n, .bool true]) w2 := by
       obtain ⟨vf, hx⟩ := h2
       have := hx.lookNum (v := v1) ⟨by have := HV1.out.2.1; omega, by have := HV1.out.2.1; omega⟩
       rw [en] at this; exact this
      clear h2 p2 x0 x1 x2 x3 x4 x5 x6 x7 x8 x9 x10 en
      obtain ⟨x0, x1, x2, x3, x4, x5, x6, x7, x8, x9, x10, -⟩ := cl11 HB2.out
      obtain ⟨z0, z1, z2, z3, z4, z5, lz⟩ := cl6 H2.out.st
      go_wp2_with fail
      refine (fn_c i.fn n 0 _ hn.1 hn.2 (by decide) (by decide)).mono ?_
      rintro e w' ⟨rfl, rfl⟩
      go_wp2_with fail
      refine (const_c w2 S2 q (c + 2) R d1 (fnF i.fn n 0) H2.out (by omega) (fnF_bd _ _ _ hn.1 hn.2 (by decide) (by decide))).mono ?_
      rintro e w3 ⟨rfl, S3, h3, p3⟩
      go_wp2_with fail
      go_ret
      rw [HT.out]
      exact HEND.out _ _ _ _ ⟨rfl, S3, h3.mono (by omega), P2.out.trans p3⟩
     | none =>
      have HT : Hid (unD d1 i.fn v1 = namedD d1 (kyU i.fn v1)) := by show _ = _; unfold unD; rw [en]
      go_enter Tryd.func39, Tryd.ntmps39
      go_wp2_with fail
      rw [HW1.out]
      clear HW1
      refine EV.out.mono ?_
      rintro e w2 ⟨rfl, S2, h2, p2⟩
      have H2 := Lib.hid h2
      have P2 := Lib.hid p2
      have HB2 := Lib.hid ((p2.keep _ lx HNS.out).trans H0.out)
      have hbd2 := h2.bd
      have hlk : (Instr.lookup 77 (.map (some q.bn)) (.int .i64 v1) true).run Tryd.prog w2 = .ok (.tuple #[.int .u32 0, .bool false]) w2 := by
       obtain ⟨vf, hx⟩ := h2
       have := hx.lookNum (v := v1) ⟨by have := HV1.out.2.1; omega, by have := HV1.out.2.1; omega⟩
       rw [en] at this; exact this
      have EN := Lib.hid (named_c w2 S2 q (c + 2) R d1 (kyU i.fn v1) h2 (by omega) (kyW_of (i64_lit 4 rfl) hf (i64_nat (x := v1) (by have := HV1.out.2.1; omega)) (i64_lit 0 rfl) (i64_lit 0 rfl) (i64_lit 0 rfl) (i64_lit 0 rfl) ⟨Int.le_refl (0 : Int), show (0 : Int) < 4294967296 by decide⟩ (i64_lit 0 rfl)))
      clear h2 p2 x0 x1 x2 x3 x4 x5 x6 x7 x8 x9 x10 en
      unfold keyV kyU at EN
      dsimp only at EN
      obtain ⟨x0, x1, x2, x3, x4, x5, x6, x7, x8, x9, x10, -⟩ := cl11 HB2.out
      rw [HO4.out] at x0
      obtain ⟨z0, z1, z2, z3, z4, z5, lz⟩ := cl6 H2.out.st
      go_wp2_with fail
      refine EN.out.mono ?_
      rintro e w3 ⟨rfl, S3, h3, p3⟩
      go_wp2_with fail
      go_ret
      rw [HT.out]
      exact HEND.out _ _ _ _ ⟨rfl, S3, h3.mono (by omega), P2.out.trans p3⟩
    ·have g4 : (i.op == 4) = false := beq_eq_false_iff_ne.2 o4
     by_cases o7 : i.op = 7 ∨ i.op = 8
     ·have HT : Hid (toldD d i = namedD d (kyP i.op i.obj i.off)) := by show _ = _; unfold toldD; rw [if_neg o1, if_neg o2, if_neg o3, if_neg o4, if_pos o7]
      have EN := Lib.hid (named_c W1 S q c R d (kyP i.op i.obj i.off) HM.out (by omega) (kyW_of (i64_nat (x := i.op) (by omega)) (i64_lit 0 rfl) (i64_lit 0 rfl) (i64_lit 0 rfl) HI.out.obj HI.out.off (i64_lit 0 rfl) ⟨Int.le_refl (0 : Int), show (0 : Int) < 4294967296 by decide⟩ (i64_lit 0 rfl)))
      unfold keyV kyP at EN
      dsimp only at EN
      rw [HT.out]
      clear HT
      rcases boolTF (i.op == 7) with g7 | g7
      ·have g8 : (i.op == 8) = true := by rw [beq_eq_false_iff_ne] at g7; exact beq_iff_eq.2 (by omega)
       clear o1 o2 o3 o4 o7
       go_enter Tryd.func39, Tryd.ntmps39
       go_wp2_with fail
       rw [HW1.out]
       clear HW1
       refine EN.out.mono ?_
       rintro e w2 ⟨rfl, S2, h2, p2⟩
       go_wp2_with fail
       go_ret
       exact HEND.out _ _ _ _ ⟨rfl, S2, h2.mono (by omega), p2⟩
      ·clear o1 o2 o3 o4 o7
       go_enter Tryd.func39, Tryd.ntmps39
       go_wp2_with fail
       rw [HW1.out]
       clear HW1
       refine EN.out.mono ?_
       rintro e w2 ⟨rfl, S2, h2, p2⟩
       go_wp2_with fail
       go_ret
       exact HEND.out _ _ _ _ ⟨rfl, S2, h2.mono (by omega), p2⟩
     ·have g7 : (i.op == 7) = false := beq_eq_false_iff_ne.2 (by omega)
      have g8 : (i.op == 8) = false := beq_eq_false_iff_ne.2 (by omega)
      by_cases o5 : i.op = 5
      ·have g5 : (i.op == 5) = true := beq_iff_eq.2 o5
       have hra := HI.out.a (by omega)
       have HT : Hid (toldD d i = namedD (liesD d i).2 (liesD d i).1) := by show _ = _; unfold toldD; rw [if_neg o1, if_neg o2, if_neg o3, if_neg o4, if_neg o7, if_pos o5]
       have EL := Lib.hid (lies_c W1 S q c R d i va HM.out (by omega) hra)
       have HV1 := Lib.hid (HM.out.B.value hra)
       have HLD : Hid (liesD d i = (kyL (valueD d i.a).1 i.off i.size d.mm, (valueD d i.a).2)) := by
        show _ = _
        unfold liesD; rw [mm_value]
       rw [HLD.out] at EL
       rw [HT.out, HLD.out]
       clear HT HLD o1 o2 o3 o4 o5 o7
       generalize valueD d i.a = va1 at *
       obtain ⟨v1, d1⟩ := va1
       dsimp only at EL HV1 ⊢
       have EN : Hid (∀ W S', DkM W S' q (c + 2) R d1 → Calls Tryd.prog 57 #[.pointer (some ⟨q.bd, 0, none⟩), keyV (kyL v1 i.off i.size d.mm)] W (DkQ S' q (c + 2 + 2) R (.int .i64 (namedD d1 (kyL v1 i.off i.size d.mm)).1) (namedD d1 (kyL v1 i.off i.size d.mm)).2 W)) := fun W S' hW =>
        named_c W S' q (c + 2) R d1 _ hW (by omega) (kyW_of (i64_lit 5 rfl) (i64_lit 0 rfl) (i64_nat (x := v1) (by have := HV1.out.2.1; have := hW.bd; omega)) (i64_lit 0 rfl) (i64_lit 0 rfl) HI.out.off HI.out.size ⟨Int.le_refl (0 : Int), show (0 : Int) < 4294967296 by decide⟩ (i64_nat (x := d.mm) (by omega)))
       unfold aggI at EL
       unfold keyV kyL at EL EN
       dsimp only at EL EN
       go_enter Tryd.func39, Tryd.ntmps39
       go_wp2_with fail
       rw [HW1.out]
       clear HW1
       refine EL.out.mono ?_
       rintro e w2 ⟨rfl, S2, h2, p2⟩
       have H2 := Lib.hid h2
       have P2 := Lib.hid p2
       clear h2 p2
       go_wp2_with fail
       refine (EN.out w2 S2 H2.out).mono ?_
       rintro e w3 ⟨rfl, S3, h3, p3⟩
       go_wp2_with fail
       go_ret
       exact HEND.out _ _ _ _ ⟨rfl, S3, h3.mono (by omega), P2.out.trans p3⟩
      ·have g5 : (i.op == 5) = false := beq_eq_false_iff_ne.2 o5
       have HT : Hid (toldD d i = (0, d)) := by show _ = _; unfold toldD; rw [if_neg o1, if_neg o2, if_neg o3, if_neg o4, if_neg o7, if_neg o5]
       clear o1 o2 o3 o4 o5 o7
       rw [HT.out]
       go_enter Tryd.func39, Tryd.ntmps39
       go_wp2_with fail
       rw [HW1.out]
       go_ret
       exact HEND.out _ _ _ _ ⟨rfl, S, HM.out.mono (by omega), Stp.refl _ _⟩
end Go.Proofs.YtkhfddodmjnecaaDoor
