/-
 fold's desk: an instruction that reads the first registers that have what it reads.
-/
import Derived.Test.YtkhfddodmjnecaaDoorZFoldTwice37
import Derived.Test.YtkhfddodmjnecaaDoorZFoldTwice38
import Derived.Test.YtkhfddodmjnecaaDoorZFoldTwice10
set_option linter.all false
namespace Go.Proofs.YtkhfddodmjnecaaDoor
open Go.ChangeShapes Go.WideShapes Go.ChangeAt Go.RowKit Go.Maps
set_option maxHeartbeats 16000000
set_option maxRecDepth 100000
set_option linter.unusedVariables false

theorem cloneI (v : Value) (n : Nat) (xs : List Value) (w : World) (h : Src w v n xs) (hl : xs.length = n * 1) (hn : n ≤ 1000000) (h1 : ∀ u ∈ xs, u.oneCell' = true) :
  Calls Tryd.prog 54 #[v] w fun e w' => ∃ v', e = .returned v' ∧ w'.ownsRow w.heap.size 3 1 v' n xs ∧ Below w.heap.size w w' := by
 rcases h with ⟨⟨c0, rfl⟩, rfl, rfl⟩ | ⟨ad, c, rfl, -, -, hc⟩
 ·have hnil := fun w => Lib.run_eql_slice_nil (P := Tryd.prog) w 38 3 none 0 c0 0 0 Tryd.underlying38
  go_enter Tryd.func54, Tryd.ntmps54
  go_wp2_with fail
  go_ret
  exact ⟨_, rfl, World.ownsRow_nil _ _ _ _, Below.refl _ _⟩
 ·have hnil := fun w => Lib.run_eql_slice_nil (P := Tryd.prog) w 38 3 (some ad) n c 0 0 Tryd.underlying38
  obtain ⟨i0, hi, hz0, hz1, hz2⟩ := info_parts info_int
  have HC : Hid (∀ j u, xs[j]? = some u → (w.alloc (.cells #[] 3)).cell? (ad.add j) = some u) := fun j u hj => by
   obtain ⟨b, o, rfl, hx⟩ := hc j u hj
   rw [vadd_plain]
   exact ((vbelow1 w _).cell (p := ⟨b, o + j, none⟩) (World.block_lt_of_cell? w _ hx)).trans hx
  clear hc
  go_enter Tryd.func54, Tryd.ntmps54
  go_wp2_with (at_builtin; refine wpList_append_own _ rfl _ _ 38 rfl w.heap.size 3 i0 (.int .i64 0) 1 8 Tryd.underlying38 hi hz0 hz1 hz2 rfl (by decide) (.slice (some ⟨w.heap.size, 0, none⟩) 0 0) 0 [] rfl (World.ownsRow_made w #[] 0 (Nat.le_refl _) (by simp [maxLen]) (by simp)) ad n c xs rfl hl HC.out h1 (by unfold maxLen; omega) (by omega) (by simp) ?_; intro v' w1 hown hgrow hnn)
  go_ret
  simp only [Nat.zero_add, List.nil_append] at hown
  exact ⟨v', rfl, hown, (vbelow1 w _).grown hgrow (by simp) fun k hk => by simp [Value.ownBlock] at hk; omega⟩
theorem copyArgs (w : World) (v : Value) (l : List Int) (h : RdI w v l) (hn : l.length ≤ 1000000) :
  Calls Tryd.prog 54 #[v] w fun e w' => ∃ v', e = .returned v' ∧ w'.ownsRow w.heap.size 3 1 v' l.length (rowI l) ∧ Below w.heap.size w w' := by
 refine cloneI v l.length (rowI l) w ?_ (by simp [rowI]) hn (fun u hu => ?_)
 ·obtain ⟨a, c, rfl, h1, h2, h3⟩ := h
  cases a with
  | none =>
   left
   have h0 : l.length = 0 := by
    rcases Nat.eq_zero_or_pos l.length with e | e
    ·exact e
    ·obtain ⟨b, o, e2, -⟩ := h3 0 e
     cases e2
   have : l = [] := List.eq_nil_of_length_eq_zero h0
   subst this
   exact ⟨⟨c, rfl⟩, rfl, rfl⟩
  | some ad =>
   refine .inr ⟨ad, c, rfl, h1, h2, fun j u hj => ?_⟩
   have hjl : j < l.length := by have := (List.getElem?_eq_some_iff.1 hj).1; simpa [rowI] using this
   obtain ⟨b, o, e2, hx⟩ := h3 j hjl
   cases e2
   refine ⟨b, o, rfl, ?_⟩
   have hx : w.cell? ⟨b, o + j * 1 + 0, none⟩ = some (.int .i64 (l.getD j 0)) := hx
   rw [Nat.mul_one, Nat.add_zero] at hx
   rw [hx, ← hj]
   simp [rowI, List.getD, hjl]
 ·obtain ⟨x, -, rfl⟩ := List.mem_map.1 hu
  rfl
theorem readL_snoc : ∀ (l : List Int) (r : Int) (d : Dk), readL d (l ++ [r]) = ((readL d l).1 ++ [(readD (readL d l).2 r).1], (readD (readL d l).2 r).2)
 | [], r, d => rfl
 | x :: l, r, d => by
  show ((readD d x).1 :: (readL (readD d x).2 (l ++ [r])).1, (readL (readD d x).2 (l ++ [r])).2) = _
  rw [readL_snoc l r]; rfl
theorem readL_len : ∀ (l : List Int) (d : Dk), (readL d l).1.length = l.length
 | [], d => rfl
 | x :: l, d => by show (readL (readD d x).2 l).1.length + 1 = _; rw [readL_len l]; rfl
def insZ : Obj := .cells #[.int .i64 0, .int .i64 0, .int .i64 0, .int .i64 0, .int .i64 0, .int .i64 0, .int .i64 0, .int .i64 0, .int .u32 0, .slice none 0 0, .bool false] 40
/-- an instruction with other registers -/
def insR (i : In) (a b : Int) (l : List Int) : In := ⟨i.op, i.d, a, b, i.fn, i.obj, i.off, i.size, i.num, l, i.log⟩
structure RdS (R : Int) (w : World) (S : Nat → Prop) (q : Dkb) (c ks : Nat) (i : In) (a b : Int) (v' : Value) (d2 : Dk) (k : Nat) (wr : World) (S' : Nat → Prop) : Prop where
 dk : DkM wr S' q (c + 4 + 2 * k) R (readL d2 (i.args.take k)).2
 st : Stp S w wr S'
 b3 : wr.heap[ks]? = some (insO (insR i a b []) v')
 b4 : wr.heap[ks + 1]? = some insZ
 n3 : ¬ S' ks ∧ ¬ S' (ks + 1)
 own : wr.ownsRow ks 3 1 v' i.args.length (rowI ((readL d2 (i.args.take k)).1 ++ i.args.drop k))
 nv : ∀ g, v'.ownBlock = some g → ¬ S' g
theorem put3 {w : World} {b : Nat} {i : In} {va : Value} (H : w.heap[b]? = some (insO i va)) (x y : Int) (v : Value) : (((w.setCell ⟨b, 2, none⟩ (.int .i64 x)).setCell ⟨b, 3, none⟩ (.int .i64 y)).setCell ⟨b, 9, none⟩ v).heap[b]? = some (insO (insR i x y []) v) := by
 have h1 := heap_setCell_same w b 2 _ _ (.int .i64 x) H
 have h2 := heap_setCell_same _ b 3 _ _ (.int .i64 y) h1
 have h3 := heap_setCell_same _ b 9 _ _ v h2
 exact h3
def ReadQ (S : Nat → Prop) (q : Dkb) (c : Nat) (R : Int) (d : Dk) (i : In) (w : World) (e : Ending) (w' : World) : Prop := ∃ va' S', e = .returned (aggI (readsD d i).1 va') ∧ w'.ownsRow w.heap.size 3 1 va' i.args.length (rowI (readsD d i).1.args) ∧ (∀ g, va'.ownBlock = some g → ¬ S' g) ∧ DkM w' S' q (c + 4 + 2 * i.args.length) R (readsD d i).2 ∧ Stp S w w' S'
theorem dreads_c (w : World) (S : Nat → Prop) (q : Dkb) (c : Nat) (R : Int) (d : Dk) (i : In) (va : Value) (B : Nat) (h : DkM w S q c R d) (hc : c + 4 + 2 * i.args.length ≤ 1000000000) (hB0 : B ≤ w.heap.size) (hBS : ∀ b, S b → B ≤ b) (hA : ∀ W, Below B w W → RdI W va i.args) (hi : RdOk R i) (hal : i.args.length ≤ 1000000) :
  Calls Tryd.prog 37 #[.pointer (some ⟨q.bd, 0, none⟩), aggI i va] w (ReadQ S q c R d i w) := by
 obtain ⟨W2, hW2⟩ : ∃ W2, W2 = (w.alloc (insO i va)).alloc insZ := ⟨_, rfl⟩
 have hW2' : W2 = allocs w [insO i va, insZ] := hW2
 have hB : Below w.heap.size w W2 := by rw [hW2']; exact allocs_below _ _
 have H0 : Hid (W2.heap[w.heap.size]? = some (insO i va)) := by rw [hW2']; exact allocs_heap _ w 0 (by simp)
 have H1 : Hid (W2.heap[w.heap.size + 1]? = some insZ) := by rw [hW2']; exact allocs_heap _ w 1 (by simp)
 have HW2 := Lib.hid hW2.symm
 clear hW2 hW2'
 have HM := Lib.hid (h.below hB)
 have HNS : Hid (¬ S w.heap.size ∧ ¬ S (w.heap.size + 1)) := ⟨fun e => by have := h.lt e; omega, fun e => by have := h.lt e; omega⟩
 have HP := Lib.hid (Stp.of_below (S := S) hB)
 have HA := Lib.hid hA
 have HBS := Lib.hid hBS
 have hra := hi.a
 have hrb := hi.b
 have HRA := Lib.hid hi.args
 have lx : w.heap.size < W2.heap.size := (Array.getElem?_eq_some_iff.1 H0.out).1
 have ly : w.heap.size + 1 < W2.heap.size := (Array.getElem?_eq_some_iff.1 H1.out).1
 obtain ⟨aa, ac, hva, ha1, ha2, -⟩ := hA w (Below.refl _ _)
 subst hva
 clear h hB hA hBS hi
 have EV1 := Lib.hid (fun W (hW : Below W2.heap.size W2 W) => read_c W S q c R d i.a (HM.out.below hW) (by omega) hra)
 have HD : Hid (readsD d i = (insR i (readD d i.a).1 (readD (readD d i.a).2 i.b).1 (readL (readD (readD d i.a).2 i.b).2 i.args).1, (readL (readD (readD d i.a).2 i.b).2 i.args).2)) := rfl
 unfold ReadQ
 rw [HD.out]
 clear HD
 generalize readD d i.a = ra at *
 obtain ⟨a', d1⟩ := ra
 dsimp only at EV1 ⊢
 have EV2 := Lib.hid (fun W S1 (hW : DkM W S1 q (c + 2) R d1) => read_c W S1 q (c + 2) R d1 i.b hW (by omega) hrb)
 generalize readD d1 i.b = rb at *
 obtain ⟨b', d2⟩ := rb
 dsimp only at EV2 ⊢
 unfold insO insZ at HW2
 unfold insO at H0
 unfold aggI
 obtain ⟨x0, x1, x2, x3, x4, x5, x6, x7, x8, x9, x10, -⟩ := cl11 H0.out
 go_enter Tryd.func37, Tryd.ntmps37
 go_wp2_with fail
 rw [HW2.out]
 clear HW2
 refine wp_region_late [0, 1, 2, 4, 5, 6, 8, 9, 11] (fun z => z = w.heap.size) (by kernel_rfl) ?_
 show wpH _ _ _ _ _ _ _ _ W2.drew
 refine H_mobs [0, 1, 2, 4, 5, 6, 8, 9] _ _ _ _ (by kernel_rfl) ?_
 simp only [List.map_cons, List.map_nil, List.getElem?_toArray, List.getElem?_cons_succ, List.getElem?_cons_zero, Option.getD_some, List.size_toArray, List.length_cons, List.length_nil, Nat.reduceAdd, Nat.reduceSub]
 repeat (go_big_quiet_step (fail))
 refine wpQuiet_nil ?_
 clear x0 x1 x2 x3 x4 x5 x6 x7 x8 x9 x10
 refine H_loud1 3 _ rfl (by kernel_rfl) ?_
 simp only [List.getElem_toArray, List.getElem_cons_succ, List.getElem_cons_zero]
 go_wp2_with fail
 refine (EV1.out W2.drew (Below.refl _ _).drew).mono ?_
 rintro e w3 ⟨rfl, S3, h3, p3⟩
 have HK3 := Lib.hid (p3.keepK (T := fun z => z = w.heap.size) (fun z hz => by rw [hz]; exact ⟨lx, HNS.out.1⟩))
 have P3 := Lib.hid ((Stp.of_below (Below.refl W2.heap.size W2).drew).trans p3)
 have H3 := Lib.hid h3
 clear h3 p3
 go_wp2_with fail
 refine ⟨HK3.out, ?_⟩
 clear HK3
 have l3 : w.heap.size + 1 < w3.heap.size := Nat.lt_of_lt_of_le ly P3.out.size
 refine H_mobs [11] _ _ _ _ (by kernel_rfl) ?_
 simp only [List.map_cons, List.map_nil, List.getElem?_toArray, List.getElem?_cons_succ, List.getElem?_cons_zero, Option.getD_some, List.size_toArray, List.length_cons, List.length_nil, Nat.reduceAdd, Nat.reduceSub]
 repeat (go_big_quiet_step (fail))
 refine wpQuiet_nil ?_
 refine H_loud1 7 _ rfl (by kernel_rfl) ?_
 simp only [List.getElem_toArray, List.getElem_cons_succ, List.getElem_cons_zero]
 go_wp2_with fail
 refine (EV2.out w3 S3 H3.out).mono ?_
 rintro e w4 ⟨rfl, S4, h4, p4⟩
 have HN3 : Hid (¬ S3 w.heap.size ∧ ¬ S3 (w.heap.size + 1)) := ⟨P3.out.away lx HNS.out.1, P3.out.away ly HNS.out.2⟩
 have HK4 := Lib.hid (p4.keepK (T := fun z => z = w.heap.size) (fun z hz => by rw [hz]; exact ⟨by omega, HN3.out.1⟩))
 have P4 := Lib.hid (P3.out.trans p4)
 have H4 := Lib.hid h4
 have l4 : w.heap.size + 1 < w4.heap.size := Nat.lt_of_lt_of_le l3 p4.size
 clear h4 p4
 go_wp2_with fail
 refine ⟨HK4.out, ?_⟩
 clear HK4
 have HN4 : Hid (¬ S4 w.heap.size ∧ ¬ S4 (w.heap.size + 1)) := ⟨P4.out.away lx HNS.out.1, P4.out.away ly HNS.out.2⟩
 have hB4 : Below B w w4 := (HP.out.trans P4.out).below hB0 HBS.out
 refine H_loud1 10 _ rfl (by kernel_rfl) ?_
 simp only [List.getElem_toArray, List.getElem_cons_succ, List.getElem_cons_zero]
 go_wp2_with fail
 refine (copyArgs w4 _ i.args (HA.out w4 hB4) (by omega)).mono ?_
 rintro e w5 ⟨v', rfl, ho5, hb5⟩
 obtain ⟨av, cv, rfl⟩ := ow_form ho5
 have HO5 := Lib.hid ho5
 have HB5 := Lib.hid hb5
 have H5 := Lib.hid (H4.out.below hb5)
 clear ho5 hb5
 go_wp2_with fail
 refine ⟨keep_below HB5.out (fun z hz => by rw [hz]; omega), ?_⟩
 have HX5 := Lib.hid ((HB5.out.block _ (by omega)).trans ((P4.out.keep _ lx HNS.out.1).trans H0.out))
 have HY5 := Lib.hid ((HB5.out.block _ l4).trans ((P4.out.keep _ ly HNS.out.2).trans H1.out))
 obtain ⟨x0, x1, x2, x3, x4, x5, x6, x7, x8, x9, x10, -⟩ := cl11 HX5.out
 have fx := fun o => frozen_of_heap HX5.out o
 have f2 := fx 2
 have f3 := fx 3
 have f9 := fx 9
 clear fx
 refine H_late 12 _ rfl (by kernel_rfl) ?_
 simp only [List.getElem_toArray, List.getElem_cons_succ, List.getElem_cons_zero]
 go_wp2_with fail
 refine H_loud1 13 _ rfl (by kernel_rfl) ?_
 simp only [List.getElem_toArray, List.getElem_cons_succ, List.getElem_cons_zero]
 go_wp2_with fail
 refine ⟨Keep.refl _ _, ?_⟩
 refine H_late 14 _ rfl (by kernel_rfl) ?_
 simp only [List.getElem_toArray, List.getElem_cons_succ, List.getElem_cons_zero]
 go_wp2_with fail
 refine H_loud1 15 _ rfl (by kernel_rfl) ?_
 simp only [List.getElem_toArray, List.getElem_cons_succ, List.getElem_cons_zero]
 go_wp2_with fail
 refine ⟨Keep.refl _ _, ?_⟩
 refine H_late 16 _ rfl (by kernel_rfl) ?_
 simp only [List.getElem_toArray, List.getElem_cons_succ, List.getElem_cons_zero]
 go_wp2_with fail
 refine H_done (by kernel_rfl) ?_ _
 have S6 : Hid (∃ S', RdS R w S q c w.heap.size i a' b' (.slice av i.args.length cv) d2 0 (((w5.setCell ⟨w.heap.size, 2, none⟩ (.int .i64 a')).setCell ⟨w.heap.size, 3, none⟩ (.int .i64 b')).setCell ⟨w.heap.size, 9, none⟩ (.slice av i.args.length cv)) S') := by
  have hbut : But w.heap.size w5 (((w5.setCell ⟨w.heap.size, 2, none⟩ (.int .i64 a')).setCell ⟨w.heap.size, 3, none⟩ (.int .i64 b')).setCell ⟨w.heap.size, 9, none⟩ (.slice av i.args.length cv)) := ((But.setCell _ _ _ _).trans (But.setCell _ _ _ _)).trans (But.setCell _ _ _ _)
  refine ⟨S4, (H5.out.but hbut HN4.out.1).mono (by omega), ((HP.out.trans P4.out).trans (Stp.of_below HB5.out)).but hbut (Nat.le_refl _), put3 HX5.out _ _ _, (hbut.block _ (by have := HB5.out.size; omega) (by omega)).trans HY5.out, HN4.out, ?_, fun g hg e => ?_⟩
  ·exact ow_same (ow_base HO5.out (by omega)) fun g hg => hbut.block g (World.ownsRow.lt HO5.out g hg).2 (by have := (World.ownsRow.lt HO5.out g hg).1; omega)
  ·have := (World.ownsRow.lt HO5.out g hg).1
   have := H4.out.lt e
   omega
 clear x0 x1 x2 x3 x4 x5 x6 x7 x8 x9 x10 f2 f3 f9 HX5 HY5 HO5 HB5 H5 HN4 hB4 H4 P4 HN3 H3 P3 H0 H1 HNS
 generalize (((w5.setCell ⟨w.heap.size, 2, none⟩ (.int .i64 a')).setCell ⟨w.heap.size, 3, none⟩ (.int .i64 b')).setCell ⟨w.heap.size, 9, none⟩ (.slice av i.args.length cv)) = w6 at *
 obtain ⟨S', hS6⟩ := S6.out
 have hcv : i.args.length ≤ cv ∧ cv ≤ 2 ^ 63 - 1 := by
  obtain ⟨-, ⟨e, e2⟩ | ⟨g, cap, cur, e, -, -, h1, h2, -⟩⟩ := hS6.own
  ·simp only [Value.slice.injEq] at e; rw [e.2.2, e2]; exact ⟨Nat.le_refl _, by decide⟩
  ·simp only [Value.slice.injEq] at e; rw [e.2.2]; exact ⟨h1, h2⟩
 have hx3 := hS6.b3
 unfold insO insR at hx3
 obtain ⟨x0, x1, x2, x3, x4, x5, x6, x7, x8, x9, x10, lb3⟩ := cl11 hx3
 clear hS6 hx3
 go_wp2_with fail
 clear x0 x1 x2 x3 x4 x5 x6 x7 x8 x9 x10 lb3
 go_loopw [24] (fun n wr => ∃ (k : Nat), k ≤ i.args.length ∧ n = .int .i64 (k : Int) ∧ Hid (∃ S', RdS R w S q c w.heap.size i a' b' (.slice av i.args.length cv) d2 k wr S')) (fun n _ => i.args.length - (intOf n).toNat)
 case atStart => exact ⟨0, Nat.zero_le _, rfl, S6⟩
 case round =>
  clear S6
  obtain ⟨wq, rfl⟩ : ∃ wq, wq = wr := ⟨wr, rfl⟩
  obtain ⟨k, hk, rfl, HS⟩ := hrel
  obtain ⟨S1, hs⟩ := HS.out
  have X := Lib.hid hs
  clear HS hs
  by_cases hlt : k < i.args.length
  ·have g1 : decide (k < i.args.length) = true := decide_eq_true hlt
   have g2 : decide ((k : Int) < (i.args.length : Int)) = true := decide_eq_true (by omega)
   obtain ⟨ga, ca, e⟩ := own_slice X.out.own (by omega)
   simp only [Value.slice.injEq] at e
   obtain ⟨rfl, -, rfl⟩ := e
   have hx3 := X.out.b3
   unfold insO insR at hx3
   obtain ⟨x0, x1, x2, x3, x4, x5, x6, x7, x8, x9, x10, lb3⟩ := cl11 hx3
   clear hx3
   obtain ⟨hgB, csg, hcg⟩ := own_heap X.out.own (by omega)
   have lga := (Array.getElem?_eq_some_iff.1 hcg).1
   have hll : (readL d2 (i.args.take k)).1.length = k := by rw [readL_len, List.length_take]; omega
   have c0 : wq.cell? ⟨ga, k, none⟩ = some (.int .i64 (i.args.getD k 0)) := by
    refine (World.ownsRow.cellAt X.out.own k (by omega)).trans ?_
    unfold rowI
    rw [List.getElem?_map, List.getElem?_append_right (by rw [hll]; exact Nat.le_refl _), hll, Nat.sub_self, List.getElem?_drop]
    simp [List.getD, hlt]
   have f0 := frozen_of_heap hcg k
   have hrk := HRA.out (i.args.getD k 0) (by simp [List.getD, hlt])
   have EV3 := Lib.hid (fun W (hW : DkM W S1 q (c + 4 + 2 * k) R (readL d2 (i.args.take k)).2) => read_c W S1 q (c + 4 + 2 * k) R _ (i.args.getD k 0) hW (by omega) hrk)
   have HTK : Hid (i.args.take (k + 1) = i.args.take k ++ [i.args.getD k 0]) := by
    show _ = _
    rw [List.take_succ, List.getElem?_eq_getElem hlt]; simp [List.getD, hlt]
   have HDK : Hid (i.args.drop k = i.args.getD k 0 :: i.args.drop (k + 1)) := by
    show _ = _
    rw [List.drop_eq_getElem_cons hlt]; simp [List.getD, hlt]
   have HRL := Lib.hid (readL_snoc (i.args.take k) (i.args.getD k 0) d2)
   rw [← HTK.out] at HRL
   have HL3 := Lib.hid hll
   have HNG : Hid (ga ≠ w.heap.size ∧ ga ≠ w.heap.size + 1) := by
    refine ⟨fun e => ?_, fun e => ?_⟩
    ·rw [e, X.out.b3] at hcg; cases hcg
    ·rw [e, X.out.b4] at hcg; cases hcg
   have HDM := Lib.hid X.out.dk
   have HOW := Lib.hid X.out.own
   clear hrk hll hcg
   generalize i.args.getD k 0 = r at *
   generalize readL d2 (i.args.take k) = rk at *
   obtain ⟨lk, dk⟩ := rk
   dsimp only at EV3 HRL HL3 HDM HOW
   go_wp2_with fail
   refine wp_region_game (fun z => z = w.heap.size) (by kernel_rfl) ?_
   show wpE _ _ _ _ _ _ _ wq.drew
   refine E_mob2s [0, 1, 2, 3, 4] _ _ _ _ (by kernel_rfl) ?_
   simp only [List.map_cons, List.map_nil, List.getElem?_toArray, List.getElem?_cons_succ, List.getElem?_cons_zero, Option.getD_some, List.size_toArray, List.length_cons, List.length_nil, Nat.reduceAdd, Nat.reduceSub]
   repeat (go_big_quiet_step (fail))
   refine wpQuiet_nil ?_
   have HC0 := Lib.hid c0
   clear x0 x1 x2 x3 x4 x5 x6 x7 x8 x9 x10 c0
   refine E_loud1 5 _ rfl (by kernel_rfl) ?_
   simp only [List.getElem_toArray, List.getElem_cons_succ, List.getElem_cons_zero]
   go_wp2_with fail
   refine (EV3.out wq.drew (HDM.out.below (Below.refl _ _).drew)).mono ?_
   rintro e w7 ⟨rfl, S2, h7, p7⟩
   have HK7 := Lib.hid (p7.keepK (T := fun z => z = w.heap.size) (fun z hz => by rw [hz]; exact ⟨lb3, X.out.n3.1⟩))
   have P7 := Lib.hid ((Stp.of_below (Below.refl wq.heap.size wq).drew).trans p7)
   have H7 := Lib.hid h7
   clear h7 p7
   have hng1 : ¬ S1 ga := X.out.nv ga rfl
   have lb4 : w.heap.size + 1 < wq.heap.size := (Array.getElem?_eq_some_iff.1 X.out.b4).1
   have HO7 : Hid (w7.ownsRow w.heap.size 3 1 (.slice (some ⟨ga, 0, none⟩) i.args.length cv) i.args.length (rowI (lk ++ i.args.drop k))) :=
    ow_same HOW.out fun g hg => by
     simp only [Value.ownBlock, Option.some.injEq] at hg
     subst hg
     exact P7.out.keep _ lga hng1
   have f7 : w7.frozen? ⟨ga, k, none⟩ = false := by
    obtain ⟨-, cs7, hc7⟩ := own_heap HO7.out (by omega)
    exact frozen_of_heap hc7 k
   have c7 := (World.cell?_of_block (w := wq) (a := ⟨ga, k, none⟩) (P7.out.keep _ lga hng1)).trans HC0.out
   have lg7 : ga < w7.heap.size := Nat.lt_of_lt_of_le lga P7.out.size
   have HNX : Hid (∃ S', RdS R w S q c w.heap.size i a' b' (.slice (some ⟨ga, 0, none⟩) i.args.length cv) d2 (k + 1) (w7.setCell ⟨ga, k, none⟩ (.int .i64 (readD dk r).1)) S') := by
    have hbut : But ga w7 (w7.setCell ⟨ga, k, none⟩ (.int .i64 (readD dk r).1)) := But.setCell _ _ _ _
    have hn2 : ¬ S2 ga := P7.out.away lga hng1
    have hs1 := P7.out.size
    refine ⟨S2, ?_, ((X.out.st.trans P7.out).but hbut hgB), (hbut.block _ (by omega) (Ne.symm HNG.out.1)).trans ((P7.out.keep _ lb3 X.out.n3.1).trans X.out.b3), (hbut.block _ (by omega) (Ne.symm HNG.out.2)).trans ((P7.out.keep _ lb4 X.out.n3.2).trans X.out.b4), ⟨P7.out.away lb3 X.out.n3.1, P7.out.away lb4 X.out.n3.2⟩, ?_, fun g hg => ?_⟩
    ·rw [HRL.out]
     exact (H7.out.but hbut hn2).mono (by omega)
    ·have ho := (World.ownsRow.stored HO7.out k (.int .i64 (readD dk r).1)).1
     rw [HRL.out]
     have e : (rowI (lk ++ i.args.drop k)).set k (.int .i64 (readD dk r).1) = rowI ((lk ++ [(readD dk r).1]) ++ i.args.drop (k + 1)) := by
      unfold rowI
      rw [← List.map_set, HDK.out, List.set_append_right _ _ (by rw [HL3.out]; exact Nat.le_refl _), HL3.out, Nat.sub_self, List.set_cons_zero, List.append_assoc]
      rfl
     rw [e] at ho
     exact ho
    ·simp only [Value.ownBlock, Option.some.injEq] at hg
     subst hg
     exact hn2
   clear HO7 HOW HDM H7 EV3
   go_wp2_with fail
   refine ⟨HK7.out, ?_⟩
   refine E_mob2s [6] _ _ _ _ (by kernel_rfl) ?_
   simp only [List.map_cons, List.map_nil, List.getElem?_toArray, List.getElem?_cons_succ, List.getElem?_cons_zero, Option.getD_some, List.size_toArray, List.length_cons, List.length_nil, Nat.reduceAdd, Nat.reduceSub]
   repeat (go_big_quiet_step (fail))
   refine wpQuiet_nil ?_
   refine E_last 7 _ rfl (by kernel_rfl) ?_
   simp only [List.getElem_toArray, List.getElem_cons_succ, List.getElem_cons_zero]
   go_wp2_with fail
   refine E_done (by kernel_rfl) ?_ _
   clear HK7
   go_wp2_with fail
   go_roundw
   case rel => exact ⟨k + 1, hlt, by go_num, HNX⟩
   case measure => simp [intOf]; omega
  ·obtain rfl : k = i.args.length := by omega
   have g1 : decide (i.args.length < i.args.length) = false := decide_eq_false (Nat.lt_irrefl _)
   have g2 : decide ((i.args.length : Int) < (i.args.length : Int)) = false := decide_eq_false (by omega)
   have hx3 := X.out.b3
   unfold insO insR at hx3
   obtain ⟨x0, x1, x2, x3, x4, x5, x6, x7, x8, x9, x10, lb3⟩ := cl11 hx3
   have hx4 := X.out.b4
   unfold insZ at hx4
   obtain ⟨z0, z1, z2, z3, z4, z5, z6, z7, z8, z9, z10, lb4⟩ := cl11 hx4
   have fz := fun o => frozen_of_heap hx4 o
   have u0 := fz 0
   have u1 := fz 1
   have u2 := fz 2
   have u3 := fz 3
   have u4 := fz 4
   have u5 := fz 5
   have u6 := fz 6
   have u7 := fz 7
   have u8 := fz 8
   have u9 := fz 9
   have u10 := fz 10
   clear hx3 hx4 fz
   have HEN : Hid (∀ wz, But (w.heap.size + 1) wq wz → ∃ va' S', Ending.returned (aggI (insR i a' b' (readL d2 i.args).1) (.slice av i.args.length cv)) = .returned (aggI (insR i a' b' (readL d2 i.args).1) va') ∧ wz.ownsRow w.heap.size 3 1 va' i.args.length (rowI (insR i a' b' (readL d2 i.args).1).args) ∧ (∀ g, va'.ownBlock = some g → ¬ S' g) ∧ DkM wz S' q (c + 4 + 2 * i.args.length) R (readL d2 i.args).2 ∧ Stp S w wz S') := fun wz hb => by
    have hd := X.out.dk
    have ho := X.out.own
    rw [List.take_length] at hd ho
    rw [List.drop_length, List.append_nil] at ho
    refine ⟨_, S1, rfl, ?_, X.out.nv, hd.but hb X.out.n3.2, X.out.st.but hb (by omega)⟩
    refine ow_same ho fun g hg => hb.block g (World.ownsRow.lt ho g hg).2 fun e => ?_
    have := row_not ho X.out.b4 (by decide)
    exact this (by rw [hg, e])
   have hn0 : w.heap.size ≠ w.heap.size + 1 := by omega
   generalize w.heap.size + 1 = b4 at *
   go_wp2_with fail
   refine bodyPost_ret (v := aggI (insR i a' b' (readL d2 i.args).1) (.slice av i.args.length cv)) ?_ rfl ?_
   ·simp [results, Tryd.results37, go_sem, aggI, insR, x0, x1, x2, x3, x4, x5, x6, x7, x8, x9, x10, z0, z1, z2, z3, z4, z5, z6, z7, z8, z9, z10, u0, u1, u2, u3, u4, u5, u6, u7, u8, u9, u10]
   ·obtain ⟨va', S', e1, e2, e3, e4, e5⟩ := HEN.out _ (((((((((((But.setCell _ _ _ _).trans (But.setCell _ _ _ _)).trans (But.setCell _ _ _ _)).trans (But.setCell _ _ _ _)).trans (But.setCell _ _ _ _)).trans (But.setCell _ _ _ _)).trans (But.setCell _ _ _ _)).trans (But.setCell _ _ _ _)).trans (But.setCell _ _ _ _)).trans (But.setCell _ _ _ _)).trans (But.setCell _ _ _ _))
    exact ⟨va', e1, e2, S', e3, e4, e5⟩
end Go.Proofs.YtkhfddodmjnecaaDoor
