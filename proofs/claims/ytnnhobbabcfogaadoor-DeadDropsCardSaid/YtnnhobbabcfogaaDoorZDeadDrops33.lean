/-
 dead's Dead and Drop: until nothing is idle.
-/
import Derived.Test.YtnnhobbabcfogaaDoorZDeadDrops32
set_option linter.all false
namespace Go.Proofs.YtnnhobbabcfogaaDoor
open Go.ChangeShapes Go.WideShapes Go.ChangeAt Go.RowKit
set_option maxHeartbeats 4000000
set_option maxRecDepth 100000
set_option linter.unusedVariables false

theorem withoutL_len (l : List In) (P : List Int) : (withoutL l P).length ≤ l.length := by
 unfold withoutL
 rw [List.length_map]
 have := List.length_filter_le (fun t : Nat => !hasL P (t : Int)) (List.range l.length)
 rwa [List.length_range] at this
theorem withoutL_lt {l : List In} {P : List Int} {t : Nat} (ht : t < l.length) (h : hasL P (t : Int) = true) : (withoutL l P).length < l.length := by
 unfold withoutL
 rw [List.length_map]
 have h1 : ((List.range l.length).filter fun t : Nat => !hasL P (t : Int)).length < (List.range l.length).length := by
  refine List.length_filter_lt_length_iff_exists.2 ⟨t, List.mem_range.2 ht, ?_⟩
  simp [h]
 rwa [List.length_range] at h1
theorem withoutL_at {l : List In} {P : List Int} {k : Nat} (hk : k < (withoutL l P).length) : ∃ t, t < l.length ∧ (withoutL l P).getD k default = l.getD t default := by
 have e : (withoutL l P).getD k default = (withoutL l P)[k] := by simp [List.getD, hk]
 rw [e]
 have hm : (withoutL l P)[k] ∈ withoutL l P := List.getElem_mem hk
 have hm2 := hm
 unfold withoutL at hm2
 obtain ⟨t, ht, he⟩ := List.mem_map.1 hm2
 exact ⟨t, List.mem_range.1 (List.mem_filter.1 ht).1, he.symm⟩
theorem dropP_len (p : Pr) : (dropP p).blks.length = p.blks.length := by simp [dropP]
theorem dropP_at (p : Pr) {n : Nat} (hn : n < p.blks.length) : (dropP p).blks.getD n default = { p.blks.getD n default with ins := withoutL (p.blks.getD n default).ins (placesL p n) } := by
 simp [dropP, List.getD, hn]
theorem DeadOk.drop {p : Pr} (h : DeadOk p) : DeadOk (dropP p) := by
 refine ⟨by rw [dropP_len]; exact h.blks, h.regs, fun n hn => ?_, fun n hn k hk hp => ?_⟩
 ·rw [dropP_len] at hn
  rw [dropP_at p hn]
  dsimp only
  refine ⟨Nat.le_trans (withoutL_len _ _) (h.ins n hn).1, fun k hk => ?_⟩
  obtain ⟨t, ht, e⟩ := withoutL_at hk
  rw [e]; exact (h.ins n hn).2 t ht
 ·rw [dropP_len] at hn
  rw [dropP_at p hn] at hk hp ⊢
  dsimp only at hk hp ⊢
  obtain ⟨t, ht, e⟩ := withoutL_at hk
  rw [e] at hp ⊢
  exact h.pure n hn t ht hp
def sizeL (bs : List Bk) : Nat := (bs.map fun b => b.ins.length).sum
theorem sum_le {α : Type} (f g : α → Nat) (l : List α) (h : ∀ x ∈ l, f x ≤ g x) : (l.map f).sum ≤ (l.map g).sum := by
 induction l with
 | nil => simp
 | cons a l ih =>
  simp only [List.map_cons, List.sum_cons]
  have := h a (List.mem_cons_self ..)
  have := ih fun x hx => h x (List.mem_cons_of_mem _ hx)
  omega
theorem sum_lt {α : Type} (f g : α → Nat) (l : List α) (h : ∀ x ∈ l, f x ≤ g x) {a : α} (ha : a ∈ l) (hlt : f a < g a) : (l.map f).sum < (l.map g).sum := by
 induction l with
 | nil => cases ha
 | cons b l ih =>
  simp only [List.map_cons, List.sum_cons]
  have h1 := h b (List.mem_cons_self ..)
  have h2 := sum_le f g l fun x hx => h x (List.mem_cons_of_mem _ hx)
  rcases List.mem_cons.1 ha with rfl | ha
  ·omega
  ·have := ih (fun x hx => h x (List.mem_cons_of_mem _ hx)) ha; omega
theorem sizeL_range (bs : List Bk) : sizeL bs = ((List.range bs.length).map fun n => (bs.getD n default).ins.length).sum := by
 unfold sizeL
 congr 1
 apply List.ext_getElem
 ·simp
 ·intro i h1 h2
  have hi : i < bs.length := by simpa using h1
  simp [List.getD, hi]
theorem dropP_less {p : Pr} (h : goneP p p.blks.length ≠ 0) : sizeL (dropP p).blks < sizeL p.blks := by
 rw [sizeL_range, sizeL_range, dropP_len]
 have hle : ∀ n ∈ List.range p.blks.length, ((dropP p).blks.getD n default).ins.length ≤ (p.blks.getD n default).ins.length := fun n hn => by
  rw [dropP_at p (List.mem_range.1 hn)]; exact withoutL_len _ _
 by_cases hex : ∃ n, n < p.blks.length ∧ placesL p n ≠ []
 ·obtain ⟨n, hn, hne⟩ := hex
  refine sum_lt _ _ _ hle (List.mem_range.2 hn) ?_
  rw [dropP_at p hn]
  obtain ⟨x, hx⟩ := List.exists_mem_of_ne_nil _ hne
  have hx2 : 0 ≤ x ∧ x < ((p.blks.getD n default).ins.length : Int) := by
   unfold placesL idleL storeL at hx
   rcases List.mem_append.1 hx with h | h
   ·have := posU_mem h; omega
   ·have := posU_mem h; omega
  obtain ⟨t, rfl⟩ := Int.eq_ofNat_of_zero_le hx2.1
  exact withoutL_lt (by omega) ((hasL_iff _ _).2 hx)
 ·exfalso
  apply h
  have key : ∀ k, k ≤ p.blks.length → goneP p k = 0 := fun k hk => by
   induction k with
   | zero => rfl
   | succ k ih =>
    rw [goneP_succ, ih (by omega)]
    by_cases e : placesL p k = []
    ·rw [e]; rfl
    ·exact absurd ⟨k, by omega, e⟩ hex
  exact key _ (Nat.le_refl _)
/-- until nothing is idle -/
def deadF : Nat → Pr → Pr
 | 0, p => p
 | f + 1, p => if goneP p p.blks.length = 0 then dropP p else deadF f (dropP p)
def deadP (p : Pr) : Pr := deadF (sizeL p.blks + 1) p
theorem deadF_fuel : ∀ (f g : Nat) (q : Pr), sizeL q.blks < f → sizeL q.blks < g → deadF f q = deadF g q
 | 0, _, _, h, _ => absurd h (Nat.not_lt_zero _)
 | _ + 1, 0, _, _, h => absurd h (Nat.not_lt_zero _)
 | f + 1, g + 1, q, h1, h2 => by
  unfold deadF
  by_cases e : goneP q q.blks.length = 0
  ·rw [if_pos e, if_pos e]
  ·rw [if_neg e, if_neg e]
   have := dropP_less e
   exact deadF_fuel f g (dropP q) (by omega) (by omega)
theorem deadF_stop {q : Pr} (e : goneP q q.blks.length = 0) : deadF (sizeL q.blks + 1) q = dropP q := by unfold deadF; rw [if_pos e]
theorem deadF_go {q : Pr} (e : goneP q q.blks.length ≠ 0) : deadF (sizeL q.blks + 1) q = deadF (sizeL (dropP q).blks + 1) (dropP q) := by
 have h := dropP_less e
 conv => lhs; unfold deadF
 rw [if_neg e]
 exact deadF_fuel _ _ _ h (Nat.lt_succ_self _)
theorem InsAt.ext {w00 w w' : World} {vb : Value} {bs : List Bk} (h : InsAt w00 w vb bs) (he : Ext w w') : InsAt w00 w' vb bs := by
 obtain ⟨L, h1, h2, h3⟩ := h
 refine ⟨L, h1, h2.extU he, fun x hx => ?_⟩
 obtain ⟨L', k1, k2, k3⟩ := h3 x hx
 exact ⟨L', k1, k2.extU he, k3⟩
theorem OutB.mono {w00 w : World} {B B' : Nat} {vb : Value} {bs : List Bk} (h : OutB w00 w B vb bs) (hB : B' ≤ B) : OutB w00 w B' vb bs := by
 obtain ⟨L, h1, h2, h3⟩ := h
 exact ⟨L, own_baseD h1 hB, h2, fun x hx => (h3 x hx).mono hB⟩
theorem dead_c (p : Pr) (nm : ByteArray) (vo vb : Value) (w00 w : World) (he00 : Ext w00 w) (hvo : RdSls w00 vo p.objs) (hB : RdBks w vb p.blks) (hA : InsAt w00 w vb p.blks) (hok : DeadOk p) :
  Calls Tryd.prog 36 #[.agg #[.string nm, .bool p.void, .int .i64 p.params, .int .i64 p.regs, vo, vb]] w fun e w' =>
   ∃ vb', e = .returned (.agg #[.string nm, .bool p.void, .int .i64 p.params, .int .i64 p.regs, vo, vb']) ∧ OutB w00 w' w.heap.size vb' (deadP p).blks ∧ Below w.heap.size w w' := by
 have EDR : Hid (∀ (bq : List Bk) (vbq : Value) (w' : World), Ext w00 w' → RdBks w' vbq bq → InsAt w00 w' vbq bq → DeadOk { p with blks := bq } →
   Calls Tryd.prog 58 #[.agg #[.string nm, .bool p.void, .int .i64 p.params, .int .i64 p.regs, vo, vbq]] w' fun e w'' =>
    ∃ vb', e = .returned (.tuple #[.agg #[.string nm, .bool p.void, .int .i64 p.params, .int .i64 p.regs, vo, vb'], .int .i64 (goneP { p with blks := bq } bq.length : Int)]) ∧ OutB w00 w'' w'.heap.size vb' (dropP { p with blks := bq }).blks ∧ Below w'.heap.size w' w'') :=
  fun bq vbq w' he hb ha ho => drop_c { p with blks := bq } nm vo vbq w00 w' he ⟨nm, vo, vbq, rfl, hvo.ext he, hb⟩ ha ho
 obtain ⟨oa, oc, hvo', -⟩ := id hvo
 subst hvo'
 obtain ⟨a, c, rfl, -, -, -⟩ := id hB
 have HE00 := Lib.hid he00
 have HB0 := Lib.hid hB
 have HA0 := Lib.hid hA
 have HOK := Lib.hid hok
 clear he00 hvo hB hA hok
 go_enter Tryd.func36, Tryd.ntmps36
 go_wp2_with fail
 obtain ⟨WA, hWA⟩ : ∃ WA, WA = (w.alloc (.cells #[.string nm, .bool p.void, .int .i64 p.params, .int .i64 p.regs, .slice oa p.objs.length oc, .slice a p.blks.length c] 37)).alloc (.cells zProc 37) := ⟨_, rfl⟩
 have BA : Hid (Below w.heap.size w WA) := by rw [hWA]; exact (below_alloc w _).alloc (by simp) _
 have H0 : Hid (WA.heap[w.heap.size]? = some (.cells #[.string nm, .bool p.void, .int .i64 p.params, .int .i64 p.regs, .slice oa p.objs.length oc, .slice a p.blks.length c] 37)) := by
  rw [hWA]; exact ((below_alloc _ _).block _ (by simp)).trans (heap_alloc_new w _)
 have H1 : Hid (WA.heap[w.heap.size + 1]? = some (.cells zProc 37)) := by
  rw [hWA]
  have := heap_alloc_new (w.alloc (.cells #[.string nm, .bool p.void, .int .i64 p.params, .int .i64 p.regs, .slice oa p.objs.length oc, .slice a p.blks.length c] 37)) (.cells zProc 37)
  rwa [World.size_alloc] at this
 unfold zProc at hWA
 rw [← hWA]
 clear hWA
 have EA := Lib.hid (Ext.below BA.out)
 have q01 := (Array.getElem?_eq_some_iff.1 H1.out).1
 go_loopg [] (sizeL p.blks) (fun m wr => ∃ (bq : List Bk) (aq : Option Addr) (cq : Nat), Hid (m = sizeL bq) ∧ Hid (DeadOk { p with blks := bq }) ∧ Hid (deadF (sizeL bq + 1) { p with blks := bq } = deadP p) ∧ Hid (RdBks wr (.slice aq bq.length cq) bq) ∧ Hid (InsAt w00 wr (.slice aq bq.length cq) bq) ∧
  Hid (wr.heap[w.heap.size]? = some (.cells #[.string nm, .bool p.void, .int .i64 p.params, .int .i64 p.regs, .slice oa p.objs.length oc, .slice aq bq.length cq] 37)) ∧ Hid (wr.heap[w.heap.size + 1]? = some (.cells zProc 37)) ∧ Hid (Below w.heap.size w wr))
 case atStart => exact ⟨p.blks, a, c, rfl, HOK.out, rfl, HB0.out.ext EA.out, HA0.out.ext EA.out, H0, H1, BA⟩
 case round =>
  clear H0 H1 BA EA HB0 HA0 HOK
  obtain ⟨bq, aq, cq, Hm, OK, HF, HB, HA, H0, H1, BW⟩ := hrel
  have EW := Lib.hid (Ext.below BW.out)
  have EDq := Lib.hid (EDR.out bq (.slice aq bq.length cq) wr (HE00.out.trans EW.out) HB.out HA.out OK.out)
  have OKd := Lib.hid OK.out.drop
  obtain ⟨x0, x1, x2, x3, x4, x5, l0⟩ := cl6 H0.out
  go_wp2_with fail
  refine EDq.out.mono ?_
  rintro e w1 ⟨vb', rfl, hO1, hb1⟩
  have hlb : (dropP { p with blks := bq }).blks.length = bq.length := dropP_len _
  obtain ⟨L1, hL1, hL2, hL3⟩ := id hO1
  have hll : L1.length = bq.length := by rw [← hlb, ← hL2]; simp
  obtain ⟨a1, c1, hv1⟩ := row_form hL1
  rw [hll] at hv1
  subst hv1
  have HO1 := Lib.hid hO1
  have HB1 := Lib.hid hb1
  have HLB := Lib.hid hlb
  have l1 := (Array.getElem?_eq_some_iff.1 H1.out).1
  have H0 := Lib.hid ((hb1.block _ l0).trans H0.out)
  have H1 := Lib.hid ((hb1.block _ l1).trans H1.out)
  have BW1 := Lib.hid (BW.out.trans (hb1.mono BW.out.size))
  clear x0 x1 x2 x3 x4 x5 hO1 hb1 hL1 hL2 hL3 hll EDq HB HA hlb
  dsimp only
  obtain ⟨gn, hgn⟩ : ∃ gn, goneP { p with blks := bq } bq.length = gn := ⟨_, rfl⟩
  have HGN := Lib.hid hgn
  rw [hgn]
  clear hgn
  obtain ⟨x0, x1, x2, x3, x4, x5, -⟩ := cl6 H0.out
  have u0 := cell_of_heap H1.out 0
  have u1 := cell_of_heap H1.out 1
  have u2 := cell_of_heap H1.out 2
  have u3 := cell_of_heap H1.out 3
  have u4 := cell_of_heap H1.out 4
  have u5 := cell_of_heap H1.out 5
  unfold zProc at u0 u1 u2 u3 u4 u5
  simp only [List.getElem?_toArray, List.getElem?_cons_zero, List.getElem?_cons_succ] at u0 u1 u2 u3 u4 u5
  have f0 := frozen_of_heap H0.out 0
  have f1 := frozen_of_heap H0.out 1
  have f2 := frozen_of_heap H0.out 2
  have f3 := frozen_of_heap H0.out 3
  have f4 := frozen_of_heap H0.out 4
  have f5 := frozen_of_heap H0.out 5
  have k0 := frozen_of_heap H1.out 0
  have k1 := frozen_of_heap H1.out 1
  have k2 := frozen_of_heap H1.out 2
  have k3 := frozen_of_heap H1.out 3
  have k4 := frozen_of_heap H1.out 4
  have k5 := frozen_of_heap H1.out 5
  have l0' := (Array.getElem?_eq_some_iff.1 H0.out).1
  have l1' := (Array.getElem?_eq_some_iff.1 H1.out).1
  by_cases hg : gn = 0
  ·subst hg
   go_wp2_with fail
   obtain ⟨W8, hW8⟩ : ∃ W8, W8 = (((((w1.setCell ⟨w.heap.size + 1, 0, none⟩ (.string nm)).setCell ⟨w.heap.size + 1, 1, none⟩ (.bool p.void)).setCell ⟨w.heap.size + 1, 2, none⟩ (.int .i64 p.params)).setCell ⟨w.heap.size + 1, 3, none⟩ (.int .i64 p.regs)).setCell ⟨w.heap.size + 1, 4, none⟩ (.slice oa p.objs.length oc)).setCell ⟨w.heap.size + 1, 5, none⟩ (.slice a1 bq.length c1) := ⟨_, rfl⟩
   rw [← hW8]
   have K8 : But (w.heap.size + 1) w1 W8 := by
    rw [hW8]
    exact (((((But.setCell _ _ w1 _).trans (But.setCell _ _ _ _)).trans (But.setCell _ _ _ _)).trans (But.setCell _ _ _ _)).trans (But.setCell _ _ _ _)).trans (But.setCell _ _ _ _)
   have g8 : W8.heap[w.heap.size + 1]? = some (.cells #[.string nm, .bool p.void, .int .i64 p.params, .int .i64 p.regs, .slice oa p.objs.length oc, .slice a1 bq.length c1] 37) := by
    rw [hW8]
    exact heap_setCell_same _ _ 5 _ _ _ (heap_setCell_same _ _ 4 _ _ _ (heap_setCell_same _ _ 3 _ _ _ (heap_setCell_same _ _ 2 _ _ _ (heap_setCell_same _ _ 1 _ _ _ (heap_setCell_same w1 _ 0 _ _ _ H1.out)))))
   clear hW8 x0 x1 x2 x3 x4 x5 u0 u1 u2 u3 u4 u5 f0 f1 f2 f3 f4 f5 k0 k1 k2 k3 k4 k5
   have hO8 := HO1.out.turn (but_grown K8) (fun b e => by simp only [Option.some.injEq] at e; omega)
   have hb9 := below_alloc W8 (.cells #[.string nm, .bool p.void, .int .i64 p.params, .int .i64 p.regs, .slice oa p.objs.length oc, .slice a1 bq.length c1] 37)
   have hO9 := hO8.below hb9
   have l8 : w.heap.size + 1 < W8.heap.size := Nat.lt_of_lt_of_le l1' K8.size
   have g9 := (hb9.block (w.heap.size + 1) l8).trans g8
   obtain ⟨x0, x1, x2, x3, x4, x5, -⟩ := cl6 g9
   have B8 := BW1.out.trans (K8.toBelow (B := w.heap.size) (by omega) (by omega))
   have B9 := B8.trans (hb9.mono B8.size)
   have E9 := deadF_stop (q := { p with blks := bq }) HGN.out
   rw [HF.out] at E9
   refine bodyPost_ret (v := .agg #[.string nm, .bool p.void, .int .i64 p.params, .int .i64 p.regs, .slice oa p.objs.length oc, .slice a1 bq.length c1]) (by simp [results, Tryd.results36, go_sem, x0, x1, x2, x3, x4, x5]) rfl ?_
   exact ⟨_, rfl, by rw [E9]; exact hO9.mono (by omega), B9⟩
  ·have hgi : ((gn : Int) == 0) = false := beq_eq_false_iff_ne.2 (by omega)
   go_wp2_with fail
   obtain ⟨W8, hW8⟩ : ∃ W8, W8 = (((((w1.setCell ⟨w.heap.size, 0, none⟩ (.string nm)).setCell ⟨w.heap.size, 1, none⟩ (.bool p.void)).setCell ⟨w.heap.size, 2, none⟩ (.int .i64 p.params)).setCell ⟨w.heap.size, 3, none⟩ (.int .i64 p.regs)).setCell ⟨w.heap.size, 4, none⟩ (.slice oa p.objs.length oc)).setCell ⟨w.heap.size, 5, none⟩ (.slice a1 bq.length c1) := ⟨_, rfl⟩
   rw [← hW8]
   have K8 : But w.heap.size w1 W8 := by
    rw [hW8]
    exact (((((But.setCell _ _ w1 _).trans (But.setCell _ _ _ _)).trans (But.setCell _ _ _ _)).trans (But.setCell _ _ _ _)).trans (But.setCell _ _ _ _)).trans (But.setCell _ _ _ _)
   have g8 : W8.heap[w.heap.size]? = some (.cells #[.string nm, .bool p.void, .int .i64 p.params, .int .i64 p.regs, .slice oa p.objs.length oc, .slice a1 bq.length c1] 37) := by
    rw [hW8]
    exact heap_setCell_same _ _ 5 _ _ _ (heap_setCell_same _ _ 4 _ _ _ (heap_setCell_same _ _ 3 _ _ _ (heap_setCell_same _ _ 2 _ _ _ (heap_setCell_same _ _ 1 _ _ _ (heap_setCell_same w1 _ 0 _ _ _ H0.out)))))
   clear hW8 x0 x1 x2 x3 x4 x5 u0 u1 u2 u3 u4 u5 f0 f1 f2 f3 f4 f5 k0 k1 k2 k3 k4 k5
   have hO8 := HO1.out.turn (but_grown K8) (fun b e => by simp only [Option.some.injEq] at e; omega)
   have hb9 := below_alloc W8 (.cells #[.string nm, .bool p.void, .int .i64 p.params, .int .i64 p.regs, .slice oa p.objs.length oc, .slice a1 bq.length c1] 37)
   have hO9 := hO8.below hb9
   have l8 : w.heap.size < W8.heap.size := Nat.lt_of_lt_of_le l0' K8.size
   have l8' : w.heap.size + 1 < W8.heap.size := Nat.lt_of_lt_of_le l1' K8.size
   have g9 := (hb9.block w.heap.size l8).trans g8
   have g9' := (hb9.block (w.heap.size + 1) l8').trans ((K8.block (w.heap.size + 1) l1' (by omega)).trans H1.out)
   have B8 := BW1.out.trans (K8.toBelow (B := w.heap.size) (by omega) (by omega))
   have B9 := B8.trans (hb9.mono B8.size)
   have E9 := deadF_go (q := { p with blks := bq }) (by rw [HGN.out]; exact hg)
   rw [HF.out] at E9
   have hlt := dropP_less (p := { p with blks := bq }) (by rw [HGN.out]; exact hg)
   obtain ⟨W9, hW9⟩ : ∃ W9, W9 = W8.alloc (.cells #[.string nm, .bool p.void, .int .i64 p.params, .int .i64 p.regs, .slice oa p.objs.length oc, .slice a1 bq.length c1] 37) := ⟨_, rfl⟩
   rw [← hW9] at hO9 g9 g9' B9 ⊢
   obtain ⟨bn, hbn⟩ : ∃ bn, bn = (dropP { p with blks := bq }).blks := ⟨_, rfl⟩
   have HLB' := HLB.out
   have OKd' := OKd.out
   rw [show dropP { p with blks := bq } = { p with blks := (dropP { p with blks := bq }).blks } from rfl] at OKd' E9
   rw [← hbn] at HLB' hO9 hlt OKd' E9
   have HR : Hid (∃ (bq : List Bk) (aq : Option Addr) (cq : Nat), Hid (sizeL bn = sizeL bq) ∧ Hid (DeadOk { p with blks := bq }) ∧ Hid (deadF (sizeL bq + 1) { p with blks := bq } = deadP p) ∧ Hid (RdBks W9 (.slice aq bq.length cq) bq) ∧ Hid (InsAt w00 W9 (.slice aq bq.length cq) bq) ∧
     Hid (W9.heap[w.heap.size]? = some (.cells #[.string nm, .bool p.void, .int .i64 p.params, .int .i64 p.regs, .slice oa p.objs.length oc, .slice aq bq.length cq] 37)) ∧ Hid (W9.heap[w.heap.size + 1]? = some (.cells zProc 37)) ∧ Hid (Below w.heap.size w W9)) := by
    refine ⟨bn, a1, c1, rfl, OKd', E9.symm, ?_, ?_, by rw [HLB']; exact g9, g9', B9⟩
    ·rw [HLB']; exact hO9.rd (HE00.out.trans (Ext.below B9))
    ·rw [HLB']; exact hO9.ins
   have HM : Hid (sizeL bn < gk) := by rw [Hm.out]; exact hlt
   clear hW9 hbn HLB' OKd' E9 hO9 g9 g9' B9 B8 hlt l8 l8' hb9 hO8 g8 K8 hgi
   go_roundg (sizeL bn)
   case rel => exact HR
   case measure => exact HM
end Go.Proofs.YtnnhobbabcfogaaDoor
