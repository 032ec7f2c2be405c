/-
 The document's Drop.
-/
import Derived.Test.YtnnhobbabcfogaaDoorZDeadDrops34
import Derived.Test.YtnnhobbabcfogaaDoorZDeadDrops35
import Derived.Test.YtnnhobbabcfogaaDoorZDeadDrops40
import Derived.Test.YtnnhobbabcfogaaDoorZDeadDrops19
set_option linter.all false
namespace Go.Proofs.YtnnhobbabcfogaaDoor
open Go.ChangeShapes Go.WideShapes Go.ChangeAt Go.RowKit
set_option maxHeartbeats 4000000
set_option maxRecDepth 100000
set_option linter.unusedVariables false

/-- the first so many instructions of a block that stay -/
def keepL (p : Pr) (n j : Nat) : List In := ((List.range j).filter fun t : Nat => !(idleI p n t) && !(storeI (p.blks.getD n default).ins t)).map fun t => (p.blks.getD n default).ins.getD t default
theorem keepL_succ (p : Pr) (n j : Nat) : keepL p n (j + 1) = keepL p n j ++ (if (!(idleI p n j) && !(storeI (p.blks.getD n default).ins j)) = true then [(p.blks.getD n default).ins.getD j default] else []) := by
 unfold keepL
 rw [List.range_succ, List.filter_append, List.map_append]
 congr 1
 rw [List.filter_cons]
 split <;> simp_all
theorem keepL_yes {p : Pr} {n j : Nat} (h1 : idleI p n j = false) (h2 : storeI (p.blks.getD n default).ins j = false) : keepL p n (j + 1) = keepL p n j ++ [(p.blks.getD n default).ins.getD j default] := by
 rw [keepL_succ, h1, h2]; rfl
theorem keepL_no1 {p : Pr} {n j : Nat} (h1 : idleI p n j = true) : keepL p n (j + 1) = keepL p n j := by
 rw [keepL_succ, h1]; simp
theorem keepL_no2 {p : Pr} {n j : Nat} (h1 : storeI (p.blks.getD n default).ins j = true) : keepL p n (j + 1) = keepL p n j := by
 rw [keepL_succ, h1]; simp
theorem keepL_len (p : Pr) (n j : Nat) : (keepL p n j).length ≤ j := by
 unfold keepL
 rw [List.length_map]
 have := List.length_filter_le (fun t : Nat => !(idleI p n t) && !(storeI (p.blks.getD n default).ins t)) (List.range j)
 rwa [List.length_range] at this
theorem keepL_all (p : Pr) (n : Nat) : keepL p n (p.blks.getD n default).ins.length = withoutL (p.blks.getD n default).ins (placesL p n) := by
 unfold keepL withoutL
 congr 1
 refine List.filter_congr fun t ht => ?_
 have ht := List.mem_range.1 ht
 rw [← Bool.not_or]
 congr 1
 rw [Bool.eq_iff_iff, Bool.or_eq_true, hasL_iff, placesL, List.mem_append, idleL, storeL, posU_mem_iff _ ht, posU_mem_iff _ ht]
theorem InsAt.arg {w00 w : World} {b o n c : Nat} {bs : List Bk} (h : InsAt w00 w (.slice (some ⟨b, o, none⟩) n c) bs) {k : Nat} (hk : k < bs.length) {vi : Value} (hc : w.cell? ⟨b, o + k * 5, none⟩ = some vi) : GoodO w00 w (bs.getD k default, vi) := by
 obtain ⟨L, h1, h2, h3⟩ := h
 have hl : L.length = bs.length := by rw [← h1]; simp
 have hkL : k < L.length := by omega
 have e1 : (L.getD k default).1 = bs.getD k default := by rw [← h1]; simp [List.getD, hkL]
 have hm : L.getD k default ∈ L := by simp [List.getD, hkL]
 have e2 : (L.getD k default).2 = vi := by
  rcases h2 with ⟨⟨c0, e⟩, -, -⟩ | ⟨ad, c', e, -, -, hcc⟩
  ·cases e
  ·simp only [Value.slice.injEq, Option.some.injEq] at e
   obtain ⟨b', o', e3, e4⟩ := hcc (k * 5) (L.getD k default).2 (by rw [flat_atB L k hkL])
   rw [← e.1] at e3
   simp only [Addr.mk.injEq] at e3
   obtain ⟨rfl, rfl, -⟩ := e3
   rw [hc] at e4
   exact (Option.some.inj e4).symm
 have h4 := h3 _ hm
 rw [show L.getD k default = (bs.getD k default, vi) from Prod.ext e1 e2] at h4
 exact h4
theorem GoodO.arg {w00 w : World} {b o n c : Nat} {K : Bk} (h : GoodO w00 w (K, .slice (some ⟨b, o, none⟩) n c)) {k : Nat} (hk : k < K.ins.length) {va : Value} (hc : w.cell? ⟨b, o + k * 11 + 9, none⟩ = some va) : RdI w00 va (K.ins.getD k default).args := by
 obtain ⟨L, h1, h2, h3⟩ := h
 have h1 : L.map Prod.fst = K.ins := h1
 have hl : L.length = K.ins.length := by rw [← h1]; simp
 have hkL : k < L.length := by omega
 have e1 : (L.getD k default).1 = K.ins.getD k default := by rw [← h1]; simp [List.getD, hkL]
 have hm : L.getD k default ∈ L := by simp [List.getD, hkL]
 have e2 : (L.getD k default).2 = va := by
  rcases h2 with ⟨⟨c0, e⟩, -, -⟩ | ⟨ad, c', e, -, -, hcc⟩
  ·cases e
  ·simp only [Value.slice.injEq, Option.some.injEq] at e
   obtain ⟨b', o', e3, e4⟩ := hcc (k * 11 + 9) (L.getD k default).2 (by rw [flat_atI L k 9 hkL (by decide)]; rfl)
   rw [← e.1] at e3
   simp only [Addr.mk.injEq] at e3
   obtain ⟨rfl, rfl, -⟩ := e3
   rw [← Nat.add_assoc, hc] at e4
   exact (Option.some.inj e4).symm
 have h4 := h3 _ hm
 rw [e1, e2] at h4
 exact h4
/-- rows of blocks of the call's own, their instructions too -/
structure BkD (w00 w W0 wr : World) (v : Value) (L : List (Bk × Value)) (l : List Bk) : Prop where
 own : wr.ownsRow (W0.heap.size + 1) 40 5 v L.length (L.flatMap bkCells)
 good : ∀ x ∈ L, GoodR w00 wr (W0.heap.size + 1) x ∧ (x.2.ownBlock = none ∨ x.2.ownBlock ≠ v.ownBlock)
 is : L.map Prod.fst = l
 below : Below W0.heap.size W0 wr
 le : Below w.heap.size w W0
 sz : W0.heap.size + 1 ≤ wr.heap.size
section
variable {w00 w W0 wr w' : World} {v v' : Value} {L : List (Bk × Value)} {l : List Bk}
theorem BkD.nil (h : Below w.heap.size w W0) (hb : Below W0.heap.size W0 wr) (hz : W0.heap.size + 1 ≤ wr.heap.size) : BkD w00 w W0 wr (.slice none 0 0) [] [] := ⟨own_nil _ _ _ _, fun x hx => (by cases hx), rfl, hb, h, hz⟩
theorem BkD.grow (h : BkD w00 w W0 wr v L l) (hb : Below wr.heap.size wr w') : BkD w00 w W0 w' v L l :=
 ⟨own_below h.own hb, fun x hx => ⟨(h.good x hx).1.below hb, (h.good x hx).2⟩, h.is, h.below.trans (hb.mono h.below.size), h.le, Nat.le_trans h.sz hb.size⟩
theorem BkD.set (h : BkD w00 w W0 wr v L l) (j : Nat) (x : Value) : BkD w00 w W0 (wr.setCell ⟨W0.heap.size, j, none⟩ x) v L l := by
 have hg := but_grown (But.setCell W0.heap.size j wr x)
 have hr : ∀ b, some W0.heap.size = some b → b < W0.heap.size + 1 := fun b e => by simp only [Option.some.injEq] at e; omega
 refine ⟨World.ownsRow.kept h.own hg ?_, fun y hy => ⟨(h.good y hy).1.turn hg hr, (h.good y hy).2⟩, h.is, grown_belG h.below h.below.size hg (fun b e => by simp only [Option.some.injEq] at e; omega), h.le, Nat.le_trans h.sz hg.size⟩
 rcases e2 : v.ownBlock with _ | b
 ·exact .inl rfl
 ·refine .inr fun e => ?_
  have := (World.ownsRow.lt h.own b e2).1
  simp only [Option.some.injEq] at e
  omega
theorem BkD.len (h : BkD w00 w W0 wr v L l) : L.length = l.length := by rw [← h.is]; simp
theorem BkD.sl (h : BkD w00 w W0 wr v L l) {k : Nat} (hk : l.length = k) : ∃ a c, v = .slice a k c := by
 obtain ⟨a, c, e⟩ := row_form h.own
 exact ⟨a, c, by rw [e, h.len, hk]⟩
/-- .. one more -/
theorem BkD.app {x : Bk} {vi : Value} (h : BkD w00 w W0 wr v L l) (hx : GoodR w00 wr (W0.heap.size + 1) (x, vi)) (hxa : vi.ownBlock = none ∨ vi.ownBlock ≠ v.ownBlock)
  (ho : w'.ownsRow (W0.heap.size + 1) 40 5 v' (L.length + 1) (L.flatMap bkCells ++ [vi, .int .i64 x.fin, .int .i64 x.a, .int .i64 x.to, .int .i64 x.els])) (hg : wr.grownBy w' v.ownBlock) (ha : v'.ownBlock = v.ownBlock ∨ v'.ownBlock = some wr.heap.size) : BkD w00 w W0 w' v' (L ++ [(x, vi)]) (l ++ [x]) := by
 have key : ∀ y : Bk × Value, GoodR w00 wr (W0.heap.size + 1) y → (y.2.ownBlock = none ∨ y.2.ownBlock ≠ v.ownBlock) → GoodR w00 w' (W0.heap.size + 1) y ∧ (y.2.ownBlock = none ∨ y.2.ownBlock ≠ v'.ownBlock) := fun y hy hya => by
  obtain ⟨L', h1, h2, h3⟩ := hy
  refine ⟨⟨L', World.ownsRow.kept h1 hg hya, h2, h3⟩, ?_⟩
  rcases ha with e | e
  ·rw [e]; exact hya
  ·rcases e2 : y.2.ownBlock with _ | b
   ·exact .inl rfl
   ·refine .inr fun e3 => ?_
    rw [e] at e3
    simp only [Option.some.injEq] at e3
    have := (World.ownsRow.lt h1 b e2).2
    omega
 refine ⟨by simpa [bkCells] using ho, fun y hy => ?_, by rw [List.map_append, h.is]; rfl, h.below.grown hg h.below.size (fun k hk => by have := (own_lt h.own hk).1; omega), h.le, Nat.le_trans h.sz hg.size⟩
 rcases List.mem_append.1 hy with hy | hy
 ·exact key y (h.good y hy).1 (h.good y hy).2
 ·simp only [List.mem_cons, List.not_mem_nil, or_false] at hy
  rw [hy]; exact key _ hx hxa
end
def dropK (p : Pr) (k : Nat) : List Bk := (List.range k).map fun n => { p.blks.getD n default with ins := withoutL (p.blks.getD n default).ins (placesL p n) }
theorem dropK_len (p : Pr) (k : Nat) : (dropK p k).length = k := by simp [dropK]
theorem dropK_succ (p : Pr) (k : Nat) : dropK p (k + 1) = dropK p k ++ [{ p.blks.getD k default with ins := withoutL (p.blks.getD k default).ins (placesL p k) }] := by unfold dropK; rw [List.range_succ, List.map_append]; rfl
theorem rdrop_c (p : Pr) (nm : ByteArray) (vo vb : Value) (w00 w : World) (he00 : Ext w00 w) (ho : RdSls w vo p.objs) (hvb : RdBks w vb p.blks) (hA : InsAt w00 w vb p.blks) (hok : DeadOk p) :
  Calls Tryd.prog 35 #[.agg #[.string nm, .bool p.void, .int .i64 p.params, .int .i64 p.regs, vo, vb]] w fun e w' => ∃ vb', e = .returned (.agg #[.string nm, .bool p.void, .int .i64 p.params, .int .i64 p.regs, vo, vb']) ∧ OutB w00 w' w.heap.size vb' (dropP p).blks ∧ Below w.heap.size w w' := by
 have EI : Hid (∀ (n j : Nat) w', Ext w w' → n < p.blks.length → j < (p.blks.getD n default).ins.length → Calls Tryd.prog 59 #[.agg #[.string nm, .bool p.void, .int .i64 p.params, .int .i64 p.regs, vo, vb], .int .i64 (n : Int), .int .i64 (j : Int)] w' fun e w'' => e = .returned (.bool (idleI p n j)) ∧ Below w'.heap.size w' w'') :=
  fun n j w' he hn hj => ridle_c p _ n j w' ⟨nm, vo, vb, rfl, ho.ext he, hvb.ext he⟩ hok.blks.2 (fun j hj => (hok.ins j hj).1) (fun i hi j hj => (hok.ins i hi).2 j hj) hn hj
 have ES : Hid (∀ (n j : Nat) w', Ext w w' → n < p.blks.length → j < (p.blks.getD n default).ins.length → Calls Tryd.prog 60 #[.agg #[.string nm, .bool p.void, .int .i64 p.params, .int .i64 p.regs, vo, vb], .int .i64 (n : Int), .int .i64 (j : Int)] w' fun e w'' => e = .returned (.bool (storeI (p.blks.getD n default).ins j)) ∧ Below w'.heap.size w' w'') :=
  fun n j w' he hn hj => rstore_c p _ n j w' ⟨nm, vo, vb, rfl, ho.ext he, hvb.ext he⟩ hok.blks.2 (fun j hj => (hok.ins j hj).1) hn hj
 have HIL : Hid (∀ n, n < p.blks.length → (p.blks.getD n default).ins.length ≤ 1000) := fun n hn => (hok.ins n hn).1
 have hl := hok.blks.2
 have ho' := ho
 obtain ⟨ao, co, rfl, -⟩ := ho'
 have hvb' := hvb
 obtain ⟨ab, cb, rfl, h1, h2, -⟩ := hvb'
 unfold maxLen at h2
 have HBk := Lib.hid (RdBks.at hvb).2
 have HO := Lib.hid ho
 have HAA := Lib.hid hA
 clear hvb ho hok hA
 obtain ⟨W0, hW0⟩ : ∃ W0, W0 = (w.alloc (.cells #[.string nm, .bool p.void, .int .i64 p.params, .int .i64 p.regs, .slice ao p.objs.length co, .slice ab p.blks.length cb] 37)).alloc (.cells #[.string { data := #[] }, .bool false, .int .i64 0, .int .i64 0, .slice none 0 0, .slice none 0 0] 37) := ⟨_, rfl⟩
 have hW0' : W0 = allocs w [.cells #[.string nm, .bool p.void, .int .i64 p.params, .int .i64 p.regs, .slice ao p.objs.length co, .slice ab p.blks.length cb] 37, .cells #[.string { data := #[] }, .bool false, .int .i64 0, .int .i64 0, .slice none 0 0, .slice none 0 0] 37] := hW0
 have B0 : Hid (Below w.heap.size w W0) := by rw [hW0']; exact allocs_below _ _
 have H0 : Hid (W0.heap[w.heap.size]? = some (.cells #[.string nm, .bool p.void, .int .i64 p.params, .int .i64 p.regs, .slice ao p.objs.length co, .slice ab p.blks.length cb] 37 (0, 0))) := by rw [hW0']; exact allocs_heap _ w 0 (by simp)
 have H1 : Hid (W0.heap[w.heap.size + 1]? = some (.cells #[.string { data := #[] }, .bool false, .int .i64 0, .int .i64 0, .slice none 0 0, .slice none 0 0] 37 (0, 0))) := by rw [hW0']; exact allocs_heap _ w 1 (by simp)
 have l0w : w.heap.size < W0.heap.size := (Array.getElem?_eq_some_iff.1 H0.out).1
 have l1w : w.heap.size + 1 < W0.heap.size := (Array.getElem?_eq_some_iff.1 H1.out).1
 have hz0 : W0.heap.size = w.heap.size + 1 + 1 := by rw [hW0]; simp
 go_enter Tryd.func35, Tryd.ntmps35
 go_wp2_with fail
 rw [show w.heap.size + 1 + 1 = W0.heap.size from hz0.symm, ← hW0]
 clear hW0 hW0' hz0
 obtain ⟨W1, hW1⟩ : ∃ W1, W1 = W0.alloc (.cells #[.string nm, .bool p.void, .int .i64 p.params, .int .i64 p.regs, .slice ao p.objs.length co, .slice none 0 0] 37) := ⟨_, rfl⟩
 have G1 : Hid (W1.heap[W0.heap.size]? = some (.cells #[.string nm, .bool p.void, .int .i64 p.params, .int .i64 p.regs, .slice ao p.objs.length co, .slice none 0 0] 37)) := by
  rw [hW1]; exact heap_alloc_new W0 _
 have B1 : Below W0.heap.size W0 W1 := by
  rw [hW1]; exact below_alloc W0 _
 have D0 : Hid (BkD w00 w W0 W1 (.slice none 0 0) [] (dropK p 0)) := BkD.nil B0.out B1 (Array.getElem?_eq_some_iff.1 G1.out).1
 rw [← hW1]
 clear hW1 B1
 go_loopw [4] (fun i wr => ∃ (k : Nat) (L : List (Bk × Value)) (vz : Value), i = .int .i64 (k : Int) ∧ k ≤ p.blks.length ∧ Hid (BkD w00 w W0 wr vz L (dropK p k)) ∧ Hid (wr.heap[W0.heap.size]? = some (.cells #[.string nm, .bool p.void, .int .i64 p.params, .int .i64 p.regs, .slice ao p.objs.length co, vz] 37))) (fun i _ => p.blks.length - (intOf i).toNat)
 case atStart => exact ⟨0, [], _, rfl, Nat.zero_le _, D0, G1⟩
 case round =>
  clear D0 G1
  obtain ⟨k, L, vz, rfl, hk, D, G⟩ := hrel
  obtain ⟨az, cz, rfl⟩ := D.out.sl (dropK_len p k)
  have H0r := Lib.hid ((D.out.below.block _ l0w).trans H0.out)
  obtain ⟨y0, y1, y2, y3, y4, y5, l0⟩ := cl6 H0r.out
  by_cases hlt : k < p.blks.length
  ·have g1 : decide ((k : Int) < (p.blks.length : Int)) = true := decide_eq_true (by omega)
   have g2 : decide (k < p.blks.length) = true := decide_eq_true hlt
   obtain ⟨b, o, vi, rfl, hvi, c0, c1, c2, c3, c4⟩ := HBk.out k hlt
   have hE : Ext w wr := (Ext.below D.out.le).trans (Ext.below D.out.below)
   have lbw := World.block_lt_of_cell? w _ c0
   have HC0 := Lib.hid c0
   replace c0 := hE _ _ c0
   replace c1 := hE _ _ c1
   replace c2 := hE _ _ c2
   replace c3 := hE _ _ c3
   replace c4 := hE _ _ c4
   have HVI := Lib.hid hvi
   have HGO := Lib.hid (HAA.out.arg hlt HC0.out)
   obtain ⟨ai, ci, rfl, hi1, hi2⟩ := RdIns.sl hvi
   unfold maxLen at hi2
   clear hvi hE
   have hLk := HIL.out k hlt
   have HKA := Lib.hid (keepL_all p k)
   have HDS := Lib.hid (dropK_succ p k)
   have hKY : Hid (∀ j, idleI p k j = false → storeI (p.blks.getD k default).ins j = false → keepL p k (j + 1) = keepL p k j ++ [(p.blks.getD k default).ins.getD j default]) := fun j h1 h2 => keepL_yes h1 h2
   have hKN2 : Hid (∀ j, storeI (p.blks.getD k default).ins j = true → keepL p k (j + 1) = keepL p k j) := fun j h => keepL_no2 h
   have hKN1 : Hid (∀ j, idleI p k j = true → keepL p k (j + 1) = keepL p k j) := fun j h => keepL_no1 h
   have EI' : Hid (∀ (j : Nat) w', Ext w w' → j < (p.blks.getD k default).ins.length → Calls Tryd.prog 59 #[.agg #[.string nm, .bool p.void, .int .i64 p.params, .int .i64 p.regs, .slice ao p.objs.length co, .slice (some ⟨b, o, none⟩) p.blks.length cb], .int .i64 (k : Int), .int .i64 (j : Int)] w' fun e w'' => e = .returned (.bool (idleI p k j)) ∧ Below w'.heap.size w' w'') := fun j w' he hj => EI.out k j w' he hlt hj
   have ES' : Hid (∀ (j : Nat) w', Ext w w' → j < (p.blks.getD k default).ins.length → Calls Tryd.prog 60 #[.agg #[.string nm, .bool p.void, .int .i64 p.params, .int .i64 p.regs, .slice ao p.objs.length co, .slice (some ⟨b, o, none⟩) p.blks.length cb], .int .i64 (k : Int), .int .i64 (j : Int)] w' fun e w'' => e = .returned (.bool (storeI (p.blks.getD k default).ins j)) ∧ Below w'.heap.size w' w'') := fun j w' he hj => ES.out k j w' he hlt hj
   have hkl : ∀ j, (keepL p k j).length ≤ j := keepL_len p k
   have hkl := Lib.hid hkl
   generalize keepL p k = kL at *
   generalize idleI p k = iF at *
   generalize storeI (p.blks.getD k default).ins = sF at *
   generalize p.blks.getD k default = K at *
   go_wp2_with fail
   generalize wr = wo at *
   obtain ⟨W2, hW2⟩ : ∃ W2, W2 = wo.alloc (.cells #[.slice none 0 0, .int .i64 K.fin, .int .i64 K.a, .int .i64 K.to, .int .i64 K.els] 40) := ⟨_, rfl⟩
   have G2 : Hid (W2.heap[wo.heap.size]? = some (.cells #[.slice none 0 0, .int .i64 K.fin, .int .i64 K.a, .int .i64 K.to, .int .i64 K.els] 40)) := by
    rw [hW2]; exact heap_alloc_new wo _
   have B2 : Hid (Below wo.heap.size wo W2) := by
    rw [hW2]; exact below_alloc wo _
   rw [← hW2]
   clear hW2 c0 c1 c2 c3 c4 y0 y1 y2 y3 y4 y5 l0
   go_loopw [6] (fun i wr => ∃ (j : Nat) (Lj : List (In × Value)) (vi : Value), i = .int .i64 (j : Int) ∧ j ≤ K.ins.length ∧ Hid (Below wo.heap.size wo wr) ∧ Hid (wr.heap[wo.heap.size]? = some (.cells #[vi, .int .i64 K.fin, .int .i64 K.a, .int .i64 K.to, .int .i64 K.els] 40)) ∧ Hid (OwnC wr (wo.heap.size + 1) vi Lj) ∧ Hid (Lj.map Prod.fst = kL j) ∧ Hid (∀ y ∈ Lj, RdI w00 y.2 y.1.args)) (fun i _ => K.ins.length - (intOf i).toNat)
   case atStart => exact ⟨0, [], _, rfl, Nat.zero_le _, B2, G2, own_nil _ _ _ _, by have h := hkl.out 0; exact (List.eq_nil_of_length_eq_zero (by omega)).symm, fun y hy => (by cases hy)⟩
   case round =>
    clear B2 G2
    obtain ⟨j, Lj, vi, rfl, hj, WB, GB, OL, FL, AL⟩ := hrel
    obtain ⟨ae, ce, rfl⟩ := row_form OL.out
    have H0q := Lib.hid ((WB.out.block _ (Array.getElem?_eq_some_iff.1 H0r.out).1).trans H0r.out)
    obtain ⟨y0, y1, y2, y3, y4, y5, l0⟩ := cl6 H0q.out
    have EWW : Hid (Ext w wr) := ((Ext.below D.out.le).trans (Ext.below D.out.below)).trans (Ext.below WB.out)
    have c0 := EWW.out _ _ HC0.out
    by_cases hlj : j < K.ins.length
    ·have HLJ := Lib.hid hlj
     have lgB := (Array.getElem?_eq_some_iff.1 GB.out).1
     go_wp2_with fail
     refine (EI'.out j wr EWW.out hlj).mono ?_
     rintro e w5 ⟨rfl, hb5⟩
     have WB := Lib.hid (WB.out.trans (hb5.mono WB.out.size))
     have GB := Lib.hid ((hb5.block _ lgB).trans GB.out)
     have OL : Hid (OwnC _ (wo.heap.size + 1) (.slice ae Lj.length ce) Lj) := own_below OL.out hb5
     have H0q := Lib.hid ((hb5.block _ l0).trans H0q.out)
     have EWW := Lib.hid (EWW.out.trans (Ext.below hb5))
     have lgB := (Array.getElem?_eq_some_iff.1 GB.out).1
     clear hb5 y0 y1 y2 y3 y4 y5 l0 c0
     obtain ⟨y0, y1, y2, y3, y4, y5, l0⟩ := cl6 H0q.out
     have c0 := EWW.out _ _ HC0.out
     cases hI : iF j
     ·have HI := Lib.hid hI
      clear hI
      go_wp2_with fail
      refine (ES'.out j w5 EWW.out hlj).mono ?_
      rintro e w6 ⟨rfl, hb5⟩
      have WB := Lib.hid (WB.out.trans (hb5.mono WB.out.size))
      have GB := Lib.hid ((hb5.block _ lgB).trans GB.out)
      have OL : Hid (OwnC _ (wo.heap.size + 1) (.slice ae Lj.length ce) Lj) := own_below OL.out hb5
      have H0q := Lib.hid ((hb5.block _ l0).trans H0q.out)
      have EWW := Lib.hid (EWW.out.trans (Ext.below hb5))
      have lgB := (Array.getElem?_eq_some_iff.1 GB.out).1
      clear hb5 y0 y1 y2 y3 y4 y5 l0 c0
      obtain ⟨y0, y1, y2, y3, y4, y5, l0⟩ := cl6 H0q.out
      have c0 := EWW.out _ _ HC0.out
      cases hS : sF j
      ·have HKY := Lib.hid (hKY.out j HI.out hS)
       clear hS
       go_wp2_with fail
       obtain ⟨bi, oi, vx, AA, hbw, hva, d0, d1, d2, d3, d4, d5, d6, d7, d8, d9, d10⟩ := (RdIns.at HVI.out).2 j hlj
       subst AA
       have HVA := Lib.hid (HGO.out.arg hlj d9)
       obtain ⟨sa, sc, rfl, -⟩ := hva
       obtain ⟨W6, hW6⟩ : ∃ W6, W6 = w6.drew := ⟨_, rfl⟩
       have hb5 : Below w6.heap.size w6 W6 := by rw [hW6]; exact (Below.refl _ _).drew
       refine wp_region_game (fun b => b ≤ wo.heap.size) (by kernel_rfl) ?_
       show wpE _ _ _ _ _ _ _ (World.drew _)
       rw [← hW6]
       clear hW6
       have WB := Lib.hid (WB.out.trans (hb5.mono WB.out.size))
       have GB := Lib.hid ((hb5.block _ lgB).trans GB.out)
       have OL : Hid (OwnC _ (wo.heap.size + 1) (.slice ae Lj.length ce) Lj) := own_below OL.out hb5
       have H0q := Lib.hid ((hb5.block _ l0).trans H0q.out)
       have EWW := Lib.hid (EWW.out.trans (Ext.below hb5))
       have lgB := (Array.getElem?_eq_some_iff.1 GB.out).1
       clear hb5 y0 y1 y2 y3 y4 y5 l0 c0
       obtain ⟨y0, y1, y2, y3, y4, y5, l0⟩ := cl6 H0q.out
       have c0 := EWW.out _ _ HC0.out
       have z0 : W6.cell? ⟨wo.heap.size, 0, none⟩ = some (.slice ae Lj.length ce) := cell_of_heap GB.out 0
       replace d0 := EWW.out _ _ d0
       replace d1 := EWW.out _ _ d1
       replace d2 := EWW.out _ _ d2
       replace d3 := EWW.out _ _ d3
       replace d4 := EWW.out _ _ d4
       replace d5 := EWW.out _ _ d5
       replace d6 := EWW.out _ _ d6
       replace d7 := EWW.out _ _ d7
       replace d8 := EWW.out _ _ d8
       replace d9 := EWW.out _ _ d9
       replace d10 := EWW.out _ _ d10
       have hwo : w.heap.size ≤ wo.heap.size := Nat.le_trans D.out.le.size D.out.below.size
       have hbo : b ≤ wo.heap.size := by omega
       have hbio : bi ≤ wo.heap.size := by omega
       generalize hY : K.ins.getD j default = y at *
       clear hY
       refine E_mob2s [0, 1, 2, 3, 4, 5, 6, 7, 8, 9, 10] _ _ _ _ (by kernel_rfl) ?_
       simp only [List.map_cons, List.map_nil, List.getElem?_toArray, List.getElem?_cons_succ, List.getElem?_cons_zero, Option.getD_some, List.size_toArray, List.length_cons, List.length_nil, Nat.reduceAdd, Nat.reduceSub]
       repeat (go_big_quiet_step (fail))
       refine wpQuiet_nil ?_
       refine E_loud1 11 _ rfl (by kernel_rfl) ?_
       simp only [List.getElem_toArray, List.getElem_cons_succ, List.getElem_cons_zero]
       go_wp2_with fail
       refine ⟨keep_belU (below_alloc _ _) (fun b hb => by have := lgB; omega), ?_⟩
       refine E_loud1 12 _ rfl (by kernel_rfl) ?_
       simp only [List.getElem_toArray, List.getElem_cons_succ, List.getElem_cons_zero]
       have HCX : Hid (∀ jj u, (inCells (y, .slice sa y.args.length sc))[jj]? = some u → (W6.alloc (.cells #[.int .i64 y.op, .int .i64 y.d, .int .i64 y.a, .int .i64 y.b, .int .i64 y.fn, .int .i64 y.obj, .int .i64 y.off, .int .i64 y.size, .int .u32 y.num, .slice sa y.args.length sc, .bool y.log] 45)).cell? ⟨W6.heap.size, jj, none⟩ = some u) := cell_newX W6 (inCells (y, .slice sa y.args.length sc)) 45 _ rfl
       have OLA : Hid ((W6.alloc (.cells #[.int .i64 y.op, .int .i64 y.d, .int .i64 y.a, .int .i64 y.b, .int .i64 y.fn, .int .i64 y.obj, .int .i64 y.off, .int .i64 y.size, .int .u32 y.num, .slice sa y.args.length sc, .bool y.log] 45)).ownsRow (wo.heap.size + 1) 45 11 (.slice ae Lj.length ce) Lj.length (Lj.flatMap inCells)) := World.ownsRow.alloc OL.out _
       have WBA := Lib.hid (WB.out.trans ((below_alloc W6 (.cells #[.int .i64 y.op, .int .i64 y.d, .int .i64 y.a, .int .i64 y.b, .int .i64 y.fn, .int .i64 y.obj, .int .i64 y.off, .int .i64 y.size, .int .u32 y.num, .slice sa y.args.length sc, .bool y.log] 45)).mono WB.out.size))
       have GBA := Lib.hid (((below_alloc W6 (.cells #[.int .i64 y.op, .int .i64 y.d, .int .i64 y.a, .int .i64 y.b, .int .i64 y.fn, .int .i64 y.obj, .int .i64 y.off, .int .i64 y.size, .int .u32 y.num, .slice sa y.args.length sc, .bool y.log] 45)).block _ lgB).trans GB.out)
       have lgA := (Array.getElem?_eq_some_iff.1 GBA.out).1
       have hLl : Lj.length ≤ 1000 := by
        have h := hkl.out j
        rw [← FL.out, List.length_map] at h
        omega
       clear d0 d1 d2 d3 d4 d5 d6 d7 d8 d9 d10 z0
       generalize W6.alloc (.cells #[.int .i64 y.op, .int .i64 y.d, .int .i64 y.a, .int .i64 y.b, .int .i64 y.fn, .int .i64 y.obj, .int .i64 y.off, .int .i64 y.size, .int .u32 y.num, .slice sa y.args.length sc, .bool y.log] 45) = WA at *
       refine appG 38 45 info_in Tryd.underlying38 rfl (by decide) (by decide) (inCells (y, .slice sa y.args.length sc)) rfl (fun u hu => by simp only [inCells, List.mem_cons, List.not_mem_nil, or_false] at hu; rcases hu with rfl | rfl | rfl | rfl | rfl | rfl | rfl | rfl | rfl | rfl | rfl <;> rfl) OLA.out rfl rfl rfl rfl HCX.out (by omega) (by omega) ?_
       intro v7 w7 O7 G7 D7
       obtain ⟨a7, c7, rfl⟩ := row_form O7
       have hno : ∀ bb, bb ≤ wo.heap.size → some bb ≠ (Value.slice ae Lj.length ce).ownBlock := fun bb hbb e => by have := (World.ownsRow.lt OLA.out bb e.symm).1; omega
       refine ⟨fun bb oo hbb => grown_cell G7 (by omega) (fun e => hno bb hbb e.symm), ?_⟩
       have GB7 := Lib.hid ((G7.block wo.heap.size lgA (hno _ (Nat.le_refl _))).trans GBA.out)
       have WB7 : Hid (Below wo.heap.size wo w7) := grown_belG WBA.out WBA.out.size G7 (fun bb e => by have := (World.ownsRow.lt OLA.out bb e).1; omega)
       have O7' : Hid (OwnC w7 (wo.heap.size + 1) (.slice a7 (Lj ++ [(y, Value.slice sa y.args.length sc)]).length c7) (Lj ++ [(y, Value.slice sa y.args.length sc)])) := by
        show World.ownsRow _ _ _ _ _ _ _
        rw [List.flatMap_append, List.length_append]
        simpa using O7
       have FL7 : Hid ((Lj ++ [(y, Value.slice sa y.args.length sc)]).map Prod.fst = kL (j + 1)) := by
        show _ = _
        rw [HKY.out, List.map_append, FL.out]; rfl
       have AL7 : Hid (∀ y' ∈ Lj ++ [(y, Value.slice sa y.args.length sc)], RdI w00 y'.2 y'.1.args) := fun y' hy => by
        rcases List.mem_append.1 hy with hy | hy
        ·exact AL.out y' hy
        ·simp only [List.mem_cons, List.not_mem_nil, or_false] at hy
         rw [hy]; exact HVA.out
       have hLl7 : (Lj ++ [(y, Value.slice sa y.args.length sc)]).length = Lj.length + 1 := by simp
       rw [hLl7] at O7'
       clear O7 G7 D7 hno OLA HCX HKY FL AL WBA GBA hLl7
       generalize Lj ++ [(y, Value.slice sa y.args.length sc)] = Ln at *
       generalize Lj.length + 1 = nl at *
       have q0 := cell_of_heap GB7.out 0
       have qf := frozen_of_heap GB7.out 0
       simp only [List.getElem?_toArray, List.getElem?_cons_zero] at q0
       simp only [Act.put, List.setIfInBounds_toArray, List.set_cons_succ, List.set_cons_zero]
       refine E_mob2s [13] _ _ _ _ (by kernel_rfl) ?_
       simp only [List.map_cons, List.map_nil, List.getElem?_toArray, List.getElem?_cons_succ, List.getElem?_cons_zero, Option.getD_some, List.size_toArray, List.length_cons, List.length_nil, Nat.reduceAdd, Nat.reduceSub]
       repeat (go_big_quiet_step (fail))
       refine wpQuiet_nil ?_
       refine E_last 14 _ rfl (by kernel_rfl) ?_
       simp only [List.getElem_toArray, List.getElem_cons_succ, List.getElem_cons_zero]
       go_wp2_with fail
       refine E_done (by kernel_rfl) ?_ _
       have WB8 : Hid (Below wo.heap.size wo (w7.setCell ⟨wo.heap.size, 0, none⟩ (.slice a7 nl c7))) := WB7.out.setCell (p := ⟨wo.heap.size, 0, none⟩) (Nat.le_refl _) _
       have GB8 : Hid ((w7.setCell ⟨wo.heap.size, 0, none⟩ (.slice a7 nl c7)).heap[wo.heap.size]? = some (.cells #[.slice a7 nl c7, .int .i64 K.fin, .int .i64 K.a, .int .i64 K.to, .int .i64 K.els] 40)) := heap_setCell_same _ _ 0 _ _ _ GB7.out
       have O8 : Hid (OwnC (w7.setCell ⟨wo.heap.size, 0, none⟩ (.slice a7 nl c7)) (wo.heap.size + 1) (.slice a7 nl c7) Ln) := own_setCell O7'.out (Nat.lt_succ_self _) 0 _
       clear q0 qf
       generalize w7.setCell ⟨wo.heap.size, 0, none⟩ (.slice a7 nl c7) = W8 at *
       go_wp2_with fail
       go_roundw
       case rel => exact ⟨j + 1, Ln, _, rfl, hlj, WB8, GB8, O8, FL7, AL7⟩
       case measure => simp [intOf]; omega
      ·have HKN := Lib.hid (hKN2.out j hS)
       clear hS
       go_wp2_with fail
       go_roundw
       case rel => exact ⟨j + 1, Lj, _, rfl, hlj, WB, GB, OL, by rw [HKN.out]; exact FL, AL⟩
       case measure => simp [intOf]; omega
     ·have HKN := Lib.hid (hKN1.out j hI)
      clear hI
      go_wp2_with fail
      go_roundw
      case rel => exact ⟨j + 1, Lj, _, rfl, hlj, WB, GB, OL, by rw [HKN.out]; exact FL, AL⟩
      case measure => simp [intOf]; omega
    ·obtain rfl : j = K.ins.length := by omega
     have FF : Hid (Lj.map Prod.fst = withoutL K.ins (placesL p k)) := by show _ = _; rw [← HKA.out]; exact FL.out
     have DW := Lib.hid (D.out.grow WB.out)
     have lgB := (Array.getElem?_eq_some_iff.1 GB.out).1
     have GW := Lib.hid ((WB.out.block W0.heap.size (by have := D.out.sz; omega)).trans G.out)
     have hxa : Hid ((Value.slice ae Lj.length ce).ownBlock = none ∨ (Value.slice ae Lj.length ce).ownBlock ≠ (Value.slice az k cz).ownBlock) := by
      rcases e2 : (Value.slice ae Lj.length ce).ownBlock with _ | bb
      ·exact .inl rfl
      ·refine .inr fun e => ?_
       have h1 := (World.ownsRow.lt OL.out bb e2).1
       have h2 := (World.ownsRow.lt D.out.own bb e.symm).2
       omega
     have hgr : Hid (GoodR w00 wr (W0.heap.size + 1) (⟨withoutL K.ins (placesL p k), K.fin, K.a, K.to, K.els⟩, .slice ae Lj.length ce)) := ⟨Lj, own_baseD OL.out (by have := D.out.sz; omega), FF.out, AL.out⟩
     obtain ⟨q0, q1, q2, q3, q4, lq⟩ := cl5 GB.out
     obtain ⟨z0, z1, z2, z3, z4, z5, lz⟩ := cl6 GW.out
     have zf := frozen_of_heap GW.out 5
     have hone := Lib.hid (bk_ones (.slice ae Lj.length ce) ⟨_, _, _, rfl⟩ K.fin K.a K.to K.els)
     have DW2 := Lib.hid (DW.out.grow (below_alloc wr (.cells #[.slice ae Lj.length ce, .int .i64 K.fin, .int .i64 K.a, .int .i64 K.to, .int .i64 K.els] 40)))
     have hgr2 := Lib.hid (hgr.out.below (below_alloc wr (.cells #[.slice ae Lj.length ce, .int .i64 K.fin, .int .i64 K.a, .int .i64 K.to, .int .i64 K.els] 40)))
     have GW2 := Lib.hid (((below_alloc wr (.cells #[.slice ae Lj.length ce, .int .i64 K.fin, .int .i64 K.a, .int .i64 K.to, .int .i64 K.els] 40)).block _ lz).trans GW.out)
     have lz2 : W0.heap.size < (wr.alloc (.cells #[.slice ae Lj.length ce, .int .i64 K.fin, .int .i64 K.a, .int .i64 K.to, .int .i64 K.els] 40)).heap.size := (Array.getElem?_eq_some_iff.1 GW2.out).1
     have HLk : Hid (L.length = k) := by show _ = _; rw [D.out.len, dropK_len]
     have hLk0 : L.length ≤ 1000000000 := by rw [HLk.out]; omega
     have HSZ := Lib.hid DW2.out.sz
     go_wp2_with (at_builtin; refine appG 35 40 info_bk Tryd.underlying35 rfl (by decide) (by decide) [.slice ae Lj.length ce, .int .i64 K.fin, .int .i64 K.a, .int .i64 K.to, .int .i64 K.els] rfl hone.out DW2.out.own rfl rfl rfl rfl (cell_newX _ _ _ _ (by simp)) hLk0 HSZ.out ?_; intro v6 w6 O6 G6 D6; obtain ⟨a6, c6, rfl⟩ := row_form O6; have D7 := Lib.hid (DW2.out.app (x := ⟨withoutL K.ins (placesL p k), K.fin, K.a, K.to, K.els⟩) hgr2.out hxa.out O6 G6 D6); have GW3 := Lib.hid ((G6.block W0.heap.size lz2 (fun e => by have := (World.ownsRow.lt DW2.out.own _ e.symm).1; omega)).trans GW2.out); clear z0 z1 z2 z3 z4 z5 lz zf O6 G6 D6; obtain ⟨z0, z1, z2, z3, z4, z5, lz⟩ := cl6 GW3.out; have zf := frozen_of_heap GW3.out 5)
     have D8 := Lib.hid (D7.out.set 5 (.slice a6 (L.length + 1) c6))
     have G8 : Hid ((w6.setCell ⟨W0.heap.size, 5, none⟩ (.slice a6 (L.length + 1) c6)).heap[W0.heap.size]? = some (.cells #[.string nm, .bool p.void, .int .i64 p.params, .int .i64 p.regs, .slice ao p.objs.length co, .slice a6 (L.length + 1) c6] 37)) := heap_setCell_same _ _ 5 _ _ _ GW3.out
     go_roundw
     case rel => exact ⟨k + 1, L ++ [(⟨withoutL K.ins (placesL p k), K.fin, K.a, K.to, K.els⟩, .slice ae Lj.length ce)], _, by go_num, hlt, by rw [HDS.out]; exact D8, G8⟩
     case measure => simp [intOf]; omega
  ·obtain rfl : k = p.blks.length := by omega
   have H1r := Lib.hid ((D.out.below.block _ l1w).trans H1.out)
   obtain ⟨q0, q1, q2, q3, q4, q5, lg⟩ := cl6 G.out
   obtain ⟨r0, r1, r2, r3, r4, r5, l1⟩ := cl6 H1r.out
   have zf := frozen_of_heap H1r.out
   have zf0 := zf 0
   have zf1 := zf 1
   have zf2 := zf 2
   have zf3 := zf 3
   have zf4 := zf 4
   have zf5 := zf 5
   clear zf
   go_wp2_with fail
   obtain ⟨W8, hW8⟩ : ∃ W8, W8 = (((((wr.setCell ⟨w.heap.size + 1, 0, none⟩ (.string nm)).setCell ⟨w.heap.size + 1, 1, none⟩ (.bool p.void)).setCell ⟨w.heap.size + 1, 2, none⟩ (.int .i64 p.params)).setCell ⟨w.heap.size + 1, 3, none⟩ (.int .i64 p.regs)).setCell ⟨w.heap.size + 1, 4, none⟩ (.slice ao p.objs.length co)).setCell ⟨w.heap.size + 1, 5, none⟩ (.slice az p.blks.length cz) := ⟨_, rfl⟩
   rw [← hW8]
   have K8 : But (w.heap.size + 1) wr W8 := by
    rw [hW8]
    exact (((((But.setCell _ _ wr _).trans (But.setCell _ _ _ _)).trans (But.setCell _ _ _ _)).trans (But.setCell _ _ _ _)).trans (But.setCell _ _ _ _)).trans (But.setCell _ _ _ _)
   have g8 : W8.heap[w.heap.size + 1]? = some (.cells #[.string nm, .bool p.void, .int .i64 p.params, .int .i64 p.regs, .slice ao p.objs.length co, .slice az p.blks.length cz] 37) := by
    rw [hW8]
    exact heap_setCell_same _ _ 5 _ _ _ (heap_setCell_same _ _ 4 _ _ _ (heap_setCell_same _ _ 3 _ _ _ (heap_setCell_same _ _ 2 _ _ _ (heap_setCell_same _ _ 1 _ _ _ (heap_setCell_same wr _ 0 _ _ _ H1r.out)))))
   clear hW8 q0 q1 q2 q3 q4 q5 r0 r1 r2 r3 r4 r5 zf0 zf1 zf2 zf3 zf4 zf5 y0 y1 y2 y3 y4 y5
   obtain ⟨x0, x1, x2, x3, x4, x5, -⟩ := cl6 g8
   have hrd : OutB w00 W8 w.heap.size (.slice az p.blks.length cz) (dropP p).blks := by
    have hg := but_grown K8
    have hr : ∀ b, some (w.heap.size + 1) = some b → b < W0.heap.size + 1 := fun b e => by simp only [Option.some.injEq] at e; omega
    have h0 : OutB w00 wr (W0.heap.size + 1) (.slice az p.blks.length cz) (dropK p p.blks.length) := ⟨L, D.out.own, D.out.is, fun x hx => (D.out.good x hx).1⟩
    exact (h0.turn hg hr).mono (by omega)
   have B8 := (D.out.le.trans (D.out.below.mono D.out.le.size)).trans (K8.toBelow (B := w.heap.size) (by omega) (by omega))
   refine bodyPost_ret (v := .agg #[.string nm, .bool p.void, .int .i64 p.params, .int .i64 p.regs, .slice ao p.objs.length co, .slice az p.blks.length cz]) (by simp [results, Tryd.results35, go_sem, x0, x1, x2, x3, x4, x5]) rfl ?_
   exact ⟨_, rfl, hrd, B8⟩
end Go.Proofs.YtnnhobbabcfogaaDoor
