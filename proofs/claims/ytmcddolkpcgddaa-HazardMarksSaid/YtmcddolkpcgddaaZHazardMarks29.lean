/-
 The region game of module E8, more: a move that reads no memory may be taken first, whatever is written.; inline: a small procedure's block, moved.; hazard: the finder in memory: its box, its loads, the table of rows.
-/
import Derived.Test.YtmcddolkpcgddaaZHazardMarks28
import Derived.Test.YtmcddolkpcgddaaZHazardMarks14
import Derived.Test.YtmcddolkpcgddaaZHazardMarks17

set_option linter.all false
namespace Go.Proofs.Ytmcddolkpcgddaa
open Go Go.RowKit
set_option linter.unusedVariables false

section
variable {P : Program} {ops : Array Oper} {Q : Act → World → Prop} {S : Nat → Prop} {L : List Nat}
theorem H_loud2 {f : Nat} {listed : Array Bool} {a : Act} {w : World} (i j : Nat) (o o' : Oper) (hio : ops[i]? = some o) (hjo : ops[j]? = some o') (hr : (Region.ready .any ops listed == [i, j]) = true)
  (h : wpList P ops (onlyN fun a' w' => Keep S w w' ∧ wpH L S P ops Q f (listed.setIfInBounds i true) a' w') [o] a w) (h' : wpList P ops (onlyN fun a' w' => Keep S w w' ∧ wpH L S P ops Q f (listed.setIfInBounds j true) a' w') [o'] a w) : wpH L S P ops Q (f + 1) listed a w := by
 simp only [beq_iff_eq] at hr
 refine ⟨fun h0 => (by rw [hr] at h0; cases h0), fun k hk => ?_⟩
 rw [hr] at hk
 rcases List.mem_cons.1 hk with rfl | hk
 ·exact eOp_list hio (fun _ _ h => ⟨fun _ => h.1, h.2⟩) h
 ·rw [List.mem_singleton] at hk
  subst hk
  exact eOp_list hjo (fun _ _ h => ⟨fun _ => h.1, h.2⟩) h'
end
end Go.Proofs.Ytmcddolkpcgddaa

set_option linter.all false
namespace Go.Proofs.Ytmcddolkpcgddaa
open Go.ChangeShapes Go.WideShapes Go.ChangeAt Go.RowKit
set_option maxHeartbeats 4000000
set_option maxRecDepth 100000
set_option linter.unusedVariables false

/-- a row of instructions of one's own -/
structure InA (w0 : World) (B : Nat) (w : World) (v : Value) (L : List (In × Value)) : Prop where
 own : w.ownsRow B 58 11 v L.length (L.flatMap inCells)
 args : ∀ x ∈ L, RdI w0 x.2 x.1.args
section
variable {w0 w w' : World} {B : Nat} {v v' : Value} {L : List (In × Value)}
theorem InA.below (h : InA w0 B w v L) (hb : Below w.heap.size w w') : InA w0 B w' v L := ⟨own_below h.own hb, h.args⟩
theorem InA.app (h : InA w0 B w v L) {y : In × Value} (hy : RdI w0 y.2 y.1.args) (o : w'.ownsRow B 58 11 v' (L.length + 1) (L.flatMap inCells ++ inCells y)) : InA w0 B w' v' (L ++ [y]) :=
 ⟨by rw [List.length_append, List.length_singleton, List.flatMap_append]; simpa using o, fun x hx => by
   rcases List.mem_append.1 hx with hx | hx
   ·exact h.args x hx
   ·rw [List.mem_singleton.1 hx]; exact hy⟩
theorem InA.nil (w0 w : World) (B : Nat) : InA w0 B w (.slice none 0 0) [] := ⟨World.ownsRow_nil _ _ _ _, fun x hx => by cases hx⟩
theorem InA.rd (h : InA w0 B w v L) (he : Ext w0 w) : RdIns w v (L.map Prod.fst) := OwnIn.rd (B := B) ⟨h.own, fun x hx => (h.args x hx).ext he⟩
theorem InA.form (h : InA w0 B w v L) : ∃ a c, v = .slice a L.length c := by
 obtain ⟨-, ⟨rfl, h3⟩ | ⟨g, cap, cur, rfl, -⟩⟩ := h.own
 ·exact ⟨none, 0, by rw [h3]⟩
 ·exact ⟨_, _, rfl⟩
theorem InA.at (h : InA w0 B w v L) {k : Nat} (hk : k < L.length) : ∃ g c, v = .slice (some ⟨g, 0, none⟩) L.length c ∧ B ≤ g ∧ L.length ≤ c ∧ c ≤ 2 ^ 63 - 1 ∧ (∃ cur, w.heap[g]? = some (.cells cur 58 (0, 0))) ∧
  w.cell? ⟨g, k * 11 + 1, none⟩ = some (.int .i64 (L.getD k default).1.d) ∧ w.cell? ⟨g, k * 11 + 2, none⟩ = some (.int .i64 (L.getD k default).1.a) ∧ w.cell? ⟨g, k * 11 + 3, none⟩ = some (.int .i64 (L.getD k default).1.b) := by
 have h' := h.own
 have key : ∀ {g c}, v = .slice (some ⟨g, 0, none⟩) L.length c → ∀ j u, (inCells (L.getD k default))[j]? = some u → j < 11 → w.cell? ⟨g, k * 11 + j, none⟩ = some u := fun {g c} e j u hu hj => by
  have hlt : k * 11 + j < L.length * 11 := by omega
  rw [e] at h'
  have := World.ownsRow.cellAt h' (k * 11 + j) hlt
  rw [this, flat_at inCells 11 (fun _ => rfl) L k j hk hj, hu]
 obtain ⟨-, ⟨h2, h3⟩ | ⟨g, cap, cur, e, hb, hg, h4, h5, -⟩⟩ := h.own
 ·omega
 ·exact ⟨g, cap, e, hb, h4, h5, ⟨cur, hg⟩, key e 1 _ rfl (by decide), key e 2 _ rfl (by decide), key e 3 _ rfl (by decide)⟩
theorem InA.put3 {g c : Nat} (h : InA w0 B w (.slice (some ⟨g, 0, none⟩) L.length c) L) {k : Nat} (hk : k < L.length) (d a b : Int) :
  InA w0 B (((w.setCell ⟨g, k * 11 + 1, none⟩ (.int .i64 d)).setCell ⟨g, k * 11 + 2, none⟩ (.int .i64 a)).setCell ⟨g, k * 11 + 3, none⟩ (.int .i64 b)) (.slice (some ⟨g, 0, none⟩) L.length c) (L.set k ({ (L.getD k default).1 with d := d, a := a, b := b }, (L.getD k default).2)) := by
 have h1 := (World.ownsRow.stored h.own (k * 11 + 1) (.int .i64 d)).1
 rw [flat_setS inCells 11 (fun _ => rfl) L k 1 (.int .i64 d) ({ (L.getD k default).1 with d := d }, (L.getD k default).2) hk (by decide) rfl] at h1
 have h2 := (World.ownsRow.stored h1 (k * 11 + 2) (.int .i64 a)).1
 rw [flat_setS inCells 11 (fun _ => rfl) _ k 2 (.int .i64 a) ({ (L.getD k default).1 with d := d, a := a }, (L.getD k default).2) (by simpa using hk) (by decide) (by simp [List.getD, hk]; rfl), List.set_set] at h2
 have h3 := (World.ownsRow.stored h2 (k * 11 + 3) (.int .i64 b)).1
 rw [flat_setS inCells 11 (fun _ => rfl) _ k 3 (.int .i64 b) ({ (L.getD k default).1 with d := d, a := a, b := b }, (L.getD k default).2) (by simpa using hk) (by decide) (by simp [List.getD, hk]; rfl), List.set_set] at h3
 refine ⟨by rw [List.length_set]; exact h3, fun x hx => ?_⟩
 rcases List.mem_or_eq_of_mem_set hx with hx | rfl
 ·exact h.args x hx
 ·exact h.args (L.getD k default) (getD_in hk)
end
/-- the first so many instructions moved -/
def mapJ (f : In → In) (L : List (In × Value)) (k : Nat) : List (In × Value) := (L.take k).map (fun x => (f x.1, x.2)) ++ L.drop k
theorem mapJ_len (f : In → In) (L : List (In × Value)) (k : Nat) : (mapJ f L k).length = L.length := by unfold mapJ; rw [List.length_append, List.length_map, ← List.length_append, List.take_append_drop]
def bkO (x : Bk) (v : Value) : Obj := .cells #[v, .int .i64 x.fin, .int .i64 x.a, .int .i64 x.to, .int .i64 x.els] 51
/-- the block in its box while its instructions are moved -/
structure MvS (w0 w : World) (x : Bk) (f : In → In) (L : List (In × Value)) (k : Nat) (v : Value) (wr : World) : Prop where
 bx : wr.heap[w.heap.size]? = some (bkO x v)
 br : wr.heap[w.heap.size + 1]? = some (bkO ⟨[], 0, 0, 0, 0⟩ (.slice none 0 0))
 row : InA w0 (w.heap.size + 2) wr v (mapJ f L k)
 be : Below w.heap.size w wr
/-- the block in its box while its instructions are moved; the row's first so many are, and one half so -/
structure MvR (w0 w : World) (x : Bk) (M : List (In × Value)) (v : Value) (wr : World) : Prop where
 bx : wr.heap[w.heap.size]? = some (bkO x v)
 br : wr.heap[w.heap.size + 1]? = some (bkO ⟨[], 0, 0, 0, 0⟩ (.slice none 0 0))
 row : InA w0 (w.heap.size + 2) wr v M
 be : Below w.heap.size w wr
theorem MvR.put {w0 w wr : World} {x : Bk} {M : List (In × Value)} {k gi c : Nat} {y : In} {vy : Value} (h : MvR w0 w x M (.slice (some ⟨gi, 0, none⟩) M.length c) wr) (hk : k < M.length) (hy : M.getD k default = (y, vy)) (d a b : Int) :
  MvR w0 w x (M.set k ({ y with d := d, a := a, b := b }, vy)) (.slice (some ⟨gi, 0, none⟩) M.length c) (((wr.setCell ⟨gi, k * 11 + 1, none⟩ (.int .i64 d)).setCell ⟨gi, k * 11 + 2, none⟩ (.int .i64 a)).setCell ⟨gi, k * 11 + 3, none⟩ (.int .i64 b)) := by
 have hg : w.heap.size + 2 ≤ gi := (own_lt h.row.own rfl).1
 have h3 := h.row.put3 hk d a b
 rw [hy] at h3
 have o : ∀ n, n < w.heap.size + 2 → (((wr.setCell ⟨gi, k * 11 + 1, none⟩ (.int .i64 d)).setCell ⟨gi, k * 11 + 2, none⟩ (.int .i64 a)).setCell ⟨gi, k * 11 + 3, none⟩ (.int .i64 b)).heap[n]? = wr.heap[n]? := fun n hn => by
  have hne : ∀ j, n ≠ (⟨gi, j, none⟩ : Addr).block := fun j => by show n ≠ gi; omega
  rw [heap_setCell_other _ _ n _ (hne _), heap_setCell_other _ _ n _ (hne _), heap_setCell_other _ _ n _ (hne _)]
 exact ⟨(o _ (by omega)).trans h.bx, (o _ (by omega)).trans h.br, h3, ((h.be.setCell (p := ⟨gi, k * 11 + 1, none⟩) (by show _ ≤ gi; omega) _).setCell (p := ⟨gi, k * 11 + 2, none⟩) (by show _ ≤ gi; omega) _).setCell (p := ⟨gi, k * 11 + 3, none⟩) (by show _ ≤ gi; omega) _⟩
theorem MvS.r {w0 w wr : World} {x : Bk} {f : In → In} {L : List (In × Value)} {k : Nat} {v : Value} (h : MvS w0 w x f L k v wr) : MvR w0 w x (mapJ f L k) v wr := ⟨h.bx, h.br, h.row, h.be⟩
theorem MvS.put {w0 w : World} {x : Bk} {f : In → In} {L : List (In × Value)} {k gi c : Nat} {wr : World} {y : In} {vy : Value} (h : MvS w0 w x f L k (.slice (some ⟨gi, 0, none⟩) L.length c) wr) (hk : k < L.length) (hy : (mapJ f L k).getD k default = (y, vy)) (d a b : Int)
  (he : mapJ f L (k + 1) = (mapJ f L k).set k ({ y with d := d, a := a, b := b }, vy)) : MvS w0 w x f L (k + 1) (.slice (some ⟨gi, 0, none⟩) L.length c) (((wr.setCell ⟨gi, k * 11 + 1, none⟩ (.int .i64 d)).setCell ⟨gi, k * 11 + 2, none⟩ (.int .i64 a)).setCell ⟨gi, k * 11 + 3, none⟩ (.int .i64 b)) := by
 have hr := h.r
 have e := mapJ_len f L k
 rw [← e] at hr
 have h2 := hr.put (by rw [e]; exact hk) hy d a b
 rw [e, ← he] at h2
 exact ⟨h2.bx, h2.br, h2.row, h2.be⟩
theorem MvS.drew {w0 w wr : World} {x : Bk} {f : In → In} {L : List (In × Value)} {k : Nat} {v : Value} (h : MvS w0 w x f L k v wr) : MvS w0 w x f L k v wr.drew := ⟨h.bx, h.br, h.row.below (Below.refl _ _).drew, h.be.drew⟩
/-- all stays but two blocks -/
structure Bt2 (n : Nat) (w w' : World) : Prop where
 os : w'.os = w.os
 tape : w'.tape = w.tape
 output : w'.output = w.output
 size : w.heap.size ≤ w'.heap.size
 block : ∀ k, k < w.heap.size → k ≠ n → k ≠ n + 1 → w'.heap[k]? = w.heap[k]?
theorem Bt2.refl (n : Nat) (w : World) : Bt2 n w w := ⟨rfl, rfl, rfl, Nat.le_refl _, fun _ _ _ _ => rfl⟩
theorem Bt2.set {n : Nat} {w w' : World} (h : Bt2 n w w') {b : Nat} (hb : b = n ∨ b = n + 1) (j : Nat) (u : Value) : Bt2 n w (w'.setCell ⟨b, j, none⟩ u) :=
 ⟨h.os, h.tape, h.output, by simpa using h.size, fun k hk h1 h2 => (heap_setCell_other w' ⟨b, j, none⟩ k u (by show k ≠ b; omega)).trans (h.block k hk h1 h2)⟩
theorem Bt2.fin {n : Nat} {w0 w wr w' : World} {v : Value} {M : List (In × Value)} (h : Bt2 n wr w') (hn : n = w.heap.size) (hr : InA w0 (n + 2) wr v M) (hb : Below n w wr) : InA w0 n w' v M ∧ Below n w w' := by
 refine ⟨⟨?_, hr.args⟩, ⟨h.os.trans hb.os, h.tape.trans hb.tape, h.output.trans hb.output, Nat.le_trans hb.size h.size, fun k hk => (h.block k (Nat.lt_of_lt_of_le (by omega) hb.size) (by omega) (by omega)).trans (hb.block k hk)⟩⟩
 obtain ⟨h1, h2⟩ := hr.own
 refine ⟨h1, ?_⟩
 rcases h2 with h2 | ⟨g, cap, cur, e, h3, h4, h5⟩
 ·exact .inl h2
 ·exact .inr ⟨g, cap, cur, e, by omega, (h.block g (Array.getElem?_eq_some_iff.1 h4).1 (by omega) (by omega)).trans h4, h5⟩
end Go.Proofs.Ytmcddolkpcgddaa

set_option linter.all false
namespace Go.Proofs.Ytmcddolkpcgddaa
open Go.ChangeShapes Go.WideShapes Go.ChangeAt Go.RowKit
set_option maxHeartbeats 4000000
set_option maxRecDepth 100000
set_option linter.unusedVariables false

/-- an own row's block is of its elements' type -/
theorem own_ty {w : World} {B s n b : Nat} {e : TypeId} {v : Value} {xs : List Value} (h : w.ownsRow B e s v n xs) (hb : v.ownBlock = some b) : ∃ cur, w.heap[b]? = some (.cells cur e) := by
 obtain ⟨-, ⟨rfl, -⟩ | ⟨g, cap, cur, rfl, -, hg, -⟩⟩ := h
 ·cases hb
 ·simp only [Value.ownBlock, Option.some.injEq] at hb
  subst hb
  exact ⟨_, hg⟩
theorem own_apart {w : World} {B B' s s' n n' : Nat} {e e' : TypeId} {v v' : Value} {xs xs' : List Value} (h : w.ownsRow B e s v n xs) (h' : w.ownsRow B' e' s' v' n' xs') (he : e ≠ e') : v.ownBlock = none ∨ v.ownBlock ≠ v'.ownBlock := by
 by_cases hv : v.ownBlock = none
 ·exact .inl hv
 ·right
  intro e2
  obtain ⟨b, hb⟩ := Option.ne_none_iff_exists'.1 hv
  obtain ⟨c1, h1⟩ := own_ty h hb
  obtain ⟨c2, h2⟩ := own_ty h' (e2 ▸ hb)
  rw [h1] at h2
  simp only [Option.some.injEq, Obj.cells.injEq] at h2
  exact he h2.2.1
theorem own_ne_block {w : World} {B s n b : Nat} {e : TypeId} {v : Value} {xs : List Value} (h : w.ownsRow B e s v n xs) (hb : b < B) : v.ownBlock ≠ some b := fun e2 => by have := (own_lt h e2).1; omega
def rowVU (L : Nat) (x : Nat × Nat) : Value := .slice (some ⟨x.1, 0, none⟩) L x.2
/-- a table of rows -/
structure TbV (B : Nat) (w : World) (vg : Value) (rs : List (Nat × Nat)) (X : List Nat) (L : Nat) : Prop where
 len : rs.length = X.length
 tab : w.ownsRow B 87 1 vg X.length (rs.map (rowVU L))
 row : ∀ i, i < X.length → RowU w (rs.getD i (0, 0)).1 (rs.getD i (0, 0)).2 L (X.getD i 0) ∧ B ≤ (rs.getD i (0, 0)).1
 inj : ∀ i j, i < X.length → j < X.length → i ≠ j → (rs.getD i (0, 0)).1 ≠ (rs.getD j (0, 0)).1
section
variable {B L : Nat} {w w' : World} {vg v' : Value} {rs : List (Nat × Nat)} {X : List Nat}
theorem TbV.nil (w : World) (B L : Nat) : TbV B w (.slice none 0 0) [] [] L := ⟨rfl, World.ownsRow_nil _ _ _ _, fun i hi => absurd hi (Nat.not_lt_zero _), fun i j hi => absurd hi (Nat.not_lt_zero _)⟩
theorem TbV.below (h : TbV B w vg rs X L) (hb : Below w.heap.size w w') : TbV B w' vg rs X L :=
 ⟨h.len, own_below h.tab hb, fun i hi => ⟨(h.row i hi).1.below hb, (h.row i hi).2⟩, h.inj⟩
/-- a block that is none of the table's turns -/
theorem TbV.kept (h : TbV B w vg rs X L) {row : Option Nat} (hg : w.grownBy w' row) (h1 : vg.ownBlock = none ∨ vg.ownBlock ≠ row) (h2 : ∀ i, i < X.length → row ≠ some (rs.getD i (0, 0)).1) : TbV B w' vg rs X L :=
 ⟨h.len, World.ownsRow.kept h.tab hg h1, fun i hi => ⟨World.ownsRow.kept (h.row i hi).1 hg (.inr fun e => h2 i hi e.symm), (h.row i hi).2⟩, h.inj⟩
theorem TbV.old (h : TbV B w vg rs X L) {i : Nat} (hi : i < X.length) : (rs.getD i (0, 0)).1 < w.heap.size := (h.row i hi).1.lt
/-- .. a block of another type -/
theorem TbV.keptT (h : TbV B w vg rs X L) {b : Nat} {cs : Array Value} {ty : TypeId} {fr : Nat × Nat} (hg : w.grownBy w' (some b)) (hb : w.heap[b]? = some (.cells cs ty fr)) (h1 : ty ≠ 87) (h2 : ty ≠ 134) : TbV B w' vg rs X L := by
 refine h.kept hg ?_ fun i hi e => ?_
 ·right
  intro e
  obtain ⟨cur, hc⟩ := own_ty h.tab e
  rw [hb] at hc
  simp only [Option.some.injEq, Obj.cells.injEq] at hc
  exact h1 hc.2.1
 ·obtain ⟨cur, hc⟩ := (h.row i hi).1.heap
  rw [← Option.some.inj e, hb] at hc
  simp only [Option.some.injEq, Obj.cells.injEq] at hc
  exact h2 hc.2.1
theorem TbV.turn (h : TbV B w vg rs X L) {i : Nat} (hi : i < X.length) {R : Nat} (hr : RowU w' (rs.getD i (0, 0)).1 (rs.getD i (0, 0)).2 L R) (hb : But (rs.getD i (0, 0)).1 w w') : TbV B w' vg rs (X.set i R) L := by
 refine ⟨by simpa using h.len, ?_, fun j hj => ?_, fun j k hj hk => h.inj j k (by simpa using hj) (by simpa using hk)⟩
 ·rw [List.length_set]
  refine World.ownsRow.kept h.tab (but_grownK hb) (.inr fun e => ?_)
  obtain ⟨cur, hc⟩ := own_ty h.tab e
  obtain ⟨cur2, hc2⟩ := (h.row i hi).1.heap
  rw [hc] at hc2
  simp only [Option.some.injEq, Obj.cells.injEq] at hc2
  exact absurd hc2.2.1 (by decide)
 ·rw [List.length_set] at hj
  by_cases e : j = i
  ·subst e
   have : (X.set j R).getD j 0 = R := by simp [List.getD, hj]
   rw [this]
   exact ⟨hr, (h.row j hj).2⟩
  ·have : (X.set i R).getD j 0 = X.getD j 0 := by simp [List.getD, List.getElem?_set_ne (Ne.symm e)]
   rw [this]
   exact ⟨(h.row j hj).1.but hb (h.inj j i hj hi e), (h.row j hj).2⟩
theorem getD_snoc22 {α : Type} (l : List α) (a d : α) (i : Nat) : (l ++ [a]).getD i d = if i < l.length then l.getD i d else if i = l.length then a else d := by
 by_cases h : i < l.length
 ·rw [if_pos h]; simp [List.getD, List.getElem?_append, h]
 ·rw [if_neg h]
  by_cases e : i = l.length
  ·rw [if_pos e, e]; simp [List.getD]
  ·rw [if_neg e]
   have : (l ++ [a])[i]? = none := List.getElem?_eq_none (by simp; omega)
   rw [List.getD_eq_getElem?_getD, this]; rfl
/-- one row more -/
theorem TbV.push (h : TbV B w vg rs X L) {g c R : Nat} (hg : w.grownBy w' vg.ownBlock) (ho : w'.ownsRow B 87 1 v' (X.length + 1) (rs.map (rowVU L) ++ [rowVU L (g, c)])) (hr : RowU w g c L R) (hB : B ≤ g) (hn : ∀ i, i < X.length → (rs.getD i (0, 0)).1 ≠ g) : TbV B w' v' (rs ++ [(g, c)]) (X ++ [R]) L := by
 have hl := h.len
 have ne : ∀ {b : Nat}, (∃ cur, w.heap[b]? = some (.cells cur 134)) → vg.ownBlock ≠ some b := fun {b} hc e => by
  obtain ⟨cur, hc⟩ := hc
  obtain ⟨c2, hc2⟩ := own_ty h.tab e
  rw [hc] at hc2
  simp only [Option.some.injEq, Obj.cells.injEq] at hc2
  exact absurd hc2.2.1 (by decide)
 have key : ∀ {b c R : Nat}, RowU w b c L R → RowU w' b c L R := fun {b c R} hq => World.ownsRow.kept hq hg (.inr fun e => ne hq.heap e.symm)
 refine ⟨by simp [hl], by rw [List.length_append, List.map_append]; exact ho, fun i hi => ?_, fun i j hi hj hij => ?_⟩
 ·rw [getD_snoc22, getD_snoc22, hl]
  rw [List.length_append, List.length_singleton] at hi
  by_cases e : i < X.length
  ·rw [if_pos e, if_pos e]; exact ⟨key (h.row i e).1, (h.row i e).2⟩
  ·rw [if_neg e, if_neg e, if_pos (by omega), if_pos (by omega)]; exact ⟨key hr, hB⟩
 ·rw [getD_snoc22, getD_snoc22, hl]
  rw [List.length_append, List.length_singleton] at hi hj
  by_cases e1 : i < X.length
  ·rw [if_pos e1]
   by_cases e2 : j < X.length
   ·rw [if_pos e2]; exact h.inj i j e1 e2 hij
   ·rw [if_neg e2, if_pos (by omega)]; exact hn i e1
  ·rw [if_neg e1, if_pos (by omega)]
   by_cases e2 : j < X.length
   ·rw [if_pos e2]; exact Ne.symm (hn j e2)
   ·omega
theorem TbV.form (h : TbV B w vg rs X L) (h0 : 0 < X.length) : ∃ gt ct, vg = .slice (some ⟨gt, 0, none⟩) X.length ct ∧ B ≤ gt ∧ X.length ≤ ct ∧ ct ≤ maxLen ∧ gt < w.heap.size ∧ (∃ cur, w.heap[gt]? = some (.cells cur 87)) ∧ ∀ i, i < X.length → w.cell? ⟨gt, i, none⟩ = some (rowVU L (rs.getD i (0, 0))) := by
 have h' := h.tab
 obtain ⟨-, ⟨-, h2⟩ | ⟨g, cap, cur, rfl, hB, hg, hn, hc, -⟩⟩ := h'
 ·omega
 ·refine ⟨g, cap, rfl, hB, hn, hc, (Array.getElem?_eq_some_iff.1 hg).1, ⟨_, hg⟩, fun i hi => ?_⟩
  have hl := h.len
  rw [World.ownsRow.cellAt h.tab i (by omega)]
  simp [List.getD, List.getElem?_map, List.getElem?_eq_getElem (show i < rs.length by omega)]
end
def fdO (nm : ByteArray) (p : Pr) (vo vb : Value) (bv : Nat) (vs vl vf vg : Value) : Obj := .cells #[.string nm, .bool p.void, .int .i64 p.params, .int .i64 p.regs, vo, vb, .pointer (some ⟨bv, 0, none⟩), vs, vl, vf, vg] 84
/-- a finder -/
structure FdM (w0 : World) (bf : Nat) (nm : ByteArray) (p : Pr) (vo vb : Value) (bv : Nat) (vs vl vf vg : Value) (LL : List In) (F : List Int) (rs : List (Nat × Nat)) (X : List Nat) (L : Nat) (W : World) : Prop where
 box : W.heap[bf]? = some (fdO nm p vo vb bv vs vl vf vg)
 lo : ∃ K, InA w0 (bf + 1) W vl K ∧ K.map Prod.fst = LL
 fr : OwnI W (bf + 1) vf F
 tb : TbV (bf + 1) W vg rs X L
 be : Below w0.heap.size w0 W
 hB : w0.heap.size ≤ bf
section
variable {w0 W W' : World} {bf bv L : Nat} {nm : ByteArray} {p : Pr} {vo vb vs vl vf vg v' : Value} {LL : List In} {F : List Int} {rs : List (Nat × Nat)} {X : List Nat}
theorem FdM.lt (h : FdM w0 bf nm p vo vb bv vs vl vf vg LL F rs X L W) : bf < W.heap.size := (Array.getElem?_eq_some_iff.1 h.box).1
theorem FdM.below (h : FdM w0 bf nm p vo vb bv vs vl vf vg LL F rs X L W) (hb : Below W.heap.size W W') : FdM w0 bf nm p vo vb bv vs vl vf vg LL F rs X L W' := by
 obtain ⟨K, hK, hL⟩ := h.lo
 exact ⟨(hb.block _ h.lt).trans h.box, ⟨K, hK.below hb, hL⟩, OwnI.below h.fr hb, h.tb.below hb, h.be.trans (hb.mono h.be.size), h.hB⟩
theorem fd_set {W : World} {bf bv : Nat} {nm : ByteArray} {p : Pr} {vo vb vs vl vf vg : Value} (hbx : W.heap[bf]? = some (fdO nm p vo vb bv vs vl vf vg)) (j : Nat) (u : Value) :
  (W.setCell ⟨bf, j, none⟩ u).heap[bf]? = some (.cells ((#[Value.string nm, .bool p.void, .int .i64 p.params, .int .i64 p.regs, vo, vb, .pointer (some ⟨bv, 0, none⟩), vs, vl, vf, vg] : Array Value).setIfInBounds j u) 84) := heap_setCell_same W bf j _ _ u hbx
/-- where a load, a number of loads, a row has come to its list's end, and the list is stored -/
theorem FdM.from (h : FdM w0 bf nm p vo vb bv vs vl vf vg LL F rs X L W) {x : Int} (hg : W.grownBy W' vf.ownBlock) (ho : W'.ownsRow (bf + 1) 3 1 v' (F.length + 1) (F.map (Value.int .i64) ++ [.int .i64 x])) : FdM w0 bf nm p vo vb bv vs vl v' vg LL (F ++ [x]) rs X L (W'.setCell ⟨bf, 9, none⟩ v') := by
 obtain ⟨K, hK, hL⟩ := h.lo
 have hbx : W'.heap[bf]? = _ := (hg.block _ h.lt fun e => own_ne_block h.fr (Nat.lt_succ_self _) e.symm).trans h.box
 have hbt : But bf W' (W'.setCell ⟨bf, 9, none⟩ v') := But.setCell _ _ _ _
 have hf : W'.ownsRow (bf + 1) 3 1 v' (F ++ [x]).length ((F ++ [x]).map (Value.int .i64)) := by rw [List.length_append, List.map_append]; exact ho
 have hk1 : W'.ownsRow (bf + 1) 58 11 vl K.length (K.flatMap inCells) := World.ownsRow.kept hK.own hg (own_apart hK.own h.fr (by decide))
 have ht : TbV (bf + 1) W' vg rs X L := h.tb.kept hg (own_apart h.tb.tab h.fr (by decide)) fun i hi e => by
  obtain ⟨c1, h1⟩ := own_ty h.fr e
  obtain ⟨c2, h2⟩ := (h.tb.row i hi).1.heap
  rw [h1] at h2
  simp only [Option.some.injEq, Obj.cells.injEq] at h2
  exact absurd h2.2.1 (by decide)
 refine ⟨fd_set hbx 9 v', ⟨K, ⟨World.ownsRow.kept hk1 (but_grownK hbt) (.inr (own_ne_block hk1 (Nat.lt_succ_self _))), hK.args⟩, hL⟩, World.ownsRow.kept hf (but_grownK hbt) (.inr (own_ne_block hf (Nat.lt_succ_self _))), ht.keptT (but_grownK hbt) hbx (by decide) (by decide), ?_, h.hB⟩
 exact (h.be.grown hg h.be.size fun b e => by have := (own_lt h.fr e).1; have := h.hB; omega).setCell h.hB _
theorem FdM.load (h : FdM w0 bf nm p vo vb bv vs vl vf vg LL F rs X L W) {K : List (In × Value)} (hK : InA w0 (bf + 1) W vl K) (hL : K.map Prod.fst = LL) {y : In × Value} (hy : RdI w0 y.2 y.1.args) (hg : W.grownBy W' vl.ownBlock) (ho : W'.ownsRow (bf + 1) 58 11 v' (K.length + 1) (K.flatMap inCells ++ inCells y)) : FdM w0 bf nm p vo vb bv vs v' vf vg (LL ++ [y.1]) F rs X L (W'.setCell ⟨bf, 8, none⟩ v') := by
 have hbx : W'.heap[bf]? = _ := (hg.block _ h.lt fun e => own_ne_block hK.own (Nat.lt_succ_self _) e.symm).trans h.box
 have hbt : But bf W' (W'.setCell ⟨bf, 8, none⟩ v') := But.setCell _ _ _ _
 have hk1 := hK.app hy ho
 have hf : W'.ownsRow (bf + 1) 3 1 vf F.length (F.map (Value.int .i64)) := World.ownsRow.kept h.fr hg (own_apart h.fr hK.own (by decide))
 have ht : TbV (bf + 1) W' vg rs X L := h.tb.kept hg (own_apart h.tb.tab hK.own (by decide)) fun i hi e => by
  obtain ⟨c1, h1⟩ := own_ty hK.own e
  obtain ⟨c2, h2⟩ := (h.tb.row i hi).1.heap
  rw [h1] at h2
  simp only [Option.some.injEq, Obj.cells.injEq] at h2
  exact absurd h2.2.1 (by decide)
 refine ⟨fd_set hbx 8 v', ⟨_, ⟨World.ownsRow.kept hk1.own (but_grownK hbt) (.inr (own_ne_block hk1.own (Nat.lt_succ_self _))), hk1.args⟩, by rw [List.map_append, hL]; rfl⟩, World.ownsRow.kept hf (but_grownK hbt) (.inr (own_ne_block hf (Nat.lt_succ_self _))), ht.keptT (but_grownK hbt) hbx (by decide) (by decide), ?_, h.hB⟩
 exact (h.be.grown hg h.be.size fun b e => by have := (own_lt hK.own e).1; have := h.hB; omega).setCell h.hB _
theorem FdM.row (h : FdM w0 bf nm p vo vb bv vs vl vf vg LL F rs X L W) {g c R : Nat} (hr : RowU W g c L R) (hgB : bf + 1 ≤ g) (hn : ∀ i, i < X.length → (rs.getD i (0, 0)).1 ≠ g) (hg : W.grownBy W' vg.ownBlock) (ho : W'.ownsRow (bf + 1) 87 1 v' (X.length + 1) (rs.map (rowVU L) ++ [rowVU L (g, c)])) : FdM w0 bf nm p vo vb bv vs vl vf v' LL F (rs ++ [(g, c)]) (X ++ [R]) L (W'.setCell ⟨bf, 10, none⟩ v') := by
 obtain ⟨K, hK, hL⟩ := h.lo
 have hbx : W'.heap[bf]? = _ := (hg.block _ h.lt fun e => own_ne_block h.tb.tab (Nat.lt_succ_self _) e.symm).trans h.box
 have hbt : But bf W' (W'.setCell ⟨bf, 10, none⟩ v') := But.setCell _ _ _ _
 have ht := h.tb.push hg ho hr hgB hn
 have hf : W'.ownsRow (bf + 1) 3 1 vf F.length (F.map (Value.int .i64)) := World.ownsRow.kept h.fr hg (own_apart h.fr h.tb.tab (by decide))
 have hk1 : W'.ownsRow (bf + 1) 58 11 vl K.length (K.flatMap inCells) := World.ownsRow.kept hK.own hg (own_apart hK.own h.tb.tab (by decide))
 refine ⟨fd_set hbx 10 v', ⟨K, ⟨World.ownsRow.kept hk1 (but_grownK hbt) (.inr (own_ne_block hk1 (Nat.lt_succ_self _))), hK.args⟩, hL⟩, World.ownsRow.kept hf (but_grownK hbt) (.inr (own_ne_block hf (Nat.lt_succ_self _))), ht.keptT (but_grownK hbt) hbx (by decide) (by decide), ?_, h.hB⟩
 exact (h.be.grown hg h.be.size fun b e => by have := (own_lt h.tb.tab e).1; have := h.hB; omega).setCell h.hB _
/-- a row of the table turns -/
theorem FdM.turn (h : FdM w0 bf nm p vo vb bv vs vl vf vg LL F rs X L W) {i : Nat} (hi : i < X.length) {R : Nat} (hr : RowU W' (rs.getD i (0, 0)).1 (rs.getD i (0, 0)).2 L R) (hb : But (rs.getD i (0, 0)).1 W W') : FdM w0 bf nm p vo vb bv vs vl vf vg LL F rs (X.set i R) L W' := by
 obtain ⟨K, hK, hL⟩ := h.lo
 obtain ⟨cur, hc⟩ := (h.tb.row i hi).1.heap
 have hge := (h.tb.row i hi).2
 have ne : ∀ {s n : Nat} {e : TypeId} {v : Value} {xs : List Value}, W.ownsRow (bf + 1) e s v n xs → e ≠ 134 → v.ownBlock ≠ some (rs.getD i (0, 0)).1 := fun {s n e v xs} ho he e2 => by
  obtain ⟨c2, h2⟩ := own_ty ho e2
  rw [hc] at h2
  simp only [Option.some.injEq, Obj.cells.injEq] at h2
  exact he h2.2.1.symm
 exact ⟨(hb.block _ h.lt (by omega)).trans h.box, ⟨K, ⟨World.ownsRow.kept hK.own (but_grownK hb) (.inr (ne hK.own (by decide))), hK.args⟩, hL⟩, World.ownsRow.kept h.fr (but_grownK hb) (.inr (ne h.fr (by decide))), h.tb.turn hi hr hb, h.be.trans (hb.toBelow (by have := h.hB; omega) h.be.size), h.hB⟩
/-- a row that is none of the table's turns -/
theorem FdM.other (h : FdM w0 bf nm p vo vb bv vs vl vf vg LL F rs X L W) {g c R : Nat} (hr : RowU W g c L R) (hgB : bf + 1 ≤ g) (hn : ∀ i, i < X.length → (rs.getD i (0, 0)).1 ≠ g) (hb : But g W W') : FdM w0 bf nm p vo vb bv vs vl vf vg LL F rs X L W' := by
 obtain ⟨K, hK, hL⟩ := h.lo
 obtain ⟨cur, hc⟩ := hr.heap
 have ne : ∀ {s n : Nat} {e : TypeId} {v : Value} {xs : List Value}, W.ownsRow (bf + 1) e s v n xs → e ≠ 134 → v.ownBlock ≠ some g := fun {s n e v xs} ho he e2 => by
  obtain ⟨c2, h2⟩ := own_ty ho e2
  rw [hc] at h2
  simp only [Option.some.injEq, Obj.cells.injEq] at h2
  exact he h2.2.1.symm
 exact ⟨(hb.block _ h.lt (by omega)).trans h.box, ⟨K, ⟨World.ownsRow.kept hK.own (but_grownK hb) (.inr (ne hK.own (by decide))), hK.args⟩, hL⟩, World.ownsRow.kept h.fr (but_grownK hb) (.inr (ne h.fr (by decide))), h.tb.kept (but_grownK hb) (.inr (ne h.tb.tab (by decide))) fun i hi e => hn i hi (Option.some.inj e).symm, h.be.trans (hb.toBelow (by have := h.hB; omega) h.be.size), h.hB⟩
end
end Go.Proofs.Ytmcddolkpcgddaa
