/-
 inline: a small procedure's block, moved.
-/
import Derived.Test.YtchoiankeohonaaGreatDoorZInlineAll35
import Derived.Test.YtchoiankeohonaaGreatDoorZInlineAll36
import Derived.Test.YtchoiankeohonaaGreatDoorZInlineAll07
set_option linter.all false
namespace Go.Proofs.YtchoiankeohonaaGreatDoor
open Go.ChangeShapes Go.WideShapes Go.ChangeAt Go.RowKit
set_option maxHeartbeats 4000000
set_option maxRecDepth 100000
set_option linter.unusedVariables false

/-- a row of instructions of one's own -/
structure InA (w0 : World) (B : Nat) (w : World) (v : Value) (L : List (In × Value)) : Prop where
 own : w.ownsRow B 48 11 v L.length (L.flatMap inCells)
 args : ∀ x ∈ L, RdI w0 x.2 x.1.args
section
variable {w0 w w' : World} {B : Nat} {v v' : Value} {L : List (In × Value)}
theorem InA.below (h : InA w0 B w v L) (hb : Below w.heap.size w w') : InA w0 B w' v L := ⟨own_below h.own hb, h.args⟩
theorem InA.app (h : InA w0 B w v L) {y : In × Value} (hy : RdI w0 y.2 y.1.args) (o : w'.ownsRow B 48 11 v' (L.length + 1) (L.flatMap inCells ++ inCells y)) : InA w0 B w' v' (L ++ [y]) :=
 ⟨by rw [List.length_append, List.length_singleton, List.flatMap_append]; simpa using o, fun x hx => by
   rcases List.mem_append.1 hx with hx | hx
   ·exact h.args x hx
   ·rw [List.mem_singleton.1 hx]; exact hy⟩
theorem InA.nil (w0 w : World) (B : Nat) : InA w0 B w (.slice none 0 0) [] := ⟨World.ownsRow_nil _ _ _ _, fun x hx => by cases hx⟩
theorem InA.kr (h : InA w0 B w v L) {x : Bk} (hx : L.map Prod.fst = x.ins) : KrS w0 w (x, v) := .inr ⟨L, hx, h.args, by
 have := h.own
 obtain ⟨h1, h2⟩ := this
 refine ⟨h1, ?_⟩
 rcases h2 with h2 | ⟨g, cap, cur, e, -, h3⟩
 ·exact .inl h2
 ·exact .inr ⟨g, cap, cur, e, Nat.zero_le _, h3⟩⟩
theorem InA.form (h : InA w0 B w v L) : ∃ a c, v = .slice a L.length c := by
 obtain ⟨-, ⟨rfl, h3⟩ | ⟨g, cap, cur, rfl, -⟩⟩ := h.own
 ·exact ⟨none, 0, by rw [h3]⟩
 ·exact ⟨_, _, rfl⟩
theorem InA.at (h : InA w0 B w v L) {k : Nat} (hk : k < L.length) : ∃ g c, v = .slice (some ⟨g, 0, none⟩) L.length c ∧ B ≤ g ∧ L.length ≤ c ∧ c ≤ 2 ^ 63 - 1 ∧ (∃ cur, w.heap[g]? = some (.cells cur 48 (0, 0))) ∧
  w.cell? ⟨g, k * 11 + 1, none⟩ = some (.int .i64 (L.getD k default).1.d) ∧ w.cell? ⟨g, k * 11 + 2, none⟩ = some (.int .i64 (L.getD k default).1.a) ∧ w.cell? ⟨g, k * 11 + 3, none⟩ = some (.int .i64 (L.getD k default).1.b) := by
 have h' := h.own
 have key : ∀ {g c}, v = .slice (some ⟨g, 0, none⟩) L.length c → ∀ j u, (inCells (L.getD k default))[j]? = some u → j < 11 → w.cell? ⟨g, k * 11 + j, none⟩ = some u := fun {g c} e j u hu hj => by
  have hlt : k * 11 + j < L.length * 11 := by omega
  rw [e] at h'
  have := World.ownsRow.cellAt h' (k * 11 + j) hlt
  rw [this, flat_at inCells 11 (fun _ => rfl) L k j hk hj, hu]
 obtain ⟨-, ⟨h2, h3⟩ | ⟨g, cap, cur, e, hb, hg, h4, h5, -⟩⟩ := h.own
 ·omega
 ·exact ⟨g, cap, e, hb, h4, h5, ⟨cur, hg⟩, key e 1 _ rfl (by decide), key e 2 _ rfl (by decide), key e 3 _ rfl (by decide)⟩
theorem InA.put3 {g c : Nat} (h : InA w0 B w (.slice (some ⟨g, 0, none⟩) L.length c) L) {k : Nat} (hk : k < L.length) (d a b : Int) :
  InA w0 B (((w.setCell ⟨g, k * 11 + 1, none⟩ (.int .i64 d)).setCell ⟨g, k * 11 + 2, none⟩ (.int .i64 a)).setCell ⟨g, k * 11 + 3, none⟩ (.int .i64 b)) (.slice (some ⟨g, 0, none⟩) L.length c) (L.set k ({ (L.getD k default).1 with d := d, a := a, b := b }, (L.getD k default).2)) := by
 have h1 := (World.ownsRow.stored h.own (k * 11 + 1) (.int .i64 d)).1
 rw [flat_setS inCells 11 (fun _ => rfl) L k 1 (.int .i64 d) ({ (L.getD k default).1 with d := d }, (L.getD k default).2) hk (by decide) rfl] at h1
 have h2 := (World.ownsRow.stored h1 (k * 11 + 2) (.int .i64 a)).1
 rw [flat_setS inCells 11 (fun _ => rfl) _ k 2 (.int .i64 a) ({ (L.getD k default).1 with d := d, a := a }, (L.getD k default).2) (by simpa using hk) (by decide) (by simp [List.getD, hk]; rfl), List.set_set] at h2
 have h3 := (World.ownsRow.stored h2 (k * 11 + 3) (.int .i64 b)).1
 rw [flat_setS inCells 11 (fun _ => rfl) _ k 3 (.int .i64 b) ({ (L.getD k default).1 with d := d, a := a, b := b }, (L.getD k default).2) (by simpa using hk) (by decide) (by simp [List.getD, hk]; rfl), List.set_set] at h3
 refine ⟨by rw [List.length_set]; exact h3, fun x hx => ?_⟩
 rcases List.mem_or_eq_of_mem_set hx with hx | rfl
 ·exact h.args x hx
 ·exact h.args (L.getD k default) (getD_in hk)
end
/-- the first so many instructions moved -/
def mapJ (f : In → In) (L : List (In × Value)) (k : Nat) : List (In × Value) := (L.take k).map (fun x => (f x.1, x.2)) ++ L.drop k
theorem mapJ_len (f : In → In) (L : List (In × Value)) (k : Nat) : (mapJ f L k).length = L.length := by unfold mapJ; rw [List.length_append, List.length_map, ← List.length_append, List.take_append_drop]
theorem mapJ_at (f : In → In) (L : List (In × Value)) (k : Nat) (hk : k < L.length) : (mapJ f L k).getD k default = L.getD k default := by
 unfold mapJ
 rw [List.getD_eq_getElem?_getD, List.getElem?_append_right (by simp; omega)]
 simp [List.getD, Nat.min_eq_left (Nat.le_of_lt hk)]
theorem mapJ_succ (f : In → In) (L : List (In × Value)) (k : Nat) (hk : k < L.length) : mapJ f L (k + 1) = (mapJ f L k).set k (f (L.getD k default).1, (L.getD k default).2) := by
 unfold mapJ
 have e : k - ((L.take k).map fun x => (f x.1, x.2)).length = 0 := by simp; omega
 rw [List.set_append_right _ _ (by simp; omega), List.take_succ_eq_append_getElem hk, List.map_append, List.drop_eq_getElem_cons hk, e, List.set_cons_zero, List.append_assoc]
 congr 1
 simp [List.getD, hk]
theorem mapJ_all (f : In → In) (L : List (In × Value)) : (mapJ f L L.length).map Prod.fst = (L.map Prod.fst).map f := by
 unfold mapJ
 rw [List.take_length, List.drop_length, List.append_nil, List.map_map, List.map_map]
 rfl
theorem mapJ_0 (f : In → In) (L : List (In × Value)) : mapJ f L 0 = L := by simp [mapJ]
/-- a copy of a row of instructions, the arguments where they were -/
theorem copyInA {w0 : World} {v : Value} {l : List In} (h : RdIns w0 v l) (w : World) (he : Ext w0 w) (hn : l.length ≤ 1000000) :
  Calls Tryz.prog 40 #[v] w fun e w' => ∃ v', ∃ L : List (In × Value), e = .returned v' ∧ L.map Prod.fst = l ∧ InA w0 w.heap.size w' v' L ∧ Below w.heap.size w w' := by
 obtain ⟨L, rfl, hi, hs⟩ := h.src
 rw [List.length_map] at hs hn
 refine (cloneIn v L.length _ w (hs.keep he) (flat_len inCells 11 (fun _ => rfl) L) hn (in_one L fun x hx => (hi x hx).sl)).mono ?_
 rintro e w' ⟨v', rfl, ho, hb⟩
 exact ⟨v', L, rfl, rfl, ⟨ho, hi⟩, hb⟩
def bkO (x : Bk) (v : Value) : Obj := .cells #[v, .int .i64 x.fin, .int .i64 x.a, .int .i64 x.to, .int .i64 x.els] 51
/-- a block moved -/
def MovQ (w0 : World) (x : Bk) (g c d on : Int) (w : World) (e : Ending) (w' : World) : Prop :=
 ∃ vi LI, e = .returned (.agg #[vi, .int .i64 (movB x g c d on).fin, .int .i64 (movB x g c d on).a, .int .i64 (movB x g c d on).to, .int .i64 (movB x g c d on).els]) ∧ LI.map Prod.fst = (movB x g c d on).ins ∧ InA w0 w.heap.size w' vi LI ∧ Below w.heap.size w w'
/-- the block in its box while its instructions are moved -/
structure MvS (w0 w : World) (x : Bk) (f : In → In) (L : List (In × Value)) (k : Nat) (v : Value) (wr : World) : Prop where
 bx : wr.heap[w.heap.size]? = some (bkO x v)
 br : wr.heap[w.heap.size + 1]? = some (bkO ⟨[], 0, 0, 0, 0⟩ (.slice none 0 0))
 row : InA w0 (w.heap.size + 2) wr v (mapJ f L k)
 be : Below w.heap.size w wr
/-- the block in its box while its instructions are moved; the row's first so many are, and one half so -/
structure MvR (w0 w : World) (x : Bk) (M : List (In × Value)) (v : Value) (wr : World) : Prop where
 bx : wr.heap[w.heap.size]? = some (bkO x v)
 br : wr.heap[w.heap.size + 1]? = some (bkO ⟨[], 0, 0, 0, 0⟩ (.slice none 0 0))
 row : InA w0 (w.heap.size + 2) wr v M
 be : Below w.heap.size w wr
theorem MvR.put {w0 w wr : World} {x : Bk} {M : List (In × Value)} {k gi c : Nat} {y : In} {vy : Value} (h : MvR w0 w x M (.slice (some ⟨gi, 0, none⟩) M.length c) wr) (hk : k < M.length) (hy : M.getD k default = (y, vy)) (d a b : Int) :
  MvR w0 w x (M.set k ({ y with d := d, a := a, b := b }, vy)) (.slice (some ⟨gi, 0, none⟩) M.length c) (((wr.setCell ⟨gi, k * 11 + 1, none⟩ (.int .i64 d)).setCell ⟨gi, k * 11 + 2, none⟩ (.int .i64 a)).setCell ⟨gi, k * 11 + 3, none⟩ (.int .i64 b)) := by
 have hg : w.heap.size + 2 ≤ gi := (own_lt h.row.own rfl).1
 have h3 := h.row.put3 hk d a b
 rw [hy] at h3
 have o : ∀ n, n < w.heap.size + 2 → (((wr.setCell ⟨gi, k * 11 + 1, none⟩ (.int .i64 d)).setCell ⟨gi, k * 11 + 2, none⟩ (.int .i64 a)).setCell ⟨gi, k * 11 + 3, none⟩ (.int .i64 b)).heap[n]? = wr.heap[n]? := fun n hn => by
  have hne : ∀ j, n ≠ (⟨gi, j, none⟩ : Addr).block := fun j => by show n ≠ gi; omega
  rw [heap_setCell_other _ _ n _ (hne _), heap_setCell_other _ _ n _ (hne _), heap_setCell_other _ _ n _ (hne _)]
 exact ⟨(o _ (by omega)).trans h.bx, (o _ (by omega)).trans h.br, h3, ((h.be.setCell (p := ⟨gi, k * 11 + 1, none⟩) (by show _ ≤ gi; omega) _).setCell (p := ⟨gi, k * 11 + 2, none⟩) (by show _ ≤ gi; omega) _).setCell (p := ⟨gi, k * 11 + 3, none⟩) (by show _ ≤ gi; omega) _⟩
theorem MvS.r {w0 w wr : World} {x : Bk} {f : In → In} {L : List (In × Value)} {k : Nat} {v : Value} (h : MvS w0 w x f L k v wr) : MvR w0 w x (mapJ f L k) v wr := ⟨h.bx, h.br, h.row, h.be⟩
theorem MvS.put {w0 w : World} {x : Bk} {f : In → In} {L : List (In × Value)} {k gi c : Nat} {wr : World} {y : In} {vy : Value} (h : MvS w0 w x f L k (.slice (some ⟨gi, 0, none⟩) L.length c) wr) (hk : k < L.length) (hy : (mapJ f L k).getD k default = (y, vy)) (d a b : Int)
  (he : mapJ f L (k + 1) = (mapJ f L k).set k ({ y with d := d, a := a, b := b }, vy)) : MvS w0 w x f L (k + 1) (.slice (some ⟨gi, 0, none⟩) L.length c) (((wr.setCell ⟨gi, k * 11 + 1, none⟩ (.int .i64 d)).setCell ⟨gi, k * 11 + 2, none⟩ (.int .i64 a)).setCell ⟨gi, k * 11 + 3, none⟩ (.int .i64 b)) := by
 have hr := h.r
 have e := mapJ_len f L k
 rw [← e] at hr
 have h2 := hr.put (by rw [e]; exact hk) hy d a b
 rw [e, ← he] at h2
 exact ⟨h2.bx, h2.br, h2.row, h2.be⟩
theorem MvS.drew {w0 w wr : World} {x : Bk} {f : In → In} {L : List (In × Value)} {k : Nat} {v : Value} (h : MvS w0 w x f L k v wr) : MvS w0 w x f L k v wr.drew := ⟨h.bx, h.br, h.row.below (Below.refl _ _).drew, h.be.drew⟩
/-- all stays but two blocks -/
structure Bt2 (n : Nat) (w w' : World) : Prop where
 os : w'.os = w.os
 tape : w'.tape = w.tape
 output : w'.output = w.output
 size : w.heap.size ≤ w'.heap.size
 block : ∀ k, k < w.heap.size → k ≠ n → k ≠ n + 1 → w'.heap[k]? = w.heap[k]?
theorem Bt2.refl (n : Nat) (w : World) : Bt2 n w w := ⟨rfl, rfl, rfl, Nat.le_refl _, fun _ _ _ _ => rfl⟩
theorem Bt2.set {n : Nat} {w w' : World} (h : Bt2 n w w') {b : Nat} (hb : b = n ∨ b = n + 1) (j : Nat) (u : Value) : Bt2 n w (w'.setCell ⟨b, j, none⟩ u) :=
 ⟨h.os, h.tape, h.output, by simpa using h.size, fun k hk h1 h2 => (heap_setCell_other w' ⟨b, j, none⟩ k u (by show k ≠ b; omega)).trans (h.block k hk h1 h2)⟩
theorem Bt2.fin {n : Nat} {w0 w wr w' : World} {v : Value} {M : List (In × Value)} (h : Bt2 n wr w') (hn : n = w.heap.size) (hr : InA w0 (n + 2) wr v M) (hb : Below n w wr) : InA w0 n w' v M ∧ Below n w w' := by
 refine ⟨⟨?_, hr.args⟩, ⟨h.os.trans hb.os, h.tape.trans hb.tape, h.output.trans hb.output, Nat.le_trans hb.size h.size, fun k hk => (h.block k (Nat.lt_of_lt_of_le (by omega) hb.size) (by omega) (by omega)).trans (hb.block k hk)⟩⟩
 obtain ⟨h1, h2⟩ := hr.own
 refine ⟨h1, ?_⟩
 rcases h2 with h2 | ⟨g, cap, cur, e, h3, h4, h5⟩
 ·exact .inl h2
 ·exact .inr ⟨g, cap, cur, e, by omega, (h.block g (Array.getElem?_eq_some_iff.1 h4).1 (by omega) (by omega)).trans h4, h5⟩
theorem moved_c (w0 : World) (x : Bk) (v : Value) (g c d on : Int) (w : World) (he0 : Ext w0 w) (hv : RdIns w0 v x.ins) (hl : x.ins.length ≤ 1000) (hr : ∀ i ∈ x.ins, (-1 ≤ i.d ∧ i.d ≤ 100000) ∧ (-1 ≤ i.a ∧ i.a ≤ 100000) ∧ (-1 ≤ i.b ∧ i.b ≤ 100000))
  (hg : 0 ≤ g ∧ g ≤ 100000) (hc : 0 ≤ c ∧ c ≤ 100000) (ha : -1 ≤ x.a ∧ x.a ≤ 100000) (ht : -1 ≤ x.to ∧ x.to ≤ 100000) (he : -1 ≤ x.els ∧ x.els ≤ 100000) :
  Calls Tryz.prog 42 #[.agg #[v, .int .i64 x.fin, .int .i64 x.a, .int .i64 x.to, .int .i64 x.els], .int .i64 g, .int .i64 c, .int .i64 d, .int .i64 on] w (MovQ w0 x g c d on w) := by
 obtain ⟨W0, hW0⟩ : ∃ W0, W0 = (w.alloc (.cells #[v, .int .i64 x.fin, .int .i64 x.a, .int .i64 x.to, .int .i64 x.els] 51)).alloc (.cells #[.slice none 0 0, .int .i64 0, .int .i64 0, .int .i64 0, .int .i64 0] 51) := ⟨_, rfl⟩
 have hW0' : W0 = allocs w [.cells #[v, .int .i64 x.fin, .int .i64 x.a, .int .i64 x.to, .int .i64 x.els] 51, .cells #[.slice none 0 0, .int .i64 0, .int .i64 0, .int .i64 0, .int .i64 0] 51] := hW0
 have B0 : Hid (Below w.heap.size w W0) := by rw [hW0']; exact allocs_below _ _
 have H0 : Hid (W0.heap[w.heap.size]? = some (bkO x v)) := by rw [hW0']; exact allocs_heap _ w 0 (by simp)
 have H1 : Hid (W0.heap[w.heap.size + 1]? = some (bkO ⟨[], 0, 0, 0, 0⟩ (.slice none 0 0))) := by rw [hW0']; exact allocs_heap _ w 1 (by simp)
 have hz0 : W0.heap.size = w.heap.size + 2 := by rw [hW0']; exact allocs_size _ _
 have HW0 := Lib.hid hW0
 clear hW0 hW0'
 have HCL : Hid (∀ w', Ext w w' → Calls Tryz.prog 40 #[v] w' fun e w'' => ∃ v', ∃ L : List (In × Value), e = .returned v' ∧ L.map Prod.fst = x.ins ∧ InA w0 w'.heap.size w'' v' L ∧ Below w'.heap.size w' w'') := fun w' he => copyInA hv w' (he0.trans he) (by omega)
 obtain ⟨va, vc, rfl, -⟩ := hv
 have HR := Lib.hid hr
 clear hr
 go_enter Tryz.func42, Tryz.ntmps42
 go_wp2_with fail
 rw [← HW0.out]
 refine (HCL.out W0 (Ext.below B0.out)).mono ?_
 rintro e w1 ⟨v1, L, rfl, hL, hA, hb⟩
 have h0 := (hb.block _ (by omega)).trans H0.out
 have h1 := (hb.block _ (by omega)).trans H1.out
 have ln : L.length = x.ins.length := by rw [← hL, List.length_map]
 have kk : L.length ≤ 1000 := by omega
 clear ln hl
 obtain ⟨a1, c1, e1⟩ := hA.form
 have nvb : v1.ownBlock ≠ some w.heap.size := fun e => by have := (own_lt hA.own e).1; omega
 have S1 : Hid (MvS w0 w x (movI g) L 0 v1 (w1.setCell ⟨w.heap.size, 0, none⟩ v1)) := by
  refine ⟨?_, ?_, ?_, ?_⟩
  ·exact heap_setCell_same _ _ 0 _ _ v1 h0
  ·rw [heap_setCell_other w1 ⟨w.heap.size, 0, none⟩ (w.heap.size + 1) v1 (by show w.heap.size + 1 ≠ w.heap.size; omega)]; exact h1
  ·rw [mapJ_0]
   have := il_set hA.own (b := w.heap.size) (by omega) 0 v1
   exact ⟨by rw [← hz0]; exact this, hA.args⟩
  ·exact ((B0.out.trans (hb.mono (by omega))).setCell (p := ⟨w.heap.size, 0, none⟩) (Nat.le_refl _) v1)
 subst e1
 obtain ⟨x0, x1, x2, x3, x4, lx⟩ := cl5 h0
 have fz := frozen_of_heap h0 0
 have HL := Lib.hid hL
 clear hL hA hb h1 H0 H1 B0 HW0 HCL nvb
 go_wp2_with fail
 clear x0 x1 x2 x3 x4 lx fz h0
 generalize w1.setCell ⟨w.heap.size, 0, none⟩ (.slice a1 L.length c1) = w2 at *
 go_loopw [20] (fun i wr => ∃ k : Nat, k ≤ L.length ∧ i = .int .i64 (k : Int) ∧ Hid (MvS w0 w x (movI g) L k (.slice a1 L.length c1) wr)) (fun i _ => L.length - (intOf i).toNat)
 case atStart => exact ⟨0, Nat.zero_le _, rfl, S1⟩
 case round =>
  clear S1
  obtain ⟨k, hk, rfl, S⟩ := hrel
  by_cases hlt : k < L.length
  ·obtain ⟨gi, c', e, hB, hc1, hc2, ⟨cur, hgi⟩, d1, d2, d3⟩ := S.out.row.at (k := k) (by rw [mapJ_len]; exact hlt)
   rw [mapJ_at _ _ _ hlt] at d1 d2 d3
   rw [mapJ_len] at e hc1
   simp only [Value.slice.injEq, true_and] at e
   obtain ⟨rfl, rfl⟩ := e
   obtain ⟨x0, x1, x2, x3, x4, lx⟩ := cl5 S.out.bx
   have hy : L.getD k default ∈ L := getD_in hlt
   have hym := HR.out (L.getD k default).1 (by rw [← HL.out]; exact List.mem_map.2 ⟨_, hy, rfl⟩)
   have HMS := Lib.hid (mapJ_succ (movI g) L k hlt)
   have HMA := Lib.hid (mapJ_at (movI g) L k hlt)
   have lg := (Array.getElem?_eq_some_iff.1 hgi).1
   have f1 := frozen_of_heap hgi (k * 11 + 1)
   have f2 := frozen_of_heap hgi (k * 11 + 2)
   have f3 := frozen_of_heap hgi (k * 11 + 3)
   clear hgi hy
   generalize L.getD k default = y at *
   obtain ⟨y, vy⟩ := y
   obtain ⟨⟨r1, r2⟩, ⟨r3, r4⟩, ⟨r5, r6⟩⟩ := hym
   dsimp only at d1 d2 d3 r1 r2 r3 r4 r5 r6
   have q1 : decide ((k : Int) < (L.length : Int)) = true := decide_eq_true (by omega)
   have q2 : decide (k < L.length) = true := decide_eq_true hlt
   go_wp2_with fail
   refine wp_region_late [0, 3, 4, 5, 6, 7, 9, 10, 11, 12, 13, 15, 16, 17, 18, 19, 21, 22] (fun z => z = gi) (by kernel_rfl) ?_
   show wpH _ _ _ _ _ _ _ _ wr.drew
   refine H_pures [1, 2] _ _ _ _ (by kernel_rfl) ?_
   simp only [List.map_cons, List.map_nil, List.getElem?_toArray, List.getElem?_cons_succ, List.getElem?_cons_zero, Option.getD_some, List.size_toArray, List.length_cons, List.length_nil, Nat.reduceAdd, Nat.reduceSub]
   repeat (go_big_quiet_step (fail))
   refine wpQuiet_nil ?_
   refine H_mobs [0, 3, 4, 5, 6, 7, 9, 10, 11, 12, 13, 15, 16, 17, 18, 19] _ _ _ _ (by kernel_rfl) ?_
   simp only [List.map_cons, List.map_nil, List.getElem?_toArray, List.getElem?_cons_succ, List.getElem?_cons_zero, Option.getD_some, List.size_toArray, List.length_cons, List.length_nil, Nat.reduceAdd, Nat.reduceSub]
   repeat (go_big_quiet_step (fail))
   refine wpQuiet_nil ?_
   refine H_loud1 8 _ rfl (by kernel_rfl) ?_
   simp only [List.getElem_toArray, List.getElem_cons_succ, List.getElem_cons_zero]
   go_wp2_with fail
   refine (shift_c y.d g _ r1 r2 hg.1 hg.2).mono ?_
   rintro e w' ⟨rfl, rfl⟩
   go_wp2_with fail
   refine ⟨Keep.refl _ _, ?_⟩
   refine H_loud1 14 _ rfl (by kernel_rfl) ?_
   simp only [List.getElem_toArray, List.getElem_cons_succ, List.getElem_cons_zero]
   go_wp2_with fail
   refine (shift_c y.a g _ r3 r4 hg.1 hg.2).mono ?_
   rintro e w' ⟨rfl, rfl⟩
   go_wp2_with fail
   refine ⟨Keep.refl _ _, ?_⟩
   refine H_loud1 20 _ rfl (by kernel_rfl) ?_
   simp only [List.getElem_toArray, List.getElem_cons_succ, List.getElem_cons_zero]
   go_wp2_with fail
   refine (shift_c y.b g _ r5 r6 hg.1 hg.2).mono ?_
   rintro e w' ⟨rfl, rfl⟩
   go_wp2_with fail
   refine ⟨Keep.refl _ _, ?_⟩
   refine H_mobs [21, 22] _ _ _ _ (by kernel_rfl) ?_
   simp only [List.map_cons, List.map_nil, List.getElem?_toArray, List.getElem?_cons_succ, List.getElem?_cons_zero, Option.getD_some, List.size_toArray, List.length_cons, List.length_nil, Nat.reduceAdd, Nat.reduceSub]
   repeat (go_big_quiet_step (fail))
   refine wpQuiet_nil ?_
   refine H_late 23 _ rfl (by kernel_rfl) ?_
   simp only [List.getElem_toArray, List.getElem_cons_succ, List.getElem_cons_zero]
   go_wp2_with fail
   refine H_loud1 24 _ rfl (by kernel_rfl) ?_
   simp only [List.getElem_toArray, List.getElem_cons_succ, List.getElem_cons_zero]
   go_wp2_with fail
   refine ⟨Keep.refl _ _, ?_⟩
   refine H_loud1 25 _ rfl (by kernel_rfl) ?_
   simp only [List.getElem_toArray, List.getElem_cons_succ, List.getElem_cons_zero]
   go_wp2_with fail
   refine ⟨Keep.refl _ _, ?_⟩
   refine H_late 26 _ rfl (by kernel_rfl) ?_
   simp only [List.getElem_toArray, List.getElem_cons_succ, List.getElem_cons_zero]
   go_wp2_with fail
   refine H_loud1 27 _ rfl (by kernel_rfl) ?_
   simp only [List.getElem_toArray, List.getElem_cons_succ, List.getElem_cons_zero]
   go_wp2_with fail
   refine ⟨Keep.refl _ _, ?_⟩
   refine H_loud1 28 _ rfl (by kernel_rfl) ?_
   simp only [List.getElem_toArray, List.getElem_cons_succ, List.getElem_cons_zero]
   go_wp2_with fail
   refine ⟨Keep.refl _ _, ?_⟩
   refine H_late 29 _ rfl (by kernel_rfl) ?_
   simp only [List.getElem_toArray, List.getElem_cons_succ, List.getElem_cons_zero]
   go_wp2_with fail
   refine H_done (by kernel_rfl) ?_ _
   have S2 := Lib.hid (S.out.drew.put hlt HMA.out (shF y.d g) (shF y.a g) (shF y.b g) HMS.out)
   clear HMS HMA d1 d2 d3 x0 x1 x2 x3 x4 f1 f2 f3
   go_wp2_with fail
   go_roundw
   case rel => exact ⟨k + 1, by omega, by go_num, S2⟩
   case measure => simp [intOf]; omega
  ·obtain rfl : k = L.length := by omega
   have HEX := Lib.hid (mapJ_all (movI g) L)
   rw [HL.out] at HEX
   have hrow := S.out.row
   have hlen := mapJ_len (movI g) L L.length
   have hbx := S.out.bx
   have hbr := S.out.br
   have hbe := S.out.be
   generalize mapJ (movI g) L L.length = M at *
   rw [← hlen] at hrow hbx
   have LN := Lib.hid hlen
   clear S hlen
   have hne : w.heap.size + 1 ≠ w.heap.size := by omega
   obtain ⟨x0, x1, x2, x3, x4, lx⟩ := cl5 hbx
   obtain ⟨r0, r1, r2, r3, r4, lr⟩ := cl5 hbr
   have fx := fun o => frozen_of_heap hbx o
   have fr := fun o => frozen_of_heap hbr o
   have fx0 := fx 0
   have fx1 := fx 1
   have fx2 := fx 2
   have fx3 := fx 3
   have fx4 := fx 4
   have fr0 := fr 0
   have fr1 := fr 1
   have fr2 := fr 2
   have fr3 := fr 3
   have fr4 := fr 4
   have HROW := Lib.hid hrow
   have HBE := Lib.hid hbe
   have HBX := Lib.hid hbx
   have HBR := Lib.hid hbr
   clear hbx hbr fx fr hrow hbe HL HR
   have q1 : decide ((M.length : Int) < (M.length : Int)) = false := decide_eq_false (by omega)
   have q2 : decide (M.length < M.length) = false := decide_eq_false (by omega)
   by_cases h3 : x.fin = 3
   ·have g3 : (x.fin == 3) = true := beq_iff_eq.2 h3
    by_cases hd : d = -1
    ·have gd : (d != -1) = false := by rw [hd]; rfl
     have HM : Hid (movB x g c d on = ⟨x.ins.map (movI g), 1, -1, on, x.els⟩) := by show _ = _; unfold movB; rw [if_pos h3, if_neg (fun z => z hd), List.append_nil]
     clear h3 hd
     go_wp2_with fail
     refine bodyPost_ret (v := .agg #[.slice a1 M.length c1, .int .i64 1, .int .i64 (-1), .int .i64 on, .int .i64 x.els]) (by simp [results, Tryz.results42, go_sem, r0, r1, r2, r3, r4]) rfl ?_
     unfold MovQ
     rw [HM.out]
     refine ⟨.slice a1 M.length c1, M, rfl, HEX.out, ?_⟩
     refine Bt2.fin ?_ rfl HROW.out HBE.out
     clear HROW HBE HEX HM LN
     repeat (with_reducible refine Bt2.set ?_ (by omega) _ _)
     with_reducible exact Bt2.refl _ _
    ·have gd : (d != -1) = true := by simpa using hd
     have HM : Hid (movB x g c d on = ⟨x.ins.map (movI g) ++ [copI d (x.a + g)], 1, -1, on, x.els⟩) := by show _ = _; unfold movB; rw [if_pos h3, if_pos hd]
     clear h3 hd
     have HC : Hid (∀ w', Calls Tryz.prog 53 #[.int .i64 d, .int .i64 (x.a + g)] w' fun e w'' => e = .returned (.agg #[.int .i64 2, .int .i64 d, .int .i64 (x.a + g), .int .i64 (-1), .int .i64 0, .int .i64 0, .int .i64 0, .int .i64 0, .int .u32 0, .slice none 0 0, .bool false]) ∧ Below w'.heap.size w' w'') := fun w' => copied_c d (x.a + g) w'
     have HBX : Hid (wr.heap[w.heap.size]? = some (bkO x (.slice a1 M.length c1))) := HBX
     go_wp2_with fail
     refine wp_region_late [0, 1, 2, 3, 4, 5, 6] (fun z => z = w.heap.size) (by kernel_rfl) ?_
     show wpH _ _ _ _ _ _ _ _ wr.drew
     have HROW := Lib.hid (HROW.out.below (Below.refl _ _).drew)
     have HBE := Lib.hid HBE.out.drew
     have HBX : Hid (wr.drew.heap[w.heap.size]? = some (bkO x (.slice a1 M.length c1))) := HBX
     have HBR : Hid (wr.drew.heap[w.heap.size + 1]? = some (bkO ⟨[], 0, 0, 0, 0⟩ (.slice none 0 0))) := HBR
     refine H_mobs [0, 1, 2, 3, 4, 5, 6] _ _ _ _ (by kernel_rfl) ?_
     simp only [List.map_cons, List.map_nil, List.getElem?_toArray, List.getElem?_cons_succ, List.getElem?_cons_zero, Option.getD_some, List.size_toArray, List.length_cons, List.length_nil, Nat.reduceAdd, Nat.reduceSub]
     repeat (go_big_quiet_step (fail))
     refine wpQuiet_nil ?_
     clear x0 x1 x2 x3 x4 r0 r1 r2 r3 r4 fx0 fx1 fx2 fx3 fx4 fr0 fr1 fr2 fr3 fr4
     have lx : w.heap.size < wr.drew.heap.size := lx
     have lr : w.heap.size + 1 < wr.drew.heap.size := lr
     generalize wr.drew = wd at *
     refine H_loud1 7 _ rfl (by kernel_rfl) ?_
     simp only [List.getElem_toArray, List.getElem_cons_succ, List.getElem_cons_zero]
     go_wp2_with fail
     refine (HC.out wd).mono ?_
     rintro e w7 ⟨rfl, hb7⟩
     go_wp2_with fail
     refine ⟨keep_below hb7 (fun z hz => by rw [hz]; exact lx), ?_⟩
     refine H_loud1 8 _ rfl (by kernel_rfl) ?_
     simp only [List.getElem_toArray, List.getElem_cons_succ, List.getElem_cons_zero]
     go_wp2_with fail
     have B8 := hb7.trans ((below_alloc w7 (.cells #[.int .i64 2, .int .i64 d, .int .i64 (x.a + g), .int .i64 (-1), .int .i64 0, .int .i64 0, .int .i64 0, .int .i64 0, .int .u32 0, .slice none 0 0, .bool false] 48)).mono hb7.size)
     refine ⟨keep_below (below_alloc _ _) (fun z hz => by rw [hz]; exact Nat.lt_of_lt_of_le lx hb7.size), ?_⟩
     have HCX : Hid (∀ jj u, (inCells (copI d (x.a + g), .slice none 0 0))[jj]? = some u → (w7.alloc (.cells #[.int .i64 2, .int .i64 d, .int .i64 (x.a + g), .int .i64 (-1), .int .i64 0, .int .i64 0, .int .i64 0, .int .i64 0, .int .u32 0, .slice none 0 0, .bool false] 48)).cell? ⟨w7.heap.size, jj, none⟩ = some u) := cell_newX w7 (inCells (copI d (x.a + g), .slice none 0 0)) 48 _ rfl
     have HROW := Lib.hid (HROW.out.below B8)
     have HBE := Lib.hid (HBE.out.trans (B8.mono HBE.out.size))
     have HBX := Lib.hid ((B8.block _ lx).trans HBX.out)
     have HBR := Lib.hid ((B8.block _ lr).trans HBR.out)
     clear lx lr B8 hb7 HC
     generalize w7.alloc (.cells #[.int .i64 2, .int .i64 d, .int .i64 (x.a + g), .int .i64 (-1), .int .i64 0, .int .i64 0, .int .i64 0, .int .i64 0, .int .u32 0, .slice none 0 0, .bool false] 48) = w8 at *
     have lx := (Array.getElem?_eq_some_iff.1 HBX.out).1
     have lr := (Array.getElem?_eq_some_iff.1 HBR.out).1
     have hsz := HBE.out.size
     have hM : M.length ≤ 1000 := by rw [LN.out]; exact kk
     refine H_loud1 9 _ rfl (by kernel_rfl) ?_
     simp only [List.getElem_toArray, List.getElem_cons_succ, List.getElem_cons_zero]
     refine appG 49 48 info_in Tryz.underlying49 rfl (by decide) (by decide) (inCells (copI d (x.a + g), .slice none 0 0)) rfl (fun u hu => by simp only [inCells, copI, List.mem_cons, List.not_mem_nil, or_false] at hu; rcases hu with rfl | rfl | rfl | rfl | rfl | rfl | rfl | rfl | rfl | rfl | rfl <;> rfl) HROW.out.own rfl rfl rfl rfl HCX.out (by omega) (by omega) ?_
     intro v9 w9 O9 G9 D9
     have hno : ∀ k, k ≤ w.heap.size + 1 → some k ≠ (Value.slice a1 M.length c1).ownBlock := fun k hk e => by have := (own_lt HROW.out.own e.symm).1; omega
     have HROW9 := Lib.hid (HROW.out.app (y := (copI d (x.a + g), .slice none 0 0)) (RdI.nil w0) O9)
     obtain ⟨a9, c9, e9⟩ := HROW9.out.form
     rw [List.length_append, List.length_singleton] at e9
     have HX9 := (G9.block _ lx (hno _ (by omega))).trans HBX.out
     have HR9 := (G9.block _ lr (hno _ (by omega))).trans HBR.out
     have HBE9 : Hid (Below w.heap.size w w9) := HBE.out.grown G9 hsz (fun k hk => by have := (own_lt HROW.out.own hk).1; omega)
     have HK9 : Hid (Keep (fun z => z = w.heap.size) w8 w9) := fun b o hz => World.cell?_of_block (w := w8) (a := ⟨b, o, none⟩) (by show w9.heap[b]? = w8.heap[b]?; rw [hz]; exact G9.block _ lx (hno _ (by omega)))
     subst e9
     clear O9 G9 D9 HROW HBE HCX hno lx lr hsz
     go_wp2_with fail
     refine ⟨HK9.out, ?_⟩
     refine H_loud1 10 _ rfl (by kernel_rfl) ?_
     simp only [List.getElem_toArray, List.getElem_cons_succ, List.getElem_cons_zero]
     go_wp2_with fail
     refine ⟨Keep.refl _ _, ?_⟩
     obtain ⟨x0, x1, x2, x3, x4, lx⟩ := cl5 HX9
     obtain ⟨r0, r1, r2, r3, r4, lr⟩ := cl5 HR9
     have fx := fun o => frozen_of_heap HX9 o
     have fr := fun o => frozen_of_heap HR9 o
     have fx0 := fx 0
     have fx1 := fx 1
     have fx2 := fx 2
     have fx3 := fx 3
     have fr0 := fr 0
     have fr1 := fr 1
     have fr2 := fr 2
     have fr3 := fr 3
     have fr4 := fr 4
     clear fx fr HX9 HR9 HK9
     refine H_late 11 _ rfl (by kernel_rfl) ?_
     simp only [List.getElem_toArray, List.getElem_cons_succ, List.getElem_cons_zero]
     go_wp2_with fail
     refine H_done (by kernel_rfl) ?_ _
     go_wp2_with fail
     refine bodyPost_ret (v := .agg #[.slice a9 (M.length + 1) c9, .int .i64 1, .int .i64 (-1), .int .i64 on, .int .i64 x.els]) (by simp [results, Tryz.results42, go_sem, r0, r1, r2, r3, r4]) rfl ?_
     unfold MovQ
     rw [HM.out]
     refine ⟨.slice a9 (M.length + 1) c9, M ++ [(copI d (x.a + g), .slice none 0 0)], rfl, ?_, ?_⟩
     ·rw [List.map_append, HEX.out]; rfl
     refine Bt2.fin ?_ rfl HROW9.out HBE9.out
     clear HROW9 HBE9 HEX HM LN
     repeat (with_reducible refine Bt2.set ?_ (by omega) _ _)
     with_reducible exact Bt2.refl _ _
   ·have g3 : (x.fin == 3) = false := beq_eq_false_iff_ne.2 h3
    by_cases h2 : x.fin = 2
    ·have g2 : (x.fin == 2) = true := beq_iff_eq.2 h2
     have HM : Hid (movB x g c d on = ⟨x.ins.map (movI g), 2, x.a + g, x.to + c, x.els + c⟩) := by show _ = _; unfold movB; rw [if_neg h3, if_pos h2]
     have HF := Lib.hid h2
     clear h3 h2
     go_wp2_with fail
     refine bodyPost_ret (v := .agg #[.slice a1 M.length c1, .int .i64 x.fin, .int .i64 (x.a + g), .int .i64 (x.to + c), .int .i64 (x.els + c)]) (by simp [results, Tryz.results42, go_sem, r0, r1, r2, r3, r4]) rfl ?_
     unfold MovQ
     rw [HM.out, HF.out]
     refine ⟨.slice a1 M.length c1, M, rfl, HEX.out, ?_⟩
     refine Bt2.fin ?_ rfl HROW.out HBE.out
     clear HROW HBE HEX HM LN
     repeat (with_reducible refine Bt2.set ?_ (by omega) _ _)
     with_reducible exact Bt2.refl _ _
    ·have g2 : (x.fin == 2) = false := beq_eq_false_iff_ne.2 h2
     have HM : Hid (movB x g c d on = ⟨x.ins.map (movI g), x.fin, x.a, x.to + c, x.els⟩) := by show _ = _; unfold movB; rw [if_neg h3, if_neg h2]
     clear h3 h2
     go_wp2_with fail
     refine bodyPost_ret (v := .agg #[.slice a1 M.length c1, .int .i64 x.fin, .int .i64 x.a, .int .i64 (x.to + c), .int .i64 x.els]) (by simp [results, Tryz.results42, go_sem, r0, r1, r2, r3, r4]) rfl ?_
     unfold MovQ
     rw [HM.out]
     refine ⟨.slice a1 M.length c1, M, rfl, HEX.out, ?_⟩
     refine Bt2.fin ?_ rfl HROW.out HBE.out
     clear HROW HBE HEX HM LN
     repeat (with_reducible refine Bt2.set ?_ (by omega) _ _)
     with_reducible exact Bt2.refl _ _
end Go.Proofs.YtchoiankeohonaaGreatDoor
