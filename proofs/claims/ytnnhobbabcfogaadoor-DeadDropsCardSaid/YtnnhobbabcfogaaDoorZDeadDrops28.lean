/-
 Contracts: is a number in a list (slices.Index, Contains); the test that counts its calls (dead's without); slices.IndexFunc over instructions.
-/
import Derived.Test.YtnnhobbabcfogaaDoorZDeadDrops25
import Derived.Test.YtnnhobbabcfogaaDoorZDeadDrops27
set_option linter.all false
namespace Go.Proofs.YtnnhobbabcfogaaDoor
open Go.ChangeShapes Go.WideShapes Go.ChangeAt Go.RowKit
set_option maxHeartbeats 4000000
set_option maxRecDepth 100000
set_option linter.unusedVariables false

theorem hasL_at {l : List Int} {x : Int} {k : Nat} (hk : k < l.length) (e : l.getD k 0 = x) : hasL l x = true := by
 rw [hasL_iff]
 rw [← e]
 simp [List.getD, hk]
theorem hasL_no {l : List Int} {x : Int} (h : ∀ k, k < l.length → l.getD k 0 ≠ x) : hasL l x = false := by
 rw [Bool.eq_false_iff]
 intro he
 rw [hasL_iff] at he
 obtain ⟨k, hk, rfl⟩ := List.getElem_of_mem he
 exact h k hk (by simp [List.getD, hk])
theorem index_i (l : List Int) (v : Value) (x : Int) (w : World) (hv : RdI w v l) (hn : l.length ≤ 1000000) :
  Calls Tryd.prog 114 #[v, .int .i64 x] w fun e w' => ∃ r : Int, e = .returned (.int .i64 r) ∧ w' = w ∧ decide (0 ≤ r) = hasL l x := by
 obtain ⟨a, c, rfl, h1, h2, h3⟩ := hv
 unfold maxLen at h2
 have HV := Lib.hid h3
 clear h3
 go_enter Tryd.func114, Tryd.ntmps114
 go_wp2_with fail
 go_loopw [8] (fun i wr => ∃ k : Nat, k ≤ l.length ∧ i = .int .i64 (k : Int) ∧ wr = w ∧ Hid (∀ j, j < k → l.getD j 0 ≠ x)) (fun i _ => l.length - (intOf i).toNat)
 case atStart => exact ⟨0, Nat.zero_le _, rfl, rfl, fun j hj => absurd hj (Nat.not_lt_zero j)⟩
 case round =>
  obtain ⟨k, hk, rfl, rfl, HN⟩ := hrel
  by_cases hlt : k < l.length
  ·obtain ⟨b, o, rfl, c1⟩ := HV.out k hlt
   simp only [Nat.mul_one, Nat.add_zero] at c1
   have HAT := Lib.hid (@hasL_at l x k hlt)
   have HNX : Hid (l.getD k 0 ≠ x → ∀ j, j < k + 1 → l.getD j 0 ≠ x) := fun hne j hj => by
    by_cases e : j = k
    ·subst e; exact hne
    ·exact HN.out j (by omega)
   generalize l.getD k 0 = y at *
   cases he : (x == y)
   ·have hne : Hid (y ≠ x) := fun e => by rw [e] at he; simp at he
    go_wp2_with fail
    go_roundw
    case rel => exact ⟨k + 1, by omega, by go_num, trivial, HNX.out hne.out⟩
    case measure => simp [intOf]; omega
   ·have hE : Hid (y = x) := (beq_iff_eq.1 he).symm
    go_wp2_with fail
    go_ret
    exact ⟨_, rfl, rfl, by rw [HAT.out hE.out]; simp⟩
  ·obtain rfl : k = l.length := by omega
   go_wp2_with fail
   go_ret
   exact ⟨_, rfl, rfl, by rw [hasL_no HN.out]; rfl⟩
theorem contains_i (l : List Int) (v : Value) (x : Int) (w : World) (hv : RdI w v l) (hn : l.length ≤ 1000000) :
  Calls Tryd.prog 99 #[v, .int .i64 x] w fun e w' => e = .returned (.bool (hasL l x)) ∧ w' = w := by
 have HX := Lib.hid (index_i l v x w hv hn)
 obtain ⟨a, c, rfl, -⟩ := hv
 go_enter Tryd.func99, Tryd.ntmps99
 go_wp2_with (go_at_call 114; refine HX.out.mono ?_; rintro e w1 ⟨r, rfl, rfl, hr⟩; have HR := Lib.hid hr; clear hr)
 go_ret
 exact ⟨ret_b HR.out, rfl⟩
/-- a call of the test: the count goes one up -/
theorem wo1_c (y : In) (va : Value) (ab pb : Nat) (pv : Value) (P : List Int) (m : Nat) (w0 w : World) (hb : Below w0.heap.size w0 w) (hab : w0.heap.size ≤ ab) (hp : w0.cell? ⟨pb, 0, none⟩ = some pv) (hP : RdI w0 pv P) (hPn : P.length ≤ 1000000)
  (hc : w.cell? ⟨ab, 0, none⟩ = some (.int .i64 ((m : Int) - 1))) (hf : w.frozen? ⟨ab, 0, none⟩ = false) (hm : m ≤ 1000000) :
  Calls Tryd.prog 98 #[aggI y va, .pointer (some ⟨ab, 0, none⟩), .pointer (some ⟨pb, 0, none⟩)] w fun e w' => e = .returned (.bool (hasL P m)) ∧ w'.cell? ⟨ab, 0, none⟩ = some (.int .i64 (m : Int)) ∧ w'.frozen? ⟨ab, 0, none⟩ = false ∧ But ab w w' := by
 have labw := World.block_lt_of_cell? w _ hc
 have lpb := World.block_lt_of_cell? w0 _ hp
 have HC : Hid (∀ w', Ext w0 w' → Calls Tryd.prog 99 #[pv, .int .i64 (m : Int)] w' fun e w'' => e = .returned (.bool (hasL P m)) ∧ w'' = w') := fun w' he => contains_i P pv m w' (hP.ext he) hPn
 have HB := Lib.hid hb
 have hz := hb.size
 have hpw := (hb.cell (p := ⟨pb, 0, none⟩) lpb).trans hp
 have hne : pb ≠ ab := by have : pb < w0.heap.size := lpb; omega
 have lpw : pb < w.heap.size := World.block_lt_of_cell? w _ hpw
 unfold aggI
 clear hb hP
 go_enter Tryd.func98, Tryd.ntmps98
 have B1 : Hid (∀ (u : Value) (o : Obj), Below w0.heap.size w0 ((w.setCell ⟨ab, 0, none⟩ u).alloc o)) := fun u o => (HB.out.setCell (p := ⟨ab, 0, none⟩) hab u).alloc (by simp; omega) o
 have B2 : Hid (∀ (u : Value) (o : Obj), But ab w ((w.setCell ⟨ab, 0, none⟩ u).alloc o)) := fun u o => (But.setCell ab 0 w u).trans (But.below (below_alloc _ o))
 have C1 : Hid (∀ (u : Value) (o : Obj), ((w.setCell ⟨ab, 0, none⟩ u).alloc o).cell? ⟨ab, 0, none⟩ = some u) := fun u o => Ext.alloc _ o _ _ (World.cell?_setCell_same' _ _ _ (by rw [hc]; rfl))
 have C2 : Hid (∀ (u : Value) (o : Obj), ((w.setCell ⟨ab, 0, none⟩ u).alloc o).frozen? ⟨ab, 0, none⟩ = false) := fun u o => (World.frozen?_of_block (w := w.setCell ⟨ab, 0, none⟩ u) (Below.heap_alloc _ o ab (by simp; omega))).trans (by rw [World.frozen?_setCell]; exact hf)
 go_wp2_with (go_at_call 99; refine (HC.out _ (Ext.below (B1.out _ _))).mono ?_; rintro e w1 ⟨rfl, rfl⟩)
 go_ret
 exact ⟨rfl, C1.out _ _, C2.out _ _, B2.out _ _⟩
/-- a row of instructions as cells of the call's own; the rows of their arguments lie elsewhere -/
def OwnC (w : World) (B : Nat) (v : Value) (L : List (In × Value)) : Prop := w.ownsRow B 45 11 v L.length (L.flatMap inCells)
theorem flat_atI (L : List (In × Value)) : ∀ (k j : Nat), k < L.length → j < 11 → (L.flatMap inCells)[k * 11 + j]? = (inCells (L.getD k default))[j]? := by
 induction L with
 | nil => intro k j h; simp at h
 | cons y L ih =>
  intro k j hk hj
  rw [List.flatMap_cons]
  cases k with
  | zero => rw [List.getElem?_append_left (by simp [inCells]; omega)]; simp
  | succ k =>
   rw [List.getElem?_append_right (by simp [inCells]; omega)]
   have := ih k j (by simpa using hk) hj
   simp only [List.getD_cons_succ]
   rw [← this]
   congr 1
   simp [inCells]
   omega
theorem OwnC.at {w : World} {B : Nat} {v : Value} {L : List (In × Value)} (h : OwnC w B v L) {k : Nat} (hk : k < L.length) : ∃ g c, v = .slice (some ⟨g, 0, none⟩) L.length c ∧ L.length ≤ c ∧ c ≤ maxLen ∧ g < w.heap.size ∧ B ≤ g ∧ (∀ o, w.frozen? ⟨g, o, none⟩ = false) ∧
  (∀ k, k < L.length → ∀ j, j < 11 → w.cell? ⟨g, k * 11 + j, none⟩ = (inCells (L.getD k default))[j]?) := by
 have h' := h
 obtain ⟨h1, ⟨rfl, h2⟩ | ⟨g, cap, cur, rfl, hb, hg, hn, hc, hcs, ht⟩⟩ := h'
 ·omega
 ·refine ⟨g, cap, rfl, hn, hc, (Array.getElem?_eq_some_iff.1 hg).1, hb, fun o => frozen_of_heap hg o, fun k hk j hj => ?_⟩
  have hlt : k * 11 + j < L.length * 11 := by omega
  rw [World.ownsRow.cellAt h _ (by omega), flat_atI L k j hk hj]
theorem OwnC.keep {w w' : World} {B : Nat} {v : Value} {L : List (In × Value)} {g : Nat} (h : OwnC w B v L) (hb : But g w w') (hg : v.ownBlock ≠ some g) : OwnC w' B v L :=
 World.ownsRow.kept h ⟨hb.os, hb.tape, hb.output, hb.size, fun k hk hne => hb.block k hk (fun e => hne (by rw [e]))⟩ (.inr hg)
/-- before a call of the test -/
structure AtS (w0 : World) (ab : Nat) (m : Nat) (w : World) : Prop where
 below : Below w0.heap.size w0 w
 cell : w.cell? ⟨ab, 0, none⟩ = some (.int .i64 ((m : Int) - 1))
 frz : w.frozen? ⟨ab, 0, none⟩ = false
theorem AtS.next {w0 w w' : World} {ab m : Nat} (h : AtS w0 ab m w) (hab : w0.heap.size ≤ ab) (h1 : w'.cell? ⟨ab, 0, none⟩ = some (.int .i64 (m : Int))) (h2 : w'.frozen? ⟨ab, 0, none⟩ = false) (h3 : But ab w w') : AtS w0 ab (m + 1) w' :=
 ⟨h.below.trans (h3.toBelow hab h.below.size), by rw [h1]; congr 2; omega, h2⟩
theorem findf_c (P : List Int) (pv : Value) (pb ab : Nat) (L : List (In × Value)) (v : Value) (B : Nat) (w0 w : World) (hab : w0.heap.size ≤ ab) (hp : w0.cell? ⟨pb, 0, none⟩ = some pv) (hP : RdI w0 pv P) (hPn : P.length ≤ 1000000)
  (hO : OwnC w B v L) (hv : v.ownBlock ≠ some ab) (hA : AtS w0 ab 0 w) (hn : L.length ≤ 1000000) :
  Calls Tryd.prog 113 #[v, .func (.func 98) #[] #[.pointer (some ⟨ab, 0, none⟩), .pointer (some ⟨pb, 0, none⟩)]] w fun e w' =>
   ∃ r : Int, e = .returned (.int .i64 r) ∧ But ab w w' ∧ ((r = -1 ∧ ∀ j : Nat, j < L.length → hasL P (j : Int) = false) ∨ ∃ k : Nat, k < L.length ∧ r = (k : Int) ∧ hasL P (k : Int) = true ∧ (∀ j : Nat, j < k → hasL P (j : Int) = false) ∧ AtS w0 ab (k + 1) w') := by
 obtain ⟨a, c, hform⟩ := row_form hO
 have HF := Lib.hid hform
 subst hform
 have HO := Lib.hid hO
 have HA := Lib.hid hA
 have HT : Hid (∀ (y : In) (va : Value) (m : Nat) (w : World), AtS w0 ab m w → m ≤ 1000000 → Calls Tryd.prog 98 #[aggI y va, .pointer (some ⟨ab, 0, none⟩), .pointer (some ⟨pb, 0, none⟩)] w fun e w' => e = .returned (.bool (hasL P m)) ∧ w'.cell? ⟨ab, 0, none⟩ = some (.int .i64 (m : Int)) ∧ w'.frozen? ⟨ab, 0, none⟩ = false ∧ But ab w w') :=
  fun y va m w h hm => wo1_c y va ab pb pv P m w0 w h.below hab hp hP hPn h.cell h.frz hm
 clear hO hA hp hP
 unfold aggI at HT
 go_enter Tryd.func113, Tryd.ntmps113
 go_wp2_with fail
 go_loopw [8] (fun i wr => ∃ k : Nat, k ≤ L.length ∧ i = .int .i64 (k : Int) ∧ Hid (But ab w wr) ∧ Hid (AtS w0 ab k wr) ∧ Hid (∀ j : Nat, j < k → hasL P (j : Int) = false)) (fun i _ => L.length - (intOf i).toNat)
 case atStart => exact ⟨0, Nat.zero_le _, rfl, But.refl _ _, HA, fun j hj => absurd hj (Nat.not_lt_zero j)⟩
 case round =>
  obtain ⟨k, hk, rfl, hB, hA, hN⟩ := hrel
  by_cases hlt : k < L.length
  ·obtain ⟨g, c', e1, hc1, hc2, hg, -, -, hcell⟩ := (HO.out.keep hB.out hv).at hlt
   simp only [Value.slice.injEq, true_and] at e1
   obtain ⟨rfl, rfl⟩ := e1
   unfold maxLen at hc2
   have d0 := hcell k hlt 0 (by decide)
   have d1 := hcell k hlt 1 (by decide)
   have d2 := hcell k hlt 2 (by decide)
   have d3 := hcell k hlt 3 (by decide)
   have d4 := hcell k hlt 4 (by decide)
   have d5 := hcell k hlt 5 (by decide)
   have d6 := hcell k hlt 6 (by decide)
   have d7 := hcell k hlt 7 (by decide)
   have d8 := hcell k hlt 8 (by decide)
   have d9 := hcell k hlt 9 (by decide)
   have d10 := hcell k hlt 10 (by decide)
   clear hcell
   generalize L.getD k default = y at *
   simp only [inCells, List.getElem?_cons_zero, List.getElem?_cons_succ, Nat.add_zero] at d0 d1 d2 d3 d4 d5 d6 d7 d8 d9 d10
   have hk6 : k ≤ 1000000 := by omega
   have HTk := Lib.hid (HT.out y.1 y.2 k wr hA.out hk6)
   cases hh : hasL P (k : Int)
   ·rw [hh] at HTk
    have HNX : Hid (∀ j : Nat, j < k + 1 → hasL P (j : Int) = false) := fun j hj => by
     by_cases e : j = k
     ·subst e; exact hh
     ·exact hN.out j (by omega)
    clear hh
    go_wp2_with (go_at_call 98; refine HTk.out.mono ?_; rintro e w3 ⟨rfl, h1, h2, h3⟩; have HA3 := Lib.hid (hA.out.next hab h1 h2 h3); have HB3 := Lib.hid (hB.out.trans h3); clear h1 h2 h3)
    go_roundw
    case rel => exact ⟨k + 1, by omega, by go_num, HB3, HA3, HNX⟩
    case measure => simp [intOf]; omega
   ·rw [hh] at HTk
    have HH := Lib.hid hh
    clear hh
    go_wp2_with (go_at_call 98; refine HTk.out.mono ?_; rintro e w3 ⟨rfl, h1, h2, h3⟩; have HA3 := Lib.hid (hA.out.next hab h1 h2 h3); have HB3 := Lib.hid (hB.out.trans h3); clear h1 h2 h3)
    go_ret
    exact ⟨_, rfl, HB3.out, .inr ⟨k, hlt, rfl, HH.out, hN.out, HA3.out⟩⟩
  ·obtain rfl : k = L.length := by omega
   go_wp2_with fail
   go_ret
   exact ⟨_, rfl, hB.out, .inl ⟨rfl, hN.out⟩⟩
/-! ### slices.DeleteFunc over instructions -/
/-- what is left of the first j -/
def keepX (P : List Int) (L : List (In × Value)) (j : Nat) : List (In × Value) := ((List.range j).filter fun t : Nat => !hasL P (t : Int)).map fun t => L.getD t default
theorem keepX_succ (P : List Int) (L : List (In × Value)) (j : Nat) : keepX P L (j + 1) = keepX P L j ++ (if hasL P (j : Int) = true then [] else [L.getD j default]) := by
 unfold keepX
 rw [List.range_succ, List.filter_append, List.map_append]
 congr 1
 cases e : hasL P (j : Int) <;> simp [e]
theorem keepX_none (P : List Int) (L : List (In × Value)) : ∀ (k : Nat), k ≤ L.length → (∀ j : Nat, j < k → hasL P (j : Int) = false) → keepX P L k = L.take k
 | 0, _, _ => rfl
 | k + 1, hk, h => by
  rw [keepX_succ, keepX_none P L k (by omega) (fun j hj => h j (by omega)), h k (by omega), List.take_succ_eq_append_getElem (by omega)]
  simp [List.getD, show k < L.length by omega]
structure DelX (P : List Int) (L cur : List (In × Value)) (i j : Nat) : Prop where
 lt : i < j
 le : j ≤ L.length
 len : cur.length = L.length
 front : cur.take i = keepX P L j
 back : ∀ t, j ≤ t → cur.getD t default = L.getD t default
theorem DelX.start {P : List Int} {L : List (In × Value)} {k : Nat} (hk : k < L.length) (hp : hasL P (k : Int) = true) (h : ∀ j : Nat, j < k → hasL P (j : Int) = false) : DelX P L L k (k + 1) := by
 refine ⟨by omega, hk, rfl, ?_, fun _ _ => rfl⟩
 rw [keepX_succ, keepX_none P L k (by omega) h, hp]
 simp
theorem DelX.drop {P : List Int} {L cur : List (In × Value)} {i j : Nat} (h : DelX P L cur i j) (hj : j < L.length) (hp : hasL P (j : Int) = true) : DelX P L cur i (j + 1) :=
 ⟨by have := h.lt; omega, hj, h.len, by rw [keepX_succ, hp, h.front]; simp, fun t ht => h.back t (by omega)⟩
theorem DelX.keep {P : List Int} {L cur : List (In × Value)} {i j : Nat} (h : DelX P L cur i j) (hj : j < L.length) (hp : hasL P (j : Int) = false) : DelX P L (cur.set i (L.getD j default)) (i + 1) (j + 1) := by
 have h1 := h.lt
 have h2 := h.len
 refine ⟨by omega, hj, by simpa using h.len, ?_, fun t ht => ?_⟩
 ·rw [keepX_succ, hp, ← h.front, List.take_succ_eq_append_getElem (by simp; omega)]
  simp [List.take_set_of_le]
 ·rw [← h.back t (by omega)]
  simp [List.getD, List.getElem?_set, show i ≠ t by omega]
/-- eleven cells: one instruction laid over another -/
theorem OwnC.lay {w : World} {B g c n : Nat} {L : List (In × Value)} (h : OwnC w B (.slice (some ⟨g, 0, none⟩) n c) L) {i : Nat} (hi : i < L.length) (x : In × Value) (hn : n = L.length) :
  OwnC (((((((((((w.setCell ⟨g, i * 11, none⟩ (.int .i64 x.1.op)).setCell ⟨g, i * 11 + 1, none⟩ (.int .i64 x.1.d)).setCell ⟨g, i * 11 + 2, none⟩ (.int .i64 x.1.a)).setCell ⟨g, i * 11 + 3, none⟩ (.int .i64 x.1.b)).setCell ⟨g, i * 11 + 4, none⟩ (.int .i64 x.1.fn)).setCell ⟨g, i * 11 + 5, none⟩ (.int .i64 x.1.obj)).setCell ⟨g, i * 11 + 6, none⟩ (.int .i64 x.1.off)).setCell ⟨g, i * 11 + 7, none⟩ (.int .i64 x.1.size)).setCell ⟨g, i * 11 + 8, none⟩ (.int .u32 x.1.num)).setCell ⟨g, i * 11 + 9, none⟩ x.2).setCell ⟨g, i * 11 + 10, none⟩ (.bool x.1.log)) B (.slice (some ⟨g, 0, none⟩) n c) (L.set i x) := by
 subst hn
 unfold OwnC at *
 have st := fun (w : World) (xs : List Value) (hw : w.ownsRow B 45 11 (.slice (some ⟨g, 0, none⟩) L.length c) L.length xs) (j : Nat) (u : Value) => (World.ownsRow.stored hw j u).1
 have h10 := st _ _ (st _ _ (st _ _ (st _ _ (st _ _ (st _ _ (st _ _ (st _ _ (st _ _ (st _ _ (st _ _ h (i * 11) (.int .i64 x.1.op)) (i * 11 + 1) (.int .i64 x.1.d)) (i * 11 + 2) (.int .i64 x.1.a)) (i * 11 + 3) (.int .i64 x.1.b)) (i * 11 + 4) (.int .i64 x.1.fn)) (i * 11 + 5) (.int .i64 x.1.obj)) (i * 11 + 6) (.int .i64 x.1.off)) (i * 11 + 7) (.int .i64 x.1.size)) (i * 11 + 8) (.int .u32 x.1.num)) (i * 11 + 9) x.2) (i * 11 + 10) (.bool x.1.log)
 rw [List.length_set]
 have e : (((((((((((L.flatMap inCells).set (i * 11) (.int .i64 x.1.op)).set (i * 11 + 1) (.int .i64 x.1.d)).set (i * 11 + 2) (.int .i64 x.1.a)).set (i * 11 + 3) (.int .i64 x.1.b)).set (i * 11 + 4) (.int .i64 x.1.fn)).set (i * 11 + 5) (.int .i64 x.1.obj)).set (i * 11 + 6) (.int .i64 x.1.off)).set (i * 11 + 7) (.int .i64 x.1.size)).set (i * 11 + 8) (.int .u32 x.1.num)).set (i * 11 + 9) x.2).set (i * 11 + 10) (.bool x.1.log) = (L.set i x).flatMap inCells := by
  apply List.ext_getElem?
  intro t
  have hlen : ∀ L : List (In × Value), (L.flatMap inCells).length = L.length * 11 := fun L => flat_len inCells 11 (fun _ => rfl) L
  by_cases ht : t < L.length * 11
  ·obtain ⟨q, r, hr, rfl⟩ : ∃ q r, r < 11 ∧ t = q * 11 + r := ⟨t / 11, t % 11, Nat.mod_lt _ (by decide), by omega⟩
   have hq : q < L.length := by omega
   rw [flat_atI (L.set i x) q r (by simpa using hq) hr]
   by_cases e : q = i
   ·subst e
    have e1 : (L.set q x).getD q default = x := by simp [List.getD, hq]
    rw [e1]
    have hlt : ∀ j, j < 11 → q * 11 + j < (L.flatMap inCells).length := fun j hj => by rw [hlen]; omega
    have hr2 : r = 0 ∨ r = 1 ∨ r = 2 ∨ r = 3 ∨ r = 4 ∨ r = 5 ∨ r = 6 ∨ r = 7 ∨ r = 8 ∨ r = 9 ∨ r = 10 := by omega
    have l0 := hlt 0 (by decide)
    rcases hr2 with rfl | rfl | rfl | rfl | rfl | rfl | rfl | rfl | rfl | rfl | rfl <;> simp [List.getElem?_set, inCells, hlen] <;> omega
   ·have e1 : (L.set i x).getD q default = L.getD q default := by simp [List.getD, List.getElem?_set, Ne.symm e]
    rw [e1, ← flat_atI L q r hq hr]
    have hne : ∀ j, j < 11 → i * 11 + j ≠ q * 11 + r := fun j hj h => e (by omega)
    have hne0 := hne 0 (by decide)
    simp only [Nat.add_zero] at hne0
    simp [List.getElem?_set, hne0, hne 1 (by decide), hne 2 (by decide), hne 3 (by decide), hne 4 (by decide), hne 5 (by decide), hne 6 (by decide), hne 7 (by decide), hne 8 (by decide), hne 9 (by decide), hne 10 (by decide)]
  ·rw [List.getElem?_eq_none (by simp [hlen]; omega), List.getElem?_eq_none (by simp [hlen]; omega)]
 rw [← e]
 exact h10
end Go.Proofs.YtnnhobbabcfogaaDoor
