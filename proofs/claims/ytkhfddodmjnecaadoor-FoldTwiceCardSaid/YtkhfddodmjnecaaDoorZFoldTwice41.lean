/-
 Contracts: is a store hidden by what comes behind it; the document's idle instructions and stores; places of which something holds.; Contracts: the document's idle instructions and stores; places of which something holds.; Contract of dead's Stores.; Contract of dead's Idle.; Contracts: is a number in a list (slices.Index, Contains); the test that counts its calls (dead's without); slices.IndexFunc over instructions.; What is known stands as numbers: small functions, and rows of blocks and of instructions while they are written.
-/
import Derived.Test.YtkhfddodmjnecaaDoorZFoldTwice10
import Derived.Test.YtkhfddodmjnecaaDoorZFoldTwice07
import Derived.Test.YtkhfddodmjnecaaDoorZFoldTwice17
import Derived.Test.YtkhfddodmjnecaaDoorZFoldTwice38
import Derived.Test.YtkhfddodmjnecaaDoorZFoldTwice32
import Derived.Test.YtkhfddodmjnecaaDoorZFoldTwice30

set_option linter.all false
namespace Go.Proofs.YtkhfddodmjnecaaDoor
open Go.ChangeShapes Go.WideShapes Go.ChangeAt Go.RowKit
set_option maxHeartbeats 4000000
set_option maxRecDepth 100000
set_option linter.unusedVariables false

end Go.Proofs.YtkhfddodmjnecaaDoor

set_option linter.all false
namespace Go.Proofs.YtkhfddodmjnecaaDoor
open Go.ChangeShapes Go.WideShapes Go.ChangeAt Go.RowKit
set_option maxHeartbeats 4000000
set_option maxRecDepth 100000
set_option linter.unusedVariables false

end Go.Proofs.YtkhfddodmjnecaaDoor

set_option linter.all false
namespace Go.Proofs.YtkhfddodmjnecaaDoor
open Go.ChangeShapes Go.WideShapes Go.ChangeAt Go.RowKit
set_option maxHeartbeats 4000000
set_option maxRecDepth 100000
set_option linter.unusedVariables false

end Go.Proofs.YtkhfddodmjnecaaDoor

set_option linter.all false
namespace Go.Proofs.YtkhfddodmjnecaaDoor
open Go.ChangeShapes Go.WideShapes Go.ChangeAt Go.RowKit
set_option maxHeartbeats 4000000
set_option maxRecDepth 100000
set_option linter.unusedVariables false
attribute [local go_sem] Oper.semAt_some

section
variable {W0 w w' : World} {gP B n : Nat} {vs : List Value} {rows : List (List Int)}
end
section
variable {W0 w4 W W' : World} {gP lo n : Nat} {ds : List Nat} {F : Nat → List Int} {k : Nat} {r : List Int} {pre : List EX} {vs : List Value}
end
end Go.Proofs.YtkhfddodmjnecaaDoor

set_option linter.all false
namespace Go.Proofs.YtkhfddodmjnecaaDoor
open Go.ChangeShapes Go.WideShapes Go.ChangeAt Go.RowKit
set_option maxHeartbeats 4000000
set_option maxRecDepth 100000
set_option linter.unusedVariables false

/-- a row of instructions as cells of the call's own; the rows of their arguments lie elsewhere -/
def OwnC (w : World) (B : Nat) (v : Value) (L : List (In × Value)) : Prop := w.ownsRow B 40 11 v L.length (L.flatMap inCells)
theorem flat_atI (L : List (In × Value)) : ∀ (k j : Nat), k < L.length → j < 11 → (L.flatMap inCells)[k * 11 + j]? = (inCells (L.getD k default))[j]? := by
 induction L with
 | nil => intro k j h; simp at h
 | cons y L ih =>
  intro k j hk hj
  rw [List.flatMap_cons]
  cases k with
  | zero => rw [List.getElem?_append_left (by simp [inCells]; omega)]; simp
  | succ k =>
   rw [List.getElem?_append_right (by simp [inCells]; omega)]
   have := ih k j (by simpa using hk) hj
   simp only [List.getD_cons_succ]
   rw [← this]
   congr 1
   simp [inCells]
   omega
/-! ### slices.DeleteFunc over instructions -/
/-- eleven cells: one instruction laid over another -/
theorem OwnC.lay {w : World} {B g c n : Nat} {L : List (In × Value)} (h : OwnC w B (.slice (some ⟨g, 0, none⟩) n c) L) {i : Nat} (hi : i < L.length) (x : In × Value) (hn : n = L.length) :
  OwnC (((((((((((w.setCell ⟨g, i * 11, none⟩ (.int .i64 x.1.op)).setCell ⟨g, i * 11 + 1, none⟩ (.int .i64 x.1.d)).setCell ⟨g, i * 11 + 2, none⟩ (.int .i64 x.1.a)).setCell ⟨g, i * 11 + 3, none⟩ (.int .i64 x.1.b)).setCell ⟨g, i * 11 + 4, none⟩ (.int .i64 x.1.fn)).setCell ⟨g, i * 11 + 5, none⟩ (.int .i64 x.1.obj)).setCell ⟨g, i * 11 + 6, none⟩ (.int .i64 x.1.off)).setCell ⟨g, i * 11 + 7, none⟩ (.int .i64 x.1.size)).setCell ⟨g, i * 11 + 8, none⟩ (.int .u32 x.1.num)).setCell ⟨g, i * 11 + 9, none⟩ x.2).setCell ⟨g, i * 11 + 10, none⟩ (.bool x.1.log)) B (.slice (some ⟨g, 0, none⟩) n c) (L.set i x) := by
 subst hn
 unfold OwnC at *
 have st := fun (w : World) (xs : List Value) (hw : w.ownsRow B 40 11 (.slice (some ⟨g, 0, none⟩) L.length c) L.length xs) (j : Nat) (u : Value) => (World.ownsRow.stored hw j u).1
 have h10 := st _ _ (st _ _ (st _ _ (st _ _ (st _ _ (st _ _ (st _ _ (st _ _ (st _ _ (st _ _ (st _ _ h (i * 11) (.int .i64 x.1.op)) (i * 11 + 1) (.int .i64 x.1.d)) (i * 11 + 2) (.int .i64 x.1.a)) (i * 11 + 3) (.int .i64 x.1.b)) (i * 11 + 4) (.int .i64 x.1.fn)) (i * 11 + 5) (.int .i64 x.1.obj)) (i * 11 + 6) (.int .i64 x.1.off)) (i * 11 + 7) (.int .i64 x.1.size)) (i * 11 + 8) (.int .u32 x.1.num)) (i * 11 + 9) x.2) (i * 11 + 10) (.bool x.1.log)
 rw [List.length_set]
 have e : (((((((((((L.flatMap inCells).set (i * 11) (.int .i64 x.1.op)).set (i * 11 + 1) (.int .i64 x.1.d)).set (i * 11 + 2) (.int .i64 x.1.a)).set (i * 11 + 3) (.int .i64 x.1.b)).set (i * 11 + 4) (.int .i64 x.1.fn)).set (i * 11 + 5) (.int .i64 x.1.obj)).set (i * 11 + 6) (.int .i64 x.1.off)).set (i * 11 + 7) (.int .i64 x.1.size)).set (i * 11 + 8) (.int .u32 x.1.num)).set (i * 11 + 9) x.2).set (i * 11 + 10) (.bool x.1.log) = (L.set i x).flatMap inCells := by
  apply List.ext_getElem?
  intro t
  have hlen : ∀ L : List (In × Value), (L.flatMap inCells).length = L.length * 11 := fun L => flat_len inCells 11 (fun _ => rfl) L
  by_cases ht : t < L.length * 11
  ·obtain ⟨q, r, hr, rfl⟩ : ∃ q r, r < 11 ∧ t = q * 11 + r := ⟨t / 11, t % 11, Nat.mod_lt _ (by decide), by omega⟩
   have hq : q < L.length := by omega
   rw [flat_atI (L.set i x) q r (by simpa using hq) hr]
   by_cases e : q = i
   ·subst e
    have e1 : (L.set q x).getD q default = x := by simp [List.getD, hq]
    rw [e1]
    have hlt : ∀ j, j < 11 → q * 11 + j < (L.flatMap inCells).length := fun j hj => by rw [hlen]; omega
    have hr2 : r = 0 ∨ r = 1 ∨ r = 2 ∨ r = 3 ∨ r = 4 ∨ r = 5 ∨ r = 6 ∨ r = 7 ∨ r = 8 ∨ r = 9 ∨ r = 10 := by omega
    have l0 := hlt 0 (by decide)
    rcases hr2 with rfl | rfl | rfl | rfl | rfl | rfl | rfl | rfl | rfl | rfl | rfl <;> simp [List.getElem?_set, inCells, hlen] <;> omega
   ·have e1 : (L.set i x).getD q default = L.getD q default := by simp [List.getD, List.getElem?_set, Ne.symm e]
    rw [e1, ← flat_atI L q r hq hr]
    have hne : ∀ j, j < 11 → i * 11 + j ≠ q * 11 + r := fun j hj h => e (by omega)
    have hne0 := hne 0 (by decide)
    simp only [Nat.add_zero] at hne0
    simp [List.getElem?_set, hne0, hne 1 (by decide), hne 2 (by decide), hne 3 (by decide), hne 4 (by decide), hne 5 (by decide), hne 6 (by decide), hne 7 (by decide), hne 8 (by decide), hne 9 (by decide), hne 10 (by decide)]
  ·rw [List.getElem?_eq_none (by simp [hlen]; omega), List.getElem?_eq_none (by simp [hlen]; omega)]
 rw [← e]
 exact h10
end Go.Proofs.YtkhfddodmjnecaaDoor

set_option linter.all false
namespace Go.Proofs.YtkhfddodmjnecaaDoor
open Go.ChangeShapes Go.WideShapes Go.ChangeAt Go.RowKit
set_option maxHeartbeats 4000000
set_option maxRecDepth 100000
set_option linter.unusedVariables false

theorem constant_c (d n : Int) (w : World) :
  Calls Tryd.prog 18 #[.int .i64 d, .int .u32 n] w fun e w' => e = .returned (.agg #[.int .i64 1, .int .i64 d, .int .i64 (-1), .int .i64 (-1), .int .i64 0, .int .i64 0, .int .i64 0, .int .i64 0, .int .u32 n, .slice none 0 0, .bool false]) ∧ Below w.heap.size w w' := by
 go_enter Tryd.func18, Tryd.ntmps18
 go_wp2_with fail
 refine bodyPost_ret (v := .agg #[.int .i64 1, .int .i64 d, .int .i64 (-1), .int .i64 (-1), .int .i64 0, .int .i64 0, .int .i64 0, .int .i64 0, .int .u32 n, .slice none 0 0, .bool false]) (by simp [results, Tryd.results18, go_sem]) rfl ?_
 exact ⟨rfl, below_alloc _ _⟩
theorem jumped_c (a : Option Addr) (m c : Nat) (fin ba t3 els n : Int) (w : World) :
  Calls Tryd.prog 19 #[.agg #[.slice a m c, .int .i64 fin, .int .i64 ba, .int .i64 t3, .int .i64 els], .int .u32 n] w fun e w' => e = .returned (.agg #[.slice a m c, .int .i64 1, .int .i64 (-1), .int .i64 (if n = 0 then els else t3), .int .i64 0]) ∧ Below w.heap.size w w' := by
 by_cases hn : n = 0
 ·have g : (n == 0) = true := beq_iff_eq.2 hn
  rw [if_pos hn]
  clear hn
  go_enter Tryd.func19, Tryd.ntmps19
  go_wp2_with fail
  refine bodyPost_ret (v := .agg #[.slice a m c, .int .i64 1, .int .i64 (-1), .int .i64 els, .int .i64 0]) (by simp [results, Tryd.results19, go_sem]) rfl ?_
  exact ⟨rfl, (below_alloc w _).alloc (by simp) _⟩
 ·have g : (n == 0) = false := beq_eq_false_iff_ne.2 hn
  rw [if_neg hn]
  clear hn
  go_enter Tryd.func19, Tryd.ntmps19
  go_wp2_with fail
  refine bodyPost_ret (v := .agg #[.slice a m c, .int .i64 1, .int .i64 (-1), .int .i64 t3, .int .i64 0]) (by simp [results, Tryd.results19, go_sem]) rfl ?_
  exact ⟨rfl, (below_alloc w _).alloc (by simp) _⟩
/-- a block's instructions: as they were, or a row of one's own that does not lie at g -/
def KrP (w0 w : World) (g : Nat) (x : Bk × Value) : Prop := RdIns w0 x.2 x.1.ins ∨ ∃ LI : List (In × Value), LI.map Prod.fst = x.1.ins ∧ (∀ y ∈ LI, RdI w0 y.2 y.1.args) ∧ w.ownsRow 0 40 11 x.2 LI.length (LI.flatMap inCells) ∧ x.2.ownBlock ≠ some g
theorem KrP.rd {w0 w : World} {g : Nat} {x : Bk × Value} (h : KrP w0 w g x) (he : Ext w0 w) : RdIns w x.2 x.1.ins := by
 rcases h with h | ⟨LI, h1, h2, h3, -⟩
 ·exact h.ext he
 ·rw [← h1]
  exact OwnIn.rd (B := 0) ⟨h3, fun y hy => (h2 y hy).ext he⟩
theorem KrP.keep {w0 w w' : World} {g b : Nat} {x : Bk × Value} (h : KrP w0 w g x) (hb : But b w w') (hn : x.2.ownBlock ≠ some b ∨ ∃ cs ty, w.heap[b]? = some (.cells cs ty) ∧ ty ≠ 40) : KrP w0 w' g x := by
 rcases h with h | ⟨LI, h1, h2, h3, h4⟩
 ·exact .inl h
 ·refine .inr ⟨LI, h1, h2, World.ownsRow.kept h3 (but_grownK hb) (.inr ?_), h4⟩
  rcases hn with h | ⟨cs, ty, hc, ht⟩
  ·exact h
  ·exact row_not h3 hc (Ne.symm ht)
theorem KrP.below {w0 w w' : World} {g : Nat} {x : Bk × Value} (h : KrP w0 w g x) (hb : Below w.heap.size w w') : KrP w0 w' g x := by
 rcases h with h | ⟨LI, h1, h2, h3, h4⟩
 ·exact .inl h
 ·exact .inr ⟨LI, h1, h2, own_below h3 hb, h4⟩
/-- .. it does not lie at what is no row of instructions, or beyond what there was -/
theorem KrP.other {w0 w : World} {g g' : Nat} {x : Bk × Value} (h : KrP w0 w g x) (hn : w.heap.size ≤ g' ∨ ∃ cs ty, w.heap[g']? = some (.cells cs ty) ∧ ty ≠ 40) : KrP w0 w g' x := by
 rcases h with h | ⟨LI, h1, h2, h3, h4⟩
 ·exact .inl h
 ·refine .inr ⟨LI, h1, h2, h3, ?_⟩
  rcases hn with h | ⟨cs, ty, hc, ht⟩
  ·intro e
   have := (own_lt h3 e).2
   omega
  ·exact row_not h3 hc (Ne.symm ht)
/-- the row of blocks; all instructions but those of block k can be read, and do not lie at g -/
structure KbM (w0 : World) (B : Nat) (w : World) (gB cB : Nat) (L : List (Bk × Value)) (k g : Nat) : Prop where
 own : w.ownsRow B 43 5 (.slice (some ⟨gB, 0, none⟩) L.length cB) L.length (L.flatMap bkCells)
 ins : ∀ j, j < L.length → j ≠ k → KrP w0 w g (L.getD j default)
theorem KbM.below {w0 w w' : World} {B gB cB k g : Nat} {L : List (Bk × Value)} (h : KbM w0 B w gB cB L k g) (hb : Below w.heap.size w w') : KbM w0 B w' gB cB L k g := ⟨own_below h.own hb, fun j hj hk => (h.ins j hj hk).below hb⟩
theorem KbM.heap {w0 w : World} {B gB cB k g : Nat} {L : List (Bk × Value)} (h : KbM w0 B w gB cB L k g) (hl : 0 < L.length) : B ≤ gB ∧ ∃ cs, w.heap[gB]? = some (.cells cs 43) := own_heap h.own hl
/-- .. while a block of another type turns, or g itself -/
theorem KbM.keep {w0 w w' : World} {B gB cB k g b : Nat} {L : List (Bk × Value)} (h : KbM w0 B w gB cB L k g) (hb : But b w w') {cs : Array Value} {ty : TypeId} (hc : w.heap[b]? = some (.cells cs ty)) (h1 : ty ≠ 43) (h2 : ty ≠ 40 ∨ ∀ j, j < L.length → j ≠ k → (L.getD j default).2.ownBlock ≠ some b ∨ RdIns w0 (L.getD j default).2 (L.getD j default).1.ins) : KbM w0 B w' gB cB L k g := by
 refine ⟨World.ownsRow.kept h.own (but_grownK hb) (.inr (row_not h.own hc (Ne.symm h1))), fun j hj hk => ?_⟩
 have hk' := h.ins j hj hk
 rcases h2 with h2 | h2
 ·exact hk'.keep hb (.inr ⟨cs, ty, hc, h2⟩)
 ·rcases h2 j hj hk with e | e
  ·exact hk'.keep hb (.inl e)
  ·exact .inl e
theorem KbM.away {w0 w : World} {B gB cB k g : Nat} {L : List (Bk × Value)} (h : KbM w0 B w gB cB L k g) {j : Nat} (hj : j < L.length) (hk : j ≠ k) : (L.getD j default).2.ownBlock ≠ some g ∨ RdIns w0 (L.getD j default).2 (L.getD j default).1.ins := by
 rcases h.ins j hj hk with q | ⟨LI, h1, h2, h3, h4⟩
 ·exact .inr q
 ·exact .inl h4
/-- a block's five cells -/
theorem KbM.at {w0 w : World} {B gB cB k g : Nat} {L : List (Bk × Value)} (h : KbM w0 B w gB cB L k g) {j : Nat} (hj : j < L.length) : w.cell? ⟨gB, j * 5, none⟩ = some (L.getD j default).2 ∧ w.cell? ⟨gB, j * 5 + 1, none⟩ = some (.int .i64 (L.getD j default).1.fin) ∧ w.cell? ⟨gB, j * 5 + 2, none⟩ = some (.int .i64 (L.getD j default).1.a) ∧ w.cell? ⟨gB, j * 5 + 3, none⟩ = some (.int .i64 (L.getD j default).1.to) ∧ w.cell? ⟨gB, j * 5 + 4, none⟩ = some (.int .i64 (L.getD j default).1.els) ∧ (∀ o, w.frozen? ⟨gB, o, none⟩ = false) ∧ gB < w.heap.size := by
 have f := fun r (hr : r < 5) => flat_at bkCells 5 (fun _ => rfl) L j r hj hr
 have c := fun r (hr : r < 5) => (World.ownsRow.cellAt h.own (j * 5 + r) (by omega)).trans (f r hr)
 obtain ⟨-, cs, hc⟩ := h.heap (by omega)
 exact ⟨c 0 (by decide), c 1 (by decide), c 2 (by decide), c 3 (by decide), c 4 (by decide), fun o => frozen_of_heap hc o, (Array.getElem?_eq_some_iff.1 hc).1⟩
/-- a cell of block k is written -/
theorem KbM.put {w0 w : World} {B gB cB k g : Nat} {L : List (Bk × Value)} (h : KbM w0 B w gB cB L k g) (hk : k < L.length) {j : Nat} (hj : j < 5) {u : Value} {x : Bk × Value} (hx : bkCells x = (bkCells (L.getD k default)).set j u) : KbM w0 B (w.setCell ⟨gB, k * 5 + j, none⟩ u) gB cB (L.set k x) k g := by
 obtain ⟨-, cs, hc⟩ := h.heap (by omega)
 have ho := (World.ownsRow.stored h.own (k * 5 + j) u).1
 rw [flat_setS bkCells 5 (fun _ => rfl) L k j u x hk hj hx] at ho
 refine ⟨by rw [List.length_set]; exact ho, fun i hi hne => ?_⟩
 rw [List.length_set] at hi
 rw [show (L.set k x).getD i default = L.getD i default by simp [List.getD, List.getElem?_set, Ne.symm hne]]
 exact (h.ins i hi hne).keep (But.setCell gB _ w u) (.inr ⟨cs, _, hc, by decide⟩)
theorem KbM.rd {w0 w : World} {B gB cB g : Nat} {L : List (Bk × Value)} (h : KbM w0 B w gB cB L L.length g) (he : Ext w0 w) : RdBks w (.slice (some ⟨gB, 0, none⟩) L.length cB) (L.map Prod.fst) :=
 OwnBk.rd (B := B) ⟨h.own, fun x hx => by
  obtain ⟨i, hi, rfl⟩ := List.getElem_of_mem hx
  have := h.ins i hi (by omega)
  rw [show L.getD i default = L[i] by simp [List.getD, hi]] at this
  exact this.rd he⟩
/-- a table of rows stays while a block of another type turns -/
theorem TbC.keep {B gt ct R g : Nat} {w w' : World} {rs : Rs} {X : Tb} (h : TbC B w gt ct rs X R) (hb : But g w w') {cs : Array Value} {ty : TypeId} (hc : w.heap[g]? = some (.cells cs ty)) (h1 : ty ≠ 50) (h2 : ty ≠ 54) : TbC B w' gt ct rs X R := by
 refine ⟨h.len, World.ownsRow.kept h.tab (but_grownK hb) (.inr (row_not h.tab hc (Ne.symm h1))), fun i hi => ?_, h.inj, h.gB⟩
 have := h.row i hi
 revert this
 generalize rs.getD i none = r
 generalize X.getD i none = o
 intro this
 match r, o, this with
 | none, none, _ => exact True.intro
 | some x, some t, ⟨h5, h6, h7, h8⟩ => exact ⟨h5.but hb (h5.ne hc h2), h6, h7, h8⟩
 | none, some _, h => exact h.elim
 | some _, none, h => exact h.elim
end Go.Proofs.YtkhfddodmjnecaaDoor
