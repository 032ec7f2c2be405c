/-
 A range over flow's Each: what the callers share.; Contract of dead's Idle.
-/
import Derived.Test.YtnnhobbabcfogaaDoorZDeadDrops24
import Derived.Test.YtnnhobbabcfogaaDoorZDeadDrops23

set_option linter.all false
namespace Go.Proofs.YtnnhobbabcfogaaDoor
open Go.ChangeShapes Go.WideShapes Go.ChangeAt Go.RowKit
set_option maxHeartbeats 4000000
set_option maxRecDepth 100000
set_option linter.unusedVariables false

theorem keep_belU {S : Nat → Prop} {w w' : World} (hb : Below w.heap.size w w') (h : ∀ b, S b → b < w.heap.size) : Keep S w w' := fun b o hs => hb.cell (p := ⟨b, o, none⟩) (h b hs)
theorem leavesM_nil {P : Program} {n : Nat} {fn : Func} {R : Ending → World → Prop} {a : Act} {w : World} {v : Value} (hr : (results fn a.tmps).run P w = .ok v w) (hd : a.defers = []) (hR : R (.returned v) w) : bodyPostM Fence.wide n P fn R .ret a w := by
 show LeavesInM Fence.wide n P fn a.tmps R a.defers .returning w
 rw [hd]
 exact ⟨v, hr, hR⟩
theorem leavesM_one {P : Program} {n b : Nat} {fn : Func} {R : Ending → World → Prop} {a : Act} {w : World} {v : Value} (hd : a.defers = [{ target := .collected b, args := #[] }]) (hb : w.heap[b]? = some (.deferred (some [])))
  (hr : (results fn a.tmps).run P (w.putObj b (.deferred none)) = .ok v (w.putObj b (.deferred none))) (hR : R (.returned v) (w.putObj b (.deferred none))) : bodyPostM Fence.wide n P fn R .ret a w := by
 show LeavesInM Fence.wide n P fn a.tmps R a.defers .returning w
 rw [hd]
 exact ⟨by simp, .inl ⟨_, _, rfl, run_takeDeferred hb, ⟨v, hr, hR⟩⟩⟩
/-- the three boxes of Each -/
structure BnE (w : World) (k : Int) (p : Pr) (nm : ByteArray) (vo vb o : Value) (w' : World) : Prop where
 b0 : w'.heap[w.heap.size]? = some (.cells #[.string nm, .bool p.void, .int .i64 p.params, .int .i64 p.regs, vo, vb] 37)
 b1 : w'.heap[w.heap.size + 1]? = some (.cells #[.int .i64 k] 3)
 b2 : w'.heap[w.heap.size + 2]? = some (.cells #[o] 74)
 below : Below w.heap.size w w'
theorem BnE.new (w : World) (k : Int) (p : Pr) (nm : ByteArray) (vo vb o : Value) : BnE w k p nm vo vb o (((w.alloc (.cells #[.string nm, .bool p.void, .int .i64 p.params, .int .i64 p.regs, vo, vb] 37)).alloc (.cells #[.int .i64 k] 3)).alloc (.cells #[o] 74)) := by
 have b0 := heap_alloc_new w (.cells #[.string nm, .bool p.void, .int .i64 p.params, .int .i64 p.regs, vo, vb] 37)
 have b1 := heap_alloc_new (w.alloc (.cells #[.string nm, .bool p.void, .int .i64 p.params, .int .i64 p.regs, vo, vb] 37)) (.cells #[.int .i64 k] 3)
 have b2 := heap_alloc_new ((w.alloc (.cells #[.string nm, .bool p.void, .int .i64 p.params, .int .i64 p.regs, vo, vb] 37)).alloc (.cells #[.int .i64 k] 3)) (.cells #[o] 74)
 simp only [World.size_alloc] at b1 b2
 exact ⟨((below_alloc _ _).block _ (by simp; try omega)).trans (((below_alloc _ _).block _ (by simp; try omega)).trans b0), ((below_alloc _ _).block _ (by simp; try omega)).trans b1, b2, ((below_alloc w _).alloc (by simp; try omega) _).alloc (by simp; try omega) _⟩
theorem loopW_below (w : World) (r : Loop) : Below w.heap.size w (loopW w r) := (below_alloc w _).alloc (by simp) _
theorem loopW_size (w : World) (r : Loop) : (loopW w r).heap.size = w.heap.size + 1 + 1 := by simp [loopW]
theorem StE.blocks {H : Nat} {s : List EX} {A B : World} (h : StE H s A B) {b : Nat} (hb : b < H) (hA : b < A.heap.size) : B.heap[b]? = A.heap[b]? := by
 cases s with
 | nil => exact Below.block h b hA
 | cons x l => exact h.2.block b hA (by have := h.1; omega)
theorem StE.rest {H : Nat} {s : List EX} {A B : World} (h : StE H s A B) : B.os = A.os ∧ B.tape = A.tape ∧ B.output = A.output ∧ A.heap.size ≤ B.heap.size := by
 cases s with
 | nil => exact ⟨Below.os h, Below.tape h, Below.output h, Below.size h⟩
 | cons x l => exact ⟨h.2.os, h.2.tape, h.2.output, h.2.size⟩
theorem KpE.trans {W0 : World} {x : EX} {A B C : World} (h : KpE W0 x A B) (k : KpE W0 x B C) : KpE W0 x A C := ⟨h.below.trans k.below, k.row.trans h.row⟩
theorem KpE.put {W0 : World} {x : EX} (A : World) {l : Nat} (o : Obj) (h : W0.heap.size ≤ l) (hx : x.g ≠ l) : KpE W0 x A (A.putObj l o) := ⟨below_put A o h, World.putObj_heap_other hx⟩
theorem PrE.put {W0 : World} {H : Nat} {L : List In} {lo : List Bool} {R : Nat} {pre : List EX} {x : EX} {W : World} {l : Nat} (o : Obj) (h : PrE W0 H L lo R pre x W) (hl : W0.heap.size ≤ l) (hH : l < H) : PrE W0 H L lo R pre x (W.putObj l o) :=
 ⟨h.len, h.i, h.g, h.row.of_block (World.putObj_heap_other (by have := h.g; omega)), h.same, h.below.trans (below_put W o hl)⟩
end Go.Proofs.YtnnhobbabcfogaaDoor

set_option linter.all false
namespace Go.Proofs.YtnnhobbabcfogaaDoor
open Go.ChangeShapes Go.WideShapes Go.ChangeAt Go.RowKit
set_option maxHeartbeats 4000000
set_option maxRecDepth 100000
set_option linter.unusedVariables false
attribute [local go_sem] Oper.semAt_some

theorem own_cells {w : World} {base n sz b : Nat} {e : TypeId} {v : Value} {xs : List Value} (h : w.ownsRow base e sz v n xs) (hb : v.ownBlock = some b) : ∃ cur t f, w.heap[b]? = some (.cells cur t f) := by
 obtain ⟨-, ⟨rfl, -⟩ | ⟨g, cap, cur, rfl, -, hg, -⟩⟩ := h
 ·cases hb
 ·simp only [Value.ownBlock, Option.some.injEq] at hb
  subst hb
  exact ⟨_, _, _, hg⟩
section
variable {W0 w w' : World} {gP B n : Nat} {vs : List Value} {rows : List (List Int)}
/-- one block, no row's and not the table's, turns -/
theorem PT.other (h : PT W0 w gP B n vs rows) {g : Nat} (hg : w.grownBy w' (some g)) (h0 : W0.heap.size ≤ g) (hgp : gP ≠ g) (hr : ∀ i, i < n → (vs.getD i undef).ownBlock ≠ some g) : PT W0 w' gP B n vs rows :=
 ⟨grown_belG h.below (by have := h.Bw; have := h.gB; have := h.g0; omega) hg (fun b e => by cases e; exact h0), World.ownsRow.kept h.tab hg (.inr (by simpa [Value.ownBlock] using hgp)), fun j hj => World.ownsRow.kept (h.row j hj) hg (.inr (hr j hj)), h.ne, h.g0, h.gB, Nat.le_trans h.Bw hg.size, h.len⟩
/-- a row's own block turns -/
theorem PT.turn (h : PT W0 w gP B n vs rows) {j : Nat} (hj : j < n) {l : List Int} (hg : w.grownBy w' (vs.getD j undef).ownBlock) (ho : OwnI w' B (vs.getD j undef) l) : PT W0 w' gP B n vs (rows.set j l) := by
 have h1 := h.g0
 have h2 := h.gB
 have h3 := h.Bw
 have hrl := h.len
 refine ⟨grown_belG h.below (by omega) hg (fun b e => by have := (World.ownsRow.lt (h.row j hj) b e).1; omega), World.ownsRow.kept h.tab hg (.inr fun e => by have := (World.ownsRow.lt (h.row j hj) gP e.symm).1; omega), fun i hi => ?_, h.ne, h.g0, h.gB, Nat.le_trans h.Bw hg.size, by simpa using h.len⟩
 rw [getD_setR _ _ _ _ (by omega)]
 by_cases e : i = j
 ·subst e; rw [if_pos rfl]; exact ho
 ·rw [if_neg e]
  exact World.ownsRow.kept (h.row i hi) hg (h.ne i j hi hj e)
end
/-- where the rows of a table lie while a block is gone through -/
def FarE (lo hi : Nat) (n : Nat) (vs : List Value) (pre : List EX) : Prop := ∀ i, i < n → ∀ b, (vs.getD i undef).ownBlock = some b → b < lo ∨ (hi ≤ b ∧ pre ≠ [] ∧ ∀ y ∈ pre, y.g ≠ b)
/-- between two rounds -/
structure IdI (W0 w4 : World) (gP lo n : Nat) (ds : List Nat) (F : Nat → List Int) (k : Nat) (r : List Int) (pre : List EX) (vs : List Value) (W : World) : Prop where
 pt : PT W0 W gP (gP + 2) n vs (rowT n F k r)
 far : FarE lo (w4.heap.size + 1 + 1) n vs pre
 keep : ∀ b, b < w4.heap.size → (b = gP + 1 ∨ lo ≤ b ∨ b ∈ ds) → W.heap[b]? = w4.heap[b]?
 size : w4.heap.size ≤ W.heap.size
section
variable {W0 w4 W W' : World} {gP lo n : Nat} {ds : List Nat} {F : Nat → List Int} {k : Nat} {r : List Int} {pre : List EX} {vs : List Value}
theorem IdI.below (h : IdI W0 w4 gP lo n ds F k r pre vs W) (hb : Below W.heap.size W W') : IdI W0 w4 gP lo n ds F k r pre vs W' :=
 ⟨h.pt.grow hb, h.far, fun b hb1 hb2 => (hb.block b (Nat.lt_of_lt_of_le hb1 h.size)).trans (h.keep b hb1 hb2), Nat.le_trans h.size hb.size⟩
theorem IdI.other (h : IdI W0 w4 gP lo n ds F k r pre vs W) {g : Nat} (hg : W.grownBy W' (some g)) (h1 : w4.heap.size ≤ g) (h2 : ∀ i, i < n → (vs.getD i undef).ownBlock ≠ some g) (hgp : gP < w4.heap.size) (hw : W0.heap.size ≤ gP) : IdI W0 w4 gP lo n ds F k r pre vs W' :=
 ⟨h.pt.other hg (by omega) (by omega) h2, h.far, fun b hb1 hb2 => (hg.block b (Nat.lt_of_lt_of_le hb1 h.size) (fun e => by cases e; omega)).trans (h.keep b hb1 hb2), Nat.le_trans h.size hg.size⟩
theorem IdI.put (h : IdI W0 w4 gP lo n ds F k r pre vs W) (o : Obj) (hgp : gP < w4.heap.size) (hw : W0.heap.size ≤ gP) (hlo : lo ≤ w4.heap.size) : IdI W0 w4 gP lo n ds F k r pre vs (W.putObj (w4.heap.size + 1) o) :=
 h.other (grownBy_putObj' W _ o) (by omega) (fun i hi e => by rcases h.far i hi _ e with h1 | ⟨h1, -⟩ <;> omega) hgp hw
theorem IdI.st (h : IdI W0 w4 gP lo n ds F k r pre vs W) (hs : StE (w4.heap.size + 1 + 1) pre W W') (hgp : gP < w4.heap.size) (hw : W0.heap.size ≤ gP) (hlo : lo ≤ w4.heap.size) : IdI W0 w4 gP lo n ds F k r pre vs W' := by
 cases pre with
 | nil => exact h.below hs
 | cons x l =>
  obtain ⟨h1, h2⟩ := hs
  refine h.other (g := x.g) ⟨h2.os, h2.tape, h2.output, h2.size, fun b hb hne => h2.block b hb (fun e => hne (by rw [e]))⟩ (by omega) (fun i hi e => ?_) hgp hw
  rcases h.far i hi _ e with h3 | ⟨-, -, h3⟩
  ·omega
  ·exact h3 x (List.mem_cons_self ..) rfl
/-- a place is put at a row's end, and the row is laid down in the table -/
theorem IdI.push {v' : Value} {x : EX} {y : Int} (h : IdI W0 w4 gP lo n ds F k r pre vs W) (hk : k < n) (hg : W.grownBy W' (vs.getD k undef).ownBlock)
  (ho : W'.ownsRow (gP + 2) 3 1 v' (r.length + 1) (r.map (Value.int .i64) ++ [.int .i64 y])) (hat : v'.ownBlock = (vs.getD k undef).ownBlock ∨ v'.ownBlock = some W.heap.size)
  (hd : ∀ D ∈ ds, D < lo ∧ ∃ c, w4.heap[D]? = some (.deferred c)) (hx : w4.heap.size + 1 + 1 ≤ x.g) (hxW : x.g < W.heap.size) (hs : ∀ y ∈ pre, y.g = x.g) (hlo : lo ≤ w4.heap.size) (hgp : gP < lo) (hrx : ∀ i, i < n → (vs.getD i undef).ownBlock ≠ some x.g) (hgd : gP ∉ ds) :
  IdI W0 w4 gP lo n ds F k (r ++ [y]) (pre ++ [x]) (vs.set k v') (W'.setCell ⟨gP, k, none⟩ v') := by
 have hl := h.pt.vlen
 have hrow : (rowT n F k r).getD k [] = r := rowT_at n F k r hk
 have hp := h.pt.push hk hg (by rw [hrow]; exact ho) hat
 rw [hrow, rowT_set] at hp
 refine ⟨hp, fun i hi b e => ?_, fun b hb1 hb2 => ?_, by have := hg.size; have := h.size; simp; omega⟩
 ·rw [getD_setV _ _ _ _ (by omega)] at e
  have old : ∀ j, j < n → (vs.getD j undef).ownBlock = some b → b < lo ∨ (w4.heap.size + 1 + 1 ≤ b ∧ pre ++ [x] ≠ [] ∧ ∀ y ∈ pre ++ [x], y.g ≠ b) := fun j hj e => by
   rcases h.far j hj b e with h1 | ⟨h1, h2, h3⟩
   ·exact .inl h1
   ·refine .inr ⟨h1, by simp, fun z hz => ?_⟩
    rcases List.mem_append.1 hz with hz | hz
    ·exact h3 z hz
    ·rw [List.mem_singleton.1 hz]; intro e2; exact hrx j hj (by rw [e, ← e2])
  by_cases e2 : i = k
  ·rw [if_pos e2] at e
   rcases hat with e3 | e3
   ·rw [e3] at e; exact old k hk e
   ·rw [e3] at e
    simp only [Option.some.injEq] at e
    refine .inr ⟨by have := h.size; omega, by simp, fun z hz => ?_⟩
    rcases List.mem_append.1 hz with hz | hz
    ·rw [hs z hz]; omega
    ·rw [List.mem_singleton.1 hz]; omega
  ·rw [if_neg e2] at e; exact old i hi e
 ·have hne : b ≠ gP := by
   rcases hb2 with h1 | h1 | h1
   ·omega
   ·omega
   ·intro e; subst e; exact hgd h1
  refine (Below.heap_setCell W' ⟨gP, k, none⟩ v' b hne).trans ((hg.block b (Nat.lt_of_lt_of_le hb1 h.size) (fun e => ?_)).trans (h.keep b hb1 hb2))
  rcases hb2 with h1 | h1 | h1
  ·have := (World.ownsRow.lt (h.pt.row k hk) b e.symm).1; omega
  ·rcases h.far k hk b e.symm with h3 | ⟨h3, -⟩ <;> omega
  ·obtain ⟨-, c, hc⟩ := hd b h1
   obtain ⟨cur, t, f, hcc⟩ := own_cells (h.pt.row k hk) e.symm
   rw [h.keep b hb1 (.inr (.inr h1)), hc] at hcc
   cases hcc
/-- a round in which nothing is put -/
theorem IdI.pass {x : EX} (h : IdI W0 w4 gP lo n ds F k r pre vs W) (hrx : ∀ i, i < n → (vs.getD i undef).ownBlock ≠ some x.g) : IdI W0 w4 gP lo n ds F k r (pre ++ [x]) vs W :=
 ⟨h.pt, fun i hi b e => by
   rcases h.far i hi b e with h1 | ⟨h1, h2, h3⟩
   ·exact .inl h1
   ·refine .inr ⟨h1, by simp, fun z hz => ?_⟩
    rcases List.mem_append.1 hz with hz | hz
    ·exact h3 z hz
    ·rw [List.mem_singleton.1 hz]; intro e2; exact hrx i hi (by rw [e, ← e2]), h.keep, h.size⟩
/-- no row lies where the marks are -/
theorem IdI.off {x : EX} {L : List In} {lo' : List Bool} {R : Nat} {We : World} (h : IdI W0 w4 gP lo n ds F k r pre vs W) (hp : PrE We (w4.heap.size + 1 + 1) L lo' R pre x W) (hlo : lo ≤ w4.heap.size) : ∀ i, i < n → (vs.getD i undef).ownBlock ≠ some x.g := fun i hi e => by
 rcases h.far i hi _ e with h1 | ⟨h1, h2, h3⟩
 ·have := hp.g; omega
 ·cases pre with
  | nil => exact h2 rfl
  | cons y l => exact h3 y (List.mem_cons_self ..) (hp.same y (List.mem_cons_self ..))
end
theorem pure_v (i : In) (va : Value) (w : World) :
  Calls Tryd.prog 24 #[aggI i va] w fun e w' => e = .returned (.bool (pureI i)) ∧ Below w.heap.size w w' := by
 unfold aggI
 go_enter Tryd.func24, Tryd.ntmps24
 go_wp2
 all_goals
  go_ret
  simp only [beq_iff_eq, beq_eq_false_iff_ne, ne_eq] at *
  exact ⟨ret_b (by unfold pureI; simp; omega), below_alloc _ _⟩
/-- many marks -/
def marksD (ds : List Nat) : List Deferred := ds.map fun D => { target := .collected D, args := #[] }
theorem leavesM_many {P : Program} {n : Nat} {fn : Func} {R : Ending → World → Prop} {tmps : Array Value} {v : Value} (ds : List Nat) : ∀ (w : World), ds.Nodup → (∀ D ∈ ds, w.heap[D]? = some (.deferred (some []))) →
  (∀ w', (w'.os = w.os ∧ w'.tape = w.tape ∧ w'.output = w.output ∧ w'.heap.size = w.heap.size) → (∀ b, b ∉ ds → w'.heap[b]? = w.heap[b]?) → (results fn tmps).run P w' = .ok v w' ∧ R (.returned v) w') → bodyPostM Fence.wide n P fn R .ret { tmps := tmps, defers := marksD ds } w := by
 intro w hn hd hr
 show LeavesInM Fence.wide n P fn tmps R (marksD ds) .returning w
 induction ds generalizing w with
 | nil =>
  obtain ⟨h1, h2⟩ := hr w ⟨rfl, rfl, rfl, rfl⟩ (fun _ _ => rfl)
  exact ⟨v, h1, h2⟩
 | cons D ds ih =>
  rw [List.nodup_cons] at hn
  refine ⟨by simp, .inl ⟨_, _, rfl, run_takeDeferred (hd D (List.mem_cons_self ..)), ih _ hn.2 (fun E hE => ?_) (fun w' h1 h2 => hr w' ?_ fun b hb => ?_)⟩⟩
  ·have hne : E ≠ D := fun e => hn.1 (e ▸ hE)
   exact (World.putObj_heap_other hne).trans (hd E (List.mem_cons_of_mem _ hE))
  ·obtain ⟨a, b, c, d⟩ := h1
   exact ⟨a, b, c, by rw [d]; simp⟩
  ·rw [List.mem_cons, not_or] at hb
   exact (h2 b hb.2).trans (World.putObj_heap_other hb.1)
end Go.Proofs.YtnnhobbabcfogaaDoor
