/-
 A range over a function: drawn regions in a round; the statement where the iterator writes to memory of its own between two rounds.; Contracts of flow's Each: the function that it hands back, for whatever stands in the loop.; A range over flow's Each: what the callers share.
-/
import Derived.RangeFuncNested
import Derived.RangeFuncBound
import Derived.RangeFuncCalls
import Derived.RangeFuncLeaves
import Derived.Shelf.RegionOpen
import Derived.WalkKit
import Derived.OwnWalkIn
import Derived.TacticsInMore
import Derived.LoopNIn
import Derived.LoopIn
import Derived.Test.YtmcddolkpcgddaaZHazardMarks13
import Derived.Test.YtmcddolkpcgddaaZHazardMarks12
import Derived.Test.YtmcddolkpcgddaaZHazardMarks05
import Derived.Test.YtmcddolkpcgddaaZHazardMarks10

set_option linter.all false
namespace Go.Proofs.Ytmcddolkpcgddaa
open Go Go.RowKit

theorem wide_fn (f : FuncId) : Fence.wide.fn f = True := rfl
theorem wide_depth : Fence.wide.depth.isSome = false := rfl
theorem wideR_fn (l : Nat) (f : FuncId) : (Fence.wide.inRound l).fn f = True := rfl
theorem wideR_depth (l : Nat) : (Fence.wide.inRound l).depth.isSome = false := rfl
attribute [go_sem] wide_fn wide_depth wideR_fn wideR_depth
section
variable {P : Program} {ops : Array Oper} {Q : Act → World → Prop} {S : Nat → Prop}
end

/-- how a round's body may be left; the loop's two blocks are as they were -/
def roundQ {α : Type} (h : Nat) (Kp : World → World → Prop) (I : List α → World → Prop) (Ix : Code → List α → World → Prop) (xs : List α) (W : World) : Exit → Act → World → Prop
 | .normal, _, W' => (W'.heap[h]? = W.heap[h]? ∧ W'.heap[h + 1]? = W.heap[h + 1]?) ∧ Kp W W' ∧ I xs W'
 | .ret, _, W' => (W'.heap[h]? = W.heap[h]? ∧ W'.heap[h + 1]? = W.heap[h + 1]?) ∧ Ix .ret xs W'
 | .exit id, _, W' => (W'.heap[h]? = W.heap[h]? ∧ W'.heap[h + 1]? = W.heap[h + 1]?) ∧ Ix (.exit id) xs W'
 | .goto t, _, W' => (W'.heap[h]? = W.heap[h]? ∧ W'.heap[h + 1]? = W.heap[h + 1]?) ∧ Ix (.goto t) xs W'
 | .panic _, _, _ => False
 | .outgrown, _, _ => False

/-- the world in which the iterator begins -/
def loopW (w : World) (r : Loop) : World := (w.alloc (.deferred (some []))).alloc (.loop r)

theorem wp_rangeOver {P : Program} {n : Nat} {α : Type} {g : Operand} {ps : Array Tmp} {assign body : Code} {Q : Exit → Act → World → Prop} {a : Act} {w : World}
  {gf : Nat} {lb : Array Value} (hg : a.eval g = .func (.func gf) #[] lb) (eg : ∀ args w, (callFunc gf args).run P w = .ok (.enter gf args) w)
  (encs : α → Array Value) (hps : ∀ x, (encs x).size = ps.size) (St : List α → World → World → Prop) (Kp : α → World → World → Prop) (Pr : List α → α → World → Prop) (Sd : List α → Prop)
  (hSt : ∀ s A B, St s A B → ∀ b, b = w.heap.size ∨ b = w.heap.size + 1 → b < A.heap.size → B.heap[b]? = A.heap[b]?)
  (hKt : ∀ x A B C, Kp x A B → Kp x B C → Kp x A C) (hKb : ∀ pre x W o, Pr pre x W → ∀ A, Kp x A (A.putObj (w.heap.size + 1) o)) (hPr : ∀ pre x W o, Pr pre x W → Pr pre x (W.putObj (w.heap.size + 1) o))
  (hiter : ∀ (r : Loop) (J Jx : List α → World → Prop), (∀ s A B, J s A → St s A B → J s B) →
    (∀ pre x W, J pre W → Pr pre x W → YieldAt Fence.wide (n - 1 - 1) P (w.heap.size + 1) (encs x) W fun e W' => (e = .returned (.bool true) ∧ J (pre ++ [x]) W' ∧ Kp x W W') ∨ (e = .returned (.bool false) ∧ Jx (pre ++ [x]) W')) →
    J [] (loopW w r) → CallsIn Fence.wide (n - 1) P gf (#[.func (.yield (w.heap.size + 1)) #[] #[]] ++ lb) (loopW w r) fun e W' => (∃ v, e = .returned v) ∧ ((∃ xs, Sd xs ∧ J xs W') ∨ (∃ pre, Jx pre W')))
  (I : List α → World → Prop) (Ix : Code → List α → World → Prop) (hI : ∀ s W o, I s W → I s (W.putObj (w.heap.size + 1) o)) (hIx : ∀ c s W o, Ix c s W → Ix c s (W.putObj (w.heap.size + 1) o))
  (hIS : ∀ s A B, I s A → St s A B → I s B) (h0 : ∀ r, I [] (loopW w r)) (a₁ : α → Act)
  (hassign : ∀ (l : Nat) (x : α) (W : World) (K : Act → World → Prop), K (a₁ x) W →
    assign.wpIn (Fence.wide.inRound l) (n - 1 - 1) P (Exit.then K (fun _ _ _ => False)) { tmps := (ps.zip (encs x)).foldl (fun t (p, v) => t.setIfInBounds p v) a.tmps, defers := [] } W)
  (hbody : ∀ (l : Nat) (pre : List α) (x : α) (W : World), I pre W → Pr pre x W → body.wpIn (Fence.wide.inRound l) (n - 1 - 1) P (roundQ w.heap.size (Kp x) I Ix (pre ++ [x]) W) (a₁ x) W)
  (hdone : ∀ (xs : List α) (W : World), Sd xs → I xs W → W.heap[w.heap.size]? = some (.deferred (some [])) → Q .normal { a with defers := { target := .collected w.heap.size, args := #[] } :: a.defers } W)
  (hstop : ∀ (c : Code) (pre : List α) (W : World), Ix c pre W → W.heap[w.heap.size]? = some (.deferred (some [])) → c.wpIn Fence.wide n P Q { a with defers := { target := .collected w.heap.size, args := #[] } :: a.defers } W) :
  (Code.rangeFunc g ps assign body).wpIn Fence.wide n P Q a w := by
 refine wpIn_rangeFunc ?_
 intro fn hfn
 obtain ⟨rec, hrec⟩ : ∃ rec : LoopState → Option Code → Loop, rec = fun st pe => { state := st, pending := pe, fn, tmps := a.tmps, params := ps, assign, body, defers := w.heap.size } := ⟨_, rfl⟩
 have hL1 : (loopW w (rec .ready none)).heap[w.heap.size + 1]? = some (.loop (rec .ready none)) := by
  have := World.alloc_heap_new (w.alloc (.deferred (some []))) (.loop (rec .ready none)); rwa [World.size_alloc] at this
 have hK1 : (loopW w (rec .ready none)).heap[w.heap.size]? = some (.deferred (some [])) := (Below.heap_alloc _ _ _ (by simp)).trans (World.alloc_heap_new w _)
 refine ⟨w.heap.size + 1, [{ target := .collected w.heap.size, args := #[] }], loopW w (rec .ready none), { target := .fn (.func gf) lb, args := #[.func (.yield (w.heap.size + 1)) #[] #[]] }, loopW w (rec .ready none), gf,
  #[.func (.yield (w.heap.size + 1)) #[] #[]] ++ lb, loopW w (rec .ready none), ?_, ?_, fun _ _ => trivial, ?_, fun hs => by simp [Fence.wide] at hs, ?_⟩
 ·rw [hrec]; exact run_enterLoop_outer _ _ _ _ _
 ·simp only [resolve, hg]
  simp [go_sem]
 ·simp [invoke, go_sem, eg]
 refine (hiter (rec .ready none)
  (fun pre W => I pre W ∧ W.heap[w.heap.size + 1]? = some (.loop (rec .ready none)) ∧ W.heap[w.heap.size]? = some (.deferred (some [])))
  (fun pre W => ∃ c, Ix c pre W ∧ W.heap[w.heap.size + 1]? = some (.loop (rec .done (some c))) ∧ W.heap[w.heap.size]? = some (.deferred (some [])))
  (fun s A B hs hst => ⟨hIS s A B hs.1 hst, (hSt s A B hst _ (.inr rfl) (Array.getElem?_eq_some_iff.1 hs.2.1).1).trans hs.2.1, (hSt s A B hst _ (.inl rfl) (Array.getElem?_eq_some_iff.1 hs.2.2).1).trans hs.2.2⟩) ?_ ⟨h0 _, hL1, hK1⟩).mono ?_
 ·rintro pre x W ⟨hi, hl, hk⟩ hpr
  have hlt : w.heap.size + 1 < W.heap.size := (Array.getElem?_eq_some_iff.1 hl).1
  have hy := run_yield (P := P) (args := encs x) hl (by rw [hrec]; exact hps x)
  rw [hrec] at hy
  refine ⟨fn, _, assign, body, hy, roundIn_of_wpIn trivial (hassign _ x W _ ⟨_, run_beginRound hl (by rw [hrec]), ?_⟩)⟩
  have hl2 : (W.putObj (w.heap.size + 1) (.loop { rec .ready none with state := .busy })).heap[w.heap.size + 1]? = some (.loop { rec .ready none with state := .busy }) := World.putObj_heap_same hlt
  have hk2 : (W.putObj (w.heap.size + 1) (.loop { rec .ready none with state := .busy })).heap[w.heap.size]? = some (.deferred (some [])) := (World.putObj_heap_other (by omega)).trans hk
  refine wpIn_mono (hbody _ pre x _ (hI _ _ _ hi) (hPr _ _ _ _ hpr)) ?_
  have fin : ∀ (jump : Option Code) (W3 : World), (W3.heap[w.heap.size]? = (W.putObj (w.heap.size + 1) (.loop { rec .ready none with state := .busy })).heap[w.heap.size]? ∧ W3.heap[w.heap.size + 1]? = (W.putObj (w.heap.size + 1) (.loop { rec .ready none with state := .busy })).heap[w.heap.size + 1]?) →
    (Instr.endRound (w.heap.size + 1) jump).run P W3 = .ok (.bool jump.isNone) (W3.putObj (w.heap.size + 1) (.loop (rec (if jump.isNone then .ready else .done) jump))) ∧
    (W3.putObj (w.heap.size + 1) (.loop (rec (if jump.isNone then .ready else .done) jump))).heap[w.heap.size + 1]? = some (.loop (rec (if jump.isNone then .ready else .done) jump)) ∧
    (W3.putObj (w.heap.size + 1) (.loop (rec (if jump.isNone then .ready else .done) jump))).heap[w.heap.size]? = some (.deferred (some [])) := fun jump W3 hk3 => by
   have hl3 := hk3.2.trans hl2
   have := run_endRound (P := P) jump hl3
   rw [hrec] at this ⊢
   exact ⟨this, World.putObj_heap_same (Array.getElem?_eq_some_iff.1 hl3).1, (World.putObj_heap_other (by omega)).trans (hk3.1.trans hk2)⟩
  rintro e a3 W3 hp
  cases e with
  | normal =>
   obtain ⟨hk3, hkp3, hi3⟩ := hp
   obtain ⟨hr, hl4, hk4⟩ := fin none W3 hk3
   exact ⟨_, _, hr, .inl ⟨rfl, ⟨hI _ _ _ hi3, hl4, hk4⟩, hKt _ _ _ _ (hKt _ _ _ _ (hKb _ _ _ _ hpr _) hkp3) (hKb _ _ _ _ hpr _)⟩⟩
  | ret =>
   obtain ⟨hk3, hi3⟩ := hp
   obtain ⟨hr, hl4, hk4⟩ := fin (some .ret) W3 hk3
   exact ⟨_, _, hr, .inr ⟨rfl, .ret, hIx _ _ _ _ hi3, hl4, hk4⟩⟩
  | exit id =>
   obtain ⟨hk3, hi3⟩ := hp
   obtain ⟨hr, hl4, hk4⟩ := fin (some (.exit id)) W3 hk3
   exact ⟨_, _, hr, .inr ⟨rfl, .exit id, hIx _ _ _ _ hi3, hl4, hk4⟩⟩
  | goto t =>
   obtain ⟨hk3, hi3⟩ := hp
   obtain ⟨hr, hl4, hk4⟩ := fin (some (.goto t)) W3 hk3
   exact ⟨_, _, hr, .inr ⟨rfl, .goto t, hIx _ _ _ _ hi3, hl4, hk4⟩⟩
  | panic ch => exact hp.elim
  | outgrown => exact hp.elim
 ·rintro e W2 ⟨⟨v, rfl⟩, (⟨xs, hS, hi, hl, hk⟩ | ⟨pre, c, hi, hl, hk⟩)⟩
  ·exact ⟨none, _, by have := run_endLoop (P := P) hl (by rw [hrec]; simp); rw [hrec] at this; exact this, hdone xs _ hS (hI _ _ _ hi) ((World.putObj_heap_other (by omega)).trans hk)⟩
  ·exact ⟨some c, _, by have := run_endLoop (P := P) hl (by rw [hrec]; simp); rw [hrec] at this; exact this, hstop c pre _ (hIx _ _ _ _ hi) ((World.putObj_heap_other (by omega)).trans hk)⟩
end Go.Proofs.Ytmcddolkpcgddaa

set_option linter.all false
namespace Go.Proofs.Ytmcddolkpcgddaa
open Go.ChangeShapes Go.WideShapes Go.ChangeAt Go.RowKit
set_option maxHeartbeats 4000000
set_option maxRecDepth 100000
attribute [local go_sem] Oper.semAt_some

/-- what a round is handed: the place of the instruction, and the row of marks: its block and how many it may hold -/
structure EX where
 i : Nat
 g : Nat
 c : Nat
/-- what the iterator turns between two rounds -/
def StE (H : Nat) (s : List EX) (A B : World) : Prop :=
 match s with
 | [] => Below A.heap.size A B
 | x :: _ => H ≤ x.g ∧ But x.g A B
/-- what a round keeps -/
structure KpE (W0 : World) (x : EX) (A B : World) : Prop where
 below : Below W0.heap.size A B
 row : B.heap[x.g]? = A.heap[x.g]?
/-- what a round may build on -/
structure PrE (W0 : World) (H : Nat) (L : List In) (lo : List Bool) (R : Nat) (pre : List EX) (x : EX) (W : World) : Prop where
 len : pre.length < L.length
 i : x.i = L.length - 1 - pre.length
 g : H ≤ x.g
 row : RowB W x.g R x.c (backK lo (L.drop (x.i + 1)))
 same : ∀ y ∈ pre, y.g = x.g
 below : Below W0.heap.size W0 W
theorem RowB.of_block {w w' : World} {g n c : Nat} {l : List Bool} (h : RowB w g n c l) (e : w'.heap[g]? = w.heap[g]?) : RowB w' g n c l := by
 obtain ⟨h1, h2 | ⟨g', cap, cur, h3, h4, h5, r⟩⟩ := h
 ·exact ⟨h1, .inl h2⟩
 ·have h3' := h3
  simp only [Value.slice.injEq, Option.some.injEq, Addr.mk.injEq] at h3'
  exact ⟨h1, .inr ⟨g', cap, cur, h3, h4, by rw [← h3'.1.1, e, h3'.1.1]; exact h5, r⟩⟩
theorem below_put {n : Nat} (W : World) {l : Nat} (o : Obj) (h : n ≤ l) : Below n W (W.putObj l o) :=
 ⟨rfl, rfl, rfl, by simp, fun k hk => World.putObj_heap_other (by omega)⟩
end Go.Proofs.Ytmcddolkpcgddaa

set_option linter.all false
namespace Go.Proofs.Ytmcddolkpcgddaa
open Go.ChangeShapes Go.WideShapes Go.ChangeAt Go.RowKit
set_option maxHeartbeats 4000000
set_option maxRecDepth 100000
set_option linter.unusedVariables false

theorem keep_belU {S : Nat → Prop} {w w' : World} (hb : Below w.heap.size w w') (h : ∀ b, S b → b < w.heap.size) : Keep S w w' := fun b o hs => hb.cell (p := ⟨b, o, none⟩) (h b hs)
theorem loopW_below (w : World) (r : Loop) : Below w.heap.size w (loopW w r) := (below_alloc w _).alloc (by simp) _
theorem loopW_size (w : World) (r : Loop) : (loopW w r).heap.size = w.heap.size + 1 + 1 := by simp [loopW]
theorem KpE.trans {W0 : World} {x : EX} {A B C : World} (h : KpE W0 x A B) (k : KpE W0 x B C) : KpE W0 x A C := ⟨h.below.trans k.below, k.row.trans h.row⟩
theorem KpE.put {W0 : World} {x : EX} (A : World) {l : Nat} (o : Obj) (h : W0.heap.size ≤ l) (hx : x.g ≠ l) : KpE W0 x A (A.putObj l o) := ⟨below_put A o h, World.putObj_heap_other hx⟩
theorem PrE.put {W0 : World} {H : Nat} {L : List In} {lo : List Bool} {R : Nat} {pre : List EX} {x : EX} {W : World} {l : Nat} (o : Obj) (h : PrE W0 H L lo R pre x W) (hl : W0.heap.size ≤ l) (hH : l < H) : PrE W0 H L lo R pre x (W.putObj l o) :=
 ⟨h.len, h.i, h.g, h.row.of_block (World.putObj_heap_other (by have := h.g; omega)), h.same, h.below.trans (below_put W o hl)⟩
end Go.Proofs.Ytmcddolkpcgddaa
