/-
 A range over a function: drawn regions in a round; the statement where the iterator writes to memory of its own between two rounds.; A range over a function whose end is told of the world in which it ends.; The middle language as plain data, and what is told of it: what an instruction sets and reads, where a block leads.; How rows of numbers, instructions, blocks and procedures lie in memory; what can be read stays where the world only grows.; Contracts of the functions of ir that tell of one instruction and one block.
-/
import Derived.RangeFuncNested
import Derived.RangeFuncBound
import Derived.RangeFuncCalls
import Derived.RangeFuncLeaves
import Derived.Shelf.RegionOpen
import Derived.WalkKit
import Derived.OwnWalkIn
import Derived.TacticsInMore
import Derived.LoopNIn
import Derived.LoopIn
import Derived.Test.YtchoiankeohonaaGreatDoorZInlineAll01
import Derived.RowKit
import Derived.Lib.Hide
import Derived.Test.YtchoiankeohonaaGreatDoorRows
import Derived.ProofKit
import Derived.Outline

set_option linter.all false
namespace Go.Proofs.YtchoiankeohonaaGreatDoor
open Go Go.RowKit

theorem wide_fn (f : FuncId) : Fence.wide.fn f = True := rfl
theorem wide_depth : Fence.wide.depth.isSome = false := rfl
theorem wideR_fn (l : Nat) (f : FuncId) : (Fence.wide.inRound l).fn f = True := rfl
theorem wideR_depth (l : Nat) : (Fence.wide.inRound l).depth.isSome = false := rfl
attribute [go_sem] wide_fn wide_depth wideR_fn wideR_depth
section
variable {P : Program} {ops : Array Oper} {Q : Act → World → Prop} {S : Nat → Prop}
end

/-- how a round's body may be left; the loop's two blocks are as they were -/
def roundQ {α : Type} (h : Nat) (Kp : World → World → Prop) (I : List α → World → Prop) (Ix : Code → List α → World → Prop) (xs : List α) (W : World) : Exit → Act → World → Prop
 | .normal, _, W' => (W'.heap[h]? = W.heap[h]? ∧ W'.heap[h + 1]? = W.heap[h + 1]?) ∧ Kp W W' ∧ I xs W'
 | .ret, _, W' => (W'.heap[h]? = W.heap[h]? ∧ W'.heap[h + 1]? = W.heap[h + 1]?) ∧ Ix .ret xs W'
 | .exit id, _, W' => (W'.heap[h]? = W.heap[h]? ∧ W'.heap[h + 1]? = W.heap[h + 1]?) ∧ Ix (.exit id) xs W'
 | .goto t, _, W' => (W'.heap[h]? = W.heap[h]? ∧ W'.heap[h + 1]? = W.heap[h + 1]?) ∧ Ix (.goto t) xs W'
 | .panic _, _, _ => False
 | .outgrown, _, _ => False

/-- the world in which the iterator begins -/
def loopW (w : World) (r : Loop) : World := (w.alloc (.deferred (some []))).alloc (.loop r)

end Go.Proofs.YtchoiankeohonaaGreatDoor

set_option linter.all false
namespace Go.Proofs.YtchoiankeohonaaGreatDoor
open Go Go.RowKit

theorem wp_rangeOverW {P : Program} {n : Nat} {α : Type} {g : Operand} {ps : Array Tmp} {assign body : Code} {Q : Exit → Act → World → Prop} {a : Act} {w : World}
  {gf : Nat} {lb : Array Value} (hg : a.eval g = .func (.func gf) #[] lb) (eg : ∀ args w, (callFunc gf args).run P w = .ok (.enter gf args) w)
  (encs : α → Array Value) (hps : ∀ x, (encs x).size = ps.size) (St : List α → World → World → Prop) (Kp : α → World → World → Prop) (Pr : List α → α → World → Prop) (Sd : List α → World → Prop) (hSd : ∀ xs W o, Sd xs W → Sd xs (W.putObj (w.heap.size + 1) o))
  (hSt : ∀ s A B, St s A B → ∀ b, b = w.heap.size ∨ b = w.heap.size + 1 → b < A.heap.size → B.heap[b]? = A.heap[b]?)
  (hKt : ∀ x A B C, Kp x A B → Kp x B C → Kp x A C) (hKb : ∀ pre x W o, Pr pre x W → ∀ A, Kp x A (A.putObj (w.heap.size + 1) o)) (hPr : ∀ pre x W o, Pr pre x W → Pr pre x (W.putObj (w.heap.size + 1) o))
  (hiter : ∀ (r : Loop) (J Jx : List α → World → Prop), (∀ s A B, J s A → St s A B → J s B) →
    (∀ pre x W, J pre W → Pr pre x W → YieldAt Fence.wide (n - 1 - 1) P (w.heap.size + 1) (encs x) W fun e W' => (e = .returned (.bool true) ∧ J (pre ++ [x]) W' ∧ Kp x W W') ∨ (e = .returned (.bool false) ∧ Jx (pre ++ [x]) W')) →
    J [] (loopW w r) → CallsIn Fence.wide (n - 1) P gf (#[.func (.yield (w.heap.size + 1)) #[] #[]] ++ lb) (loopW w r) fun e W' => (∃ v, e = .returned v) ∧ ((∃ xs, Sd xs W' ∧ J xs W') ∨ (∃ pre, Jx pre W')))
  (I : List α → World → Prop) (Ix : Code → List α → World → Prop) (hI : ∀ s W r r0, W.heap[w.heap.size + 1]? = some (.loop r0) → I s W → I s (W.putObj (w.heap.size + 1) (.loop r))) (hIx : ∀ c s W r r0, W.heap[w.heap.size + 1]? = some (.loop r0) → Ix c s W → Ix c s (W.putObj (w.heap.size + 1) (.loop r)))
  (hIS : ∀ s A B, I s A → St s A B → I s B) (h0 : ∀ r, I [] (loopW w r)) (a₁ : α → Act)
  (hassign : ∀ (l : Nat) (x : α) (W : World) (K : Act → World → Prop), K (a₁ x) W →
    assign.wpIn (Fence.wide.inRound l) (n - 1 - 1) P (Exit.then K (fun _ _ _ => False)) { tmps := (ps.zip (encs x)).foldl (fun t (p, v) => t.setIfInBounds p v) a.tmps, defers := [] } W)
  (hbody : ∀ (l : Nat) (pre : List α) (x : α) (W : World), (∃ r, W.heap[w.heap.size + 1]? = some (.loop r)) → I pre W → Pr pre x W → body.wpIn (Fence.wide.inRound l) (n - 1 - 1) P (roundQ w.heap.size (Kp x) I Ix (pre ++ [x]) W) (a₁ x) W)
  (hdone : ∀ (xs : List α) (W : World), Sd xs W → I xs W → W.heap[w.heap.size]? = some (.deferred (some [])) → Q .normal { a with defers := { target := .collected w.heap.size, args := #[] } :: a.defers } W)
  (hstop : ∀ (c : Code) (pre : List α) (W : World), Ix c pre W → W.heap[w.heap.size]? = some (.deferred (some [])) → c.wpIn Fence.wide n P Q { a with defers := { target := .collected w.heap.size, args := #[] } :: a.defers } W) :
  (Code.rangeFunc g ps assign body).wpIn Fence.wide n P Q a w := by
 refine wpIn_rangeFunc ?_
 intro fn hfn
 obtain ⟨rec, hrec⟩ : ∃ rec : LoopState → Option Code → Loop, rec = fun st pe => { state := st, pending := pe, fn, tmps := a.tmps, params := ps, assign, body, defers := w.heap.size } := ⟨_, rfl⟩
 have hL1 : (loopW w (rec .ready none)).heap[w.heap.size + 1]? = some (.loop (rec .ready none)) := by
  have := World.alloc_heap_new (w.alloc (.deferred (some []))) (.loop (rec .ready none)); rwa [World.size_alloc] at this
 have hK1 : (loopW w (rec .ready none)).heap[w.heap.size]? = some (.deferred (some [])) := (Below.heap_alloc _ _ _ (by simp)).trans (World.alloc_heap_new w _)
 refine ⟨w.heap.size + 1, [{ target := .collected w.heap.size, args := #[] }], loopW w (rec .ready none), { target := .fn (.func gf) lb, args := #[.func (.yield (w.heap.size + 1)) #[] #[]] }, loopW w (rec .ready none), gf,
  #[.func (.yield (w.heap.size + 1)) #[] #[]] ++ lb, loopW w (rec .ready none), ?_, ?_, fun _ _ => trivial, ?_, fun hs => by simp [Fence.wide] at hs, ?_⟩
 ·rw [hrec]; exact run_enterLoop_outer _ _ _ _ _
 ·simp only [resolve, hg]
  simp [go_sem]
 ·simp [invoke, go_sem, eg]
 refine (hiter (rec .ready none)
  (fun pre W => I pre W ∧ W.heap[w.heap.size + 1]? = some (.loop (rec .ready none)) ∧ W.heap[w.heap.size]? = some (.deferred (some [])))
  (fun pre W => ∃ c, Ix c pre W ∧ W.heap[w.heap.size + 1]? = some (.loop (rec .done (some c))) ∧ W.heap[w.heap.size]? = some (.deferred (some [])))
  (fun s A B hs hst => ⟨hIS s A B hs.1 hst, (hSt s A B hst _ (.inr rfl) (Array.getElem?_eq_some_iff.1 hs.2.1).1).trans hs.2.1, (hSt s A B hst _ (.inl rfl) (Array.getElem?_eq_some_iff.1 hs.2.2).1).trans hs.2.2⟩) ?_ ⟨h0 _, hL1, hK1⟩).mono ?_
 ·rintro pre x W ⟨hi, hl, hk⟩ hpr
  have hlt : w.heap.size + 1 < W.heap.size := (Array.getElem?_eq_some_iff.1 hl).1
  have hy := run_yield (P := P) (args := encs x) hl (by rw [hrec]; exact hps x)
  rw [hrec] at hy
  refine ⟨fn, _, assign, body, hy, roundIn_of_wpIn trivial (hassign _ x W _ ⟨_, run_beginRound hl (by rw [hrec]), ?_⟩)⟩
  have hl2 : (W.putObj (w.heap.size + 1) (.loop { rec .ready none with state := .busy })).heap[w.heap.size + 1]? = some (.loop { rec .ready none with state := .busy }) := World.putObj_heap_same hlt
  have hk2 : (W.putObj (w.heap.size + 1) (.loop { rec .ready none with state := .busy })).heap[w.heap.size]? = some (.deferred (some [])) := (World.putObj_heap_other (by omega)).trans hk
  refine wpIn_mono (hbody _ pre x _ ⟨_, hl2⟩ (hI _ _ _ _ hl hi) (hPr _ _ _ _ hpr)) ?_
  have fin : ∀ (jump : Option Code) (W3 : World), (W3.heap[w.heap.size]? = (W.putObj (w.heap.size + 1) (.loop { rec .ready none with state := .busy })).heap[w.heap.size]? ∧ W3.heap[w.heap.size + 1]? = (W.putObj (w.heap.size + 1) (.loop { rec .ready none with state := .busy })).heap[w.heap.size + 1]?) →
    (Instr.endRound (w.heap.size + 1) jump).run P W3 = .ok (.bool jump.isNone) (W3.putObj (w.heap.size + 1) (.loop (rec (if jump.isNone then .ready else .done) jump))) ∧
    (W3.putObj (w.heap.size + 1) (.loop (rec (if jump.isNone then .ready else .done) jump))).heap[w.heap.size + 1]? = some (.loop (rec (if jump.isNone then .ready else .done) jump)) ∧
    (W3.putObj (w.heap.size + 1) (.loop (rec (if jump.isNone then .ready else .done) jump))).heap[w.heap.size]? = some (.deferred (some [])) := fun jump W3 hk3 => by
   have hl3 := hk3.2.trans hl2
   have := run_endRound (P := P) jump hl3
   rw [hrec] at this ⊢
   exact ⟨this, World.putObj_heap_same (Array.getElem?_eq_some_iff.1 hl3).1, (World.putObj_heap_other (by omega)).trans (hk3.1.trans hk2)⟩
  rintro e a3 W3 hp
  cases e with
  | normal =>
   obtain ⟨hk3, hkp3, hi3⟩ := hp
   obtain ⟨hr, hl4, hk4⟩ := fin none W3 hk3
   exact ⟨_, _, hr, .inl ⟨rfl, ⟨hI _ _ _ _ (hk3.2.trans hl2) hi3, hl4, hk4⟩, hKt _ _ _ _ (hKt _ _ _ _ (hKb _ _ _ _ hpr _) hkp3) (hKb _ _ _ _ hpr _)⟩⟩
  | ret =>
   obtain ⟨hk3, hi3⟩ := hp
   obtain ⟨hr, hl4, hk4⟩ := fin (some .ret) W3 hk3
   exact ⟨_, _, hr, .inr ⟨rfl, .ret, hIx _ _ _ _ _ (hk3.2.trans hl2) hi3, hl4, hk4⟩⟩
  | exit id =>
   obtain ⟨hk3, hi3⟩ := hp
   obtain ⟨hr, hl4, hk4⟩ := fin (some (.exit id)) W3 hk3
   exact ⟨_, _, hr, .inr ⟨rfl, .exit id, hIx _ _ _ _ _ (hk3.2.trans hl2) hi3, hl4, hk4⟩⟩
  | goto t =>
   obtain ⟨hk3, hi3⟩ := hp
   obtain ⟨hr, hl4, hk4⟩ := fin (some (.goto t)) W3 hk3
   exact ⟨_, _, hr, .inr ⟨rfl, .goto t, hIx _ _ _ _ _ (hk3.2.trans hl2) hi3, hl4, hk4⟩⟩
  | panic ch => exact hp.elim
  | outgrown => exact hp.elim
 ·rintro e W2 ⟨⟨v, rfl⟩, (⟨xs, hS, hi, hl, hk⟩ | ⟨pre, c, hi, hl, hk⟩)⟩
  ·exact ⟨none, _, by have := run_endLoop (P := P) hl (by rw [hrec]; simp); rw [hrec] at this; exact this, hdone xs _ (hSd _ _ _ hS) (hI _ _ _ _ hl hi) ((World.putObj_heap_other (by omega)).trans hk)⟩
  ·exact ⟨some c, _, by have := run_endLoop (P := P) hl (by rw [hrec]; simp); rw [hrec] at this; exact this, hstop c pre _ (hIx _ _ _ _ _ hl hi) ((World.putObj_heap_other (by omega)).trans hk)⟩
end Go.Proofs.YtchoiankeohonaaGreatDoor

set_option linter.all false
namespace Go.Proofs.YtchoiankeohonaaGreatDoor

structure In where
 op : Int
 d : Int
 a : Int
 b : Int
 fn : Int
 obj : Int
 off : Int
 size : Int
 num : Int
 args : List Int
 log : Bool
structure Bk where
 ins : List In
 fin : Int
 a : Int
 to : Int
 els : Int
structure Sl where
 size : Int
 align : Int
 cell : Int
structure Pr where
 void : Bool
 params : Int
 regs : Int
 objs : List Sl
 blks : List Bk
structure Md where
 globs : List Sl
 data : List (List Int)
 procs : List Pr
 main : Int
instance : Inhabited In := ⟨⟨0, 0, 0, 0, 0, 0, 0, 0, 0, [], false⟩⟩
instance : Inhabited Bk := ⟨⟨[], 0, 0, 0, 0⟩⟩
instance : Inhabited Sl := ⟨⟨0, 0, 0⟩⟩
instance : Inhabited Pr := ⟨⟨false, 0, 0, [], []⟩⟩

/-- the register that an instruction sets -/
def defI (i : In) : Int :=
 if i.op = 1 ∨ i.op = 2 ∨ i.op = 3 ∨ i.op = 4 ∨ i.op = 5 ∨ i.op = 7 ∨ i.op = 8 ∨ i.op = 9 ∨ i.op = 11 then i.d else -1
def readsA (op : Int) : Bool := op == 3 || op == 6 || op == 2 || op == 4 || op == 5 || op == 10
def readsB (op : Int) : Bool := op == 3 || op == 6
def usesI (i : In) : List Int :=
 (if readsA i.op && i.a != -1 then [i.a] else []) ++ (if readsB i.op && i.b != -1 then [i.b] else []) ++ (if i.op = 9 then i.args.filter (· != -1) else [])
def outsB (b : Bk) : List Int :=
 if b.fin = 1 ∨ b.fin = 2 ∧ b.to = b.els then [b.to] else if b.fin = 2 then [b.to, b.els] else []
/-- the blocks to which a block leads, of those that there are -/
def outsP (p : Pr) (n : Nat) : List Int := (outsB (p.blks.getD n default)).filter fun t => decide (0 ≤ t) && decide (t < p.blks.length)
/-- numbers that a word of 64 bits holds -/
def I64 (n : Int) : Prop := -9223372036854775808 ≤ n ∧ n ≤ 9223372036854775807
structure InOk (i : In) : Prop where
 op : I64 i.op
 d : I64 i.d
 a : I64 i.a
 b : I64 i.b
 fn : I64 i.fn
 obj : I64 i.obj
 off : I64 i.off
 size : I64 i.size
 num : 0 ≤ i.num ∧ i.num < 4294967296
 args : ∀ x ∈ i.args, I64 x
structure BkOk (b : Bk) : Prop where
 ins : ∀ i ∈ b.ins, InOk i
 fin : I64 b.fin
 a : I64 b.a
 to : I64 b.to
 els : I64 b.els
structure SlOk (s : Sl) : Prop where
 size : I64 s.size
 align : I64 s.align
 cell : I64 s.cell
structure PrOk (p : Pr) : Prop where
 params : I64 p.params
 regs : I64 p.regs
 objs : ∀ s ∈ p.objs, SlOk s
 blks : ∀ b ∈ p.blks, BkOk b
structure MdOk (m : Md) : Prop where
 globs : ∀ s ∈ m.globs, SlOk s
 data : ∀ d ∈ m.data, ∀ x ∈ d, 0 ≤ x ∧ x < 256
 procs : ∀ p ∈ m.procs, PrOk p
 main : I64 m.main
end Go.Proofs.YtchoiankeohonaaGreatDoor

set_option linter.all false
namespace Go.Proofs.YtchoiankeohonaaGreatDoor
open Go Go.RowKit

/-- what can be read stays -/
def Ext (w w' : World) : Prop := ∀ a v, w.cell? a = some v → w'.cell? a = some v
theorem Ext.refl (w : World) : Ext w w := fun _ _ h => h
theorem Ext.trans {a b c : World} (h : Ext a b) (k : Ext b c) : Ext a c := fun x v hx => k x v (h x v hx)
theorem Ext.below {w w' : World} (h : Below w.heap.size w w') : Ext w w' := fun a _ hv => (h.cell (World.block_lt_of_cell? w a hv)).trans hv
theorem Ext.alloc (w : World) (o : Obj) : Ext w (w.alloc o) := Ext.below (Below.alloc (Below.refl _ _) (Nat.le_refl _) o)

/-- a slice of n rows of k cells each: R tells of each row's cells -/
def Rows' (w : World) (v : Value) (k n : Nat) (R : Nat → (Nat → Option Value) → Prop) : Prop :=
 ∃ a c, v = .slice a n c ∧ n ≤ c ∧ c ≤ maxLen ∧ ∀ i, i < n → ∃ b o, a = some ⟨b, o, none⟩ ∧ R i fun j => w.cell? ⟨b, o + i * k + j, none⟩
/-- the cells of two worlds: what is read in one is read in the other -/
def Sub (c c' : Nat → Option Value) : Prop := ∀ j v, c j = some v → c' j = some v
theorem Rows'.ext {w w' : World} {v : Value} {k n : Nat} {R R' : Nat → (Nat → Option Value) → Prop} (h : Rows' w v k n R) (he : Ext w w') (hR : ∀ i c c', Sub c c' → R i c → R' i c') : Rows' w' v k n R' := by
 obtain ⟨a, c, h1, h2, h3, h4⟩ := h
 refine ⟨a, c, h1, h2, h3, fun i hi => ?_⟩
 obtain ⟨b, o, e, r⟩ := h4 i hi
 exact ⟨b, o, e, hR i _ _ (fun j v hv => he _ _ hv) r⟩

/-- a slice of integers -/
def RdI (w : World) (v : Value) (l : List Int) : Prop := Rows' w v 1 l.length fun i c => c 0 = some (.int .i64 (l.getD i 0))
theorem RdI.ext {w w' : World} {v : Value} {l : List Int} (h : RdI w v l) (he : Ext w w') : RdI w' v l := Rows'.ext h he fun _ _ _ hs h => hs _ _ h
/-- a slice of bools -/
def RdB (w : World) (v : Value) (l : List Bool) : Prop := Rows' w v 1 l.length fun i c => c 0 = some (.bool (l.getD i false))
theorem RdB.ext {w w' : World} {v : Value} {l : List Bool} (h : RdB w v l) (he : Ext w w') : RdB w' v l := Rows'.ext h he fun _ _ _ hs h => hs _ _ h
/-- a slice of bytes -/
def RdY (w : World) (v : Value) (l : List Int) : Prop := Rows' w v 1 l.length fun i c => c 0 = some (.int .u8 (l.getD i 0))
theorem RdY.ext {w w' : World} {v : Value} {l : List Int} (h : RdY w v l) (he : Ext w w') : RdY w' v l := Rows'.ext h he fun _ _ _ hs h => hs _ _ h
/-- a slice of words -/
def RdW (w : World) (v : Value) (l : List Int) : Prop := Rows' w v 1 l.length fun i c => c 0 = some (.int .u32 (l.getD i 0))
theorem RdW.ext {w w' : World} {v : Value} {l : List Int} (h : RdW w v l) (he : Ext w w') : RdW w' v l := Rows'.ext h he fun _ _ _ hs h => hs _ _ h

/-- an instruction's cells -/
structure InC (w : World) (c : Nat → Option Value) (i : In) : Prop where
 op : c 0 = some (.int .i64 i.op)
 d : c 1 = some (.int .i64 i.d)
 a : c 2 = some (.int .i64 i.a)
 b : c 3 = some (.int .i64 i.b)
 fn : c 4 = some (.int .i64 i.fn)
 obj : c 5 = some (.int .i64 i.obj)
 off : c 6 = some (.int .i64 i.off)
 size : c 7 = some (.int .i64 i.size)
 num : c 8 = some (.int .u32 i.num)
 args : ∃ v, c 9 = some v ∧ RdI w v i.args
 log : c 10 = some (.bool i.log)
theorem InC.ext {w w' : World} {c c' : Nat → Option Value} {i : In} (h : InC w c i) (he : Ext w w') (hs : Sub c c') : InC w' c' i := by
 obtain ⟨h0, h1, h2, h3, h4, h5, h6, h7, h8, ⟨v, h9, hv⟩, h10⟩ := h
 exact ⟨hs _ _ h0, hs _ _ h1, hs _ _ h2, hs _ _ h3, hs _ _ h4, hs _ _ h5, hs _ _ h6, hs _ _ h7, hs _ _ h8, ⟨v, hs _ _ h9, hv.ext he⟩, hs _ _ h10⟩
/-- an instruction by value -/
def InV (w : World) (v : Value) (i : In) : Prop :=
 ∃ va, v = .agg #[.int .i64 i.op, .int .i64 i.d, .int .i64 i.a, .int .i64 i.b, .int .i64 i.fn, .int .i64 i.obj, .int .i64 i.off, .int .i64 i.size, .int .u32 i.num, va, .bool i.log] ∧ RdI w va i.args
theorem InV.ext {w w' : World} {v : Value} {i : In} (h : InV w v i) (he : Ext w w') : InV w' v i := let ⟨va, e, h⟩ := h; ⟨va, e, h.ext he⟩
def RdIns (w : World) (v : Value) (l : List In) : Prop := Rows' w v 11 l.length fun i c => InC w c (l.getD i default)
theorem RdIns.ext {w w' : World} {v : Value} {l : List In} (h : RdIns w v l) (he : Ext w w') : RdIns w' v l := Rows'.ext h he fun _ _ _ hs h => h.ext he hs

/-- a block's cells -/
structure BkC (w : World) (c : Nat → Option Value) (b : Bk) : Prop where
 ins : ∃ v, c 0 = some v ∧ RdIns w v b.ins
 fin : c 1 = some (.int .i64 b.fin)
 a : c 2 = some (.int .i64 b.a)
 to : c 3 = some (.int .i64 b.to)
 els : c 4 = some (.int .i64 b.els)
theorem BkC.ext {w w' : World} {c c' : Nat → Option Value} {b : Bk} (h : BkC w c b) (he : Ext w w') (hs : Sub c c') : BkC w' c' b := by
 obtain ⟨⟨v, h0, hv⟩, h1, h2, h3, h4⟩ := h
 exact ⟨⟨v, hs _ _ h0, hv.ext he⟩, hs _ _ h1, hs _ _ h2, hs _ _ h3, hs _ _ h4⟩
def BkV (w : World) (v : Value) (b : Bk) : Prop :=
 ∃ vi, v = .agg #[vi, .int .i64 b.fin, .int .i64 b.a, .int .i64 b.to, .int .i64 b.els] ∧ RdIns w vi b.ins
theorem BkV.ext {w w' : World} {v : Value} {b : Bk} (h : BkV w v b) (he : Ext w w') : BkV w' v b := let ⟨vi, e, h⟩ := h; ⟨vi, e, h.ext he⟩
def RdBks (w : World) (v : Value) (l : List Bk) : Prop := Rows' w v 5 l.length fun i c => BkC w c (l.getD i default)
theorem RdBks.ext {w w' : World} {v : Value} {l : List Bk} (h : RdBks w v l) (he : Ext w w') : RdBks w' v l := Rows'.ext h he fun _ _ _ hs h => h.ext he hs

/-- a slot's cells -/
structure SlC (c : Nat → Option Value) (s : Sl) : Prop where
 name : ∃ nm, c 0 = some (.string nm)
 size : c 1 = some (.int .i64 s.size)
 align : c 2 = some (.int .i64 s.align)
 cell : c 3 = some (.int .i64 s.cell)
theorem SlC.ext {c c' : Nat → Option Value} {s : Sl} (h : SlC c s) (hs : Sub c c') : SlC c' s := by
 obtain ⟨⟨nm, h0⟩, h1, h2, h3⟩ := h
 exact ⟨⟨nm, hs _ _ h0⟩, hs _ _ h1, hs _ _ h2, hs _ _ h3⟩
def RdSls (w : World) (v : Value) (l : List Sl) : Prop := Rows' w v 4 l.length fun i c => SlC c (l.getD i default)
theorem RdSls.ext {w w' : World} {v : Value} {l : List Sl} (h : RdSls w v l) (he : Ext w w') : RdSls w' v l := Rows'.ext h he fun _ _ _ hs h => h.ext hs

/-- a procedure's cells -/
structure PrC (w : World) (c : Nat → Option Value) (p : Pr) : Prop where
 name : ∃ nm, c 0 = some (.string nm)
 void : c 1 = some (.bool p.void)
 params : c 2 = some (.int .i64 p.params)
 regs : c 3 = some (.int .i64 p.regs)
 objs : ∃ v, c 4 = some v ∧ RdSls w v p.objs
 blks : ∃ v, c 5 = some v ∧ RdBks w v p.blks
theorem PrC.ext {w w' : World} {c c' : Nat → Option Value} {p : Pr} (h : PrC w c p) (he : Ext w w') (hs : Sub c c') : PrC w' c' p := by
 obtain ⟨⟨nm, h0⟩, h1, h2, h3, ⟨v, h4, hv⟩, ⟨u, h5, hu⟩⟩ := h
 exact ⟨⟨nm, hs _ _ h0⟩, hs _ _ h1, hs _ _ h2, hs _ _ h3, ⟨v, hs _ _ h4, hv.ext he⟩, ⟨u, hs _ _ h5, hu.ext he⟩⟩
def PrV (w : World) (v : Value) (p : Pr) : Prop :=
 ∃ nm vo vb, v = .agg #[.string nm, .bool p.void, .int .i64 p.params, .int .i64 p.regs, vo, vb] ∧ RdSls w vo p.objs ∧ RdBks w vb p.blks
theorem PrV.ext {w w' : World} {v : Value} {p : Pr} (h : PrV w v p) (he : Ext w w') : PrV w' v p := let ⟨nm, vo, vb, e, h, k⟩ := h; ⟨nm, vo, vb, e, h.ext he, k.ext he⟩
def RdPrs (w : World) (v : Value) (l : List Pr) : Prop := Rows' w v 6 l.length fun i c => PrC w c (l.getD i default)
theorem RdPrs.ext {w w' : World} {v : Value} {l : List Pr} (h : RdPrs w v l) (he : Ext w w') : RdPrs w' v l := Rows'.ext h he fun _ _ _ hs h => h.ext he hs
/-- a slice of slices of bytes -/
def RdYs (w : World) (v : Value) (l : List (List Int)) : Prop := Rows' w v 1 l.length fun i c => ∃ u, c 0 = some u ∧ RdY w u (l.getD i [])
theorem RdYs.ext {w w' : World} {v : Value} {l : List (List Int)} (h : RdYs w v l) (he : Ext w w') : RdYs w' v l := Rows'.ext h he fun _ _ _ hs ⟨u, h, k⟩ => ⟨u, hs _ _ h, k.ext he⟩
def MdV (w : World) (v : Value) (m : Md) : Prop :=
 ∃ vg vd vp, v = .agg #[vg, vd, vp, .int .i64 m.main] ∧ RdSls w vg m.globs ∧ RdYs w vd m.data ∧ RdPrs w vp m.procs
theorem MdV.ext {w w' : World} {v : Value} {m : Md} (h : MdV w v m) (he : Ext w w') : MdV w' v m := let ⟨vg, vd, vp, e, h, k, l⟩ := h; ⟨vg, vd, vp, e, h.ext he, k.ext he, l.ext he⟩
end Go.Proofs.YtchoiankeohonaaGreatDoor

set_option linter.all false
namespace Go.Proofs.YtchoiankeohonaaGreatDoor
open Go.ChangeShapes Go.WideShapes Go.ChangeAt Go.RowKit
set_option maxHeartbeats 400000

theorem ret_i {k : IntKind} {a b : Int} (h : a = b) : Ending.returned (.int k a) = .returned (.int k b) := by rw [h]
theorem ret_b {a b : Bool} (h : a = b) : Ending.returned (.bool a) = .returned (.bool b) := by rw [h]
theorem below_alloc (w : World) (o : Obj) : Below w.heap.size w (w.alloc o) := Below.alloc (Below.refl _ _) (Nat.le_refl _) o
theorem def_c (i : In) (v : Value) (w : World) (hv : InV w v i) :
  Calls Tryz.prog 94 #[v] w fun e w' => e = .returned (.int .i64 (defI i)) ∧ Below w.heap.size w w' := by
 obtain ⟨va, rfl, hva⟩ := hv
 go_enter Tryz.func94, Tryz.ntmps94
 go_wp2
 all_goals
  go_ret
  simp only [beq_iff_eq, beq_eq_false_iff_ne, ne_eq] at *
  exact ⟨ret_i (by unfold defI; first | rw [if_pos (by omega)] | rw [if_neg (by omega)]), below_alloc _ _⟩
theorem reads_c (op : Int) (w : World) :
  Calls Tryz.prog 64 #[.int .i64 op] w fun e w' => e = .returned (.tuple #[.bool (readsA op), .bool (readsB op)]) ∧ w = w' := by
 go_enter Tryz.func64, Tryz.ntmps64
 go_wp2
 all_goals
  go_ret2
  refine ⟨?_, rfl⟩
  unfold readsA readsB
  simp [*]
end Go.Proofs.YtchoiankeohonaaGreatDoor
