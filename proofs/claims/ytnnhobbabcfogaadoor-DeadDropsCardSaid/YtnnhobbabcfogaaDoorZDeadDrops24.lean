/-
 A range over a function: drawn regions in a round; the statement where the iterator writes to memory of its own between two rounds.; Contracts of flow's Each: the function that it hands back, for whatever stands in the loop.
-/
import Derived.RangeFuncNested
import Derived.RangeFuncBound
import Derived.RangeFuncCalls
import Derived.RangeFuncLeaves
import Derived.Shelf.RegionOpen
import Derived.WalkKit
import Derived.OwnWalkIn
import Derived.TacticsInMore
import Derived.LoopNIn
import Derived.LoopIn
import Derived.Test.YtnnhobbabcfogaaDoorZDeadDrops17
import Derived.Test.YtnnhobbabcfogaaDoorZDeadDrops08
import Derived.Test.YtnnhobbabcfogaaDoorZDeadDrops18

set_option linter.all false
namespace Go.Proofs.YtnnhobbabcfogaaDoor
open Go Go.RowKit

theorem wide_fn (f : FuncId) : Fence.wide.fn f = True := rfl
theorem wide_depth : Fence.wide.depth.isSome = false := rfl
theorem wideR_fn (l : Nat) (f : FuncId) : (Fence.wide.inRound l).fn f = True := rfl
theorem wideR_depth (l : Nat) : (Fence.wide.inRound l).depth.isSome = false := rfl
attribute [go_sem] wide_fn wide_depth wideR_fn wideR_depth
/-- no deferred call is written there -/
def noDefer (ops : Array Oper) : Bool := ops.all fun o => match o.op with | .defer _ => false | _ => true
theorem noDefer_at {ops : Array Oper} (h : noDefer ops = true) {i : Nat} {o : Oper} (hi : ops[i]? = some o) : ∀ c, o.op ≠ .defer c := by
 intro c hc
 unfold noDefer at h
 rw [Array.all_eq_true] at h
 obtain ⟨hlt, rfl⟩ := Array.getElem?_eq_some_iff.1 hi
 have := h i hlt
 rw [hc] at this
 cases this

section
variable {P : Program} {ops : Array Oper} {Q : Act → World → Prop} {S : Nat → Prop}
theorem wpIn_never {l n : Nat} {o : Oper} {a : Act} {w : World} {K K' : Act → World → Prop} {Q' : Exit → Act → World → Prop} (hd : ∀ c, o.op ≠ .defer c) (h : ∀ a w, K a w → K' a w)
  (hh : o.wp P a w K never) : o.wpIn (Fence.wide.inRound l) n P a w K' Q' := by
 unfold Oper.wp at hh
 unfold Oper.wpIn
 refine ⟨fun _ _ => trivial, ?_⟩
 rw [Oper.semAt_eq _ _ _ hd]
 generalize (execOp a.eval o).run P w = r at *
 cases r with
 | ok x w' =>
  cases x <;> simp only [Oper.upon] at hh <;> simp only [Oper.uponIn]
  case value => exact h _ _ hh
  case skip => exact h _ _ hh
  case defer => exact h _ _ hh
  case enter f args =>
   refine ⟨fun hs => by simp [Fence.wide] at hs, CallsIn.inRound l (callsIn_wide.2 (Calls.mono hh fun e w'' he => ?_))⟩
   cases e with
   | returned v => exact h _ _ he
   | panicked c => exact he.elim
   | outgrown => obtain ⟨_, _, hf⟩ := he; exact hf.elim
  case row row args =>
   refine ⟨fun hs => by simp [Fence.wide] at hs, fun c cs hr => ?_⟩
   obtain ⟨v, w2, h1, h2⟩ := hh c cs
   exact ⟨v, w2, h _ _ h1, (StepsIn.of_steps h2).mono fun m _ => fenced_wide P m⟩
 | halt x w' =>
  cases x <;> simp only [Oper.upon] at hh
  case panic => exact hh.elim
theorem wpAnyIn_of_E {l n : Nat} (hd : noDefer ops = true) {Q' : Exit → Act → World → Prop} (hQ : ∀ a w, Q a w → Q' .normal a w) :
  ∀ (f : Nat) (listed : Array Bool) (a : Act) (w : World), wpE S P ops Q f listed a w → wpAnyIn (Fence.wide.inRound l) n P .any ops Q' f listed a w
 | 0, _, _, _, h => ⟨h.1, hQ _ _ h.2⟩
 | f + 1, listed, a, w, h => ⟨fun h0 => hQ _ _ (h.1 h0), fun i hi => by
   have h1 := h.2 i hi
   unfold eOp at h1
   unfold wpOpIn
   split
   ·rename_i ho; simp only [ho] at h1; exact wpAnyIn_of_E hd hQ f _ _ _ h1
   ·rename_i o ho
    simp only [ho] at h1
    split
    ·rename_i hw
     simp only [hw, if_true] at h1
     exact wpIn_never (noDefer_at hd ho) (fun a' w' h2 => wpAnyIn_of_E hd hQ f _ _ _ h2.2) h1
    ·rename_i hw
     simp only [hw] at h1
     exact ⟨fun _ _ => trivial, wpAnyIn_of_E hd hQ f _ _ _ h1⟩⟩
theorem wpAnyIn_of_J {l n : Nat} (hd : noDefer ops = true) {Q' : Exit → Act → World → Prop} (hQ : ∀ a w, Q a w → Q' .normal a w) :
  ∀ (f : Nat) (listed : Array Bool) (a : Act) (w : World), wpJ S P ops Q f listed a w → wpAnyIn (Fence.wide.inRound l) n P .any ops Q' f listed a w
 | 0, _, _, _, h => ⟨h.1, hQ _ _ h.2⟩
 | f + 1, listed, a, w, h => ⟨fun h0 => hQ _ _ (h.1 h0), fun i hi => by
   have h1 := h.2 i hi
   unfold eOpX at h1
   unfold wpOpIn
   split
   ·rename_i ho; simp only [ho] at h1; exact wpAnyIn_of_J hd hQ f _ _ _ (h1 _ (Below.refl _ _))
   ·rename_i o ho
    simp only [ho] at h1
    split
    ·rename_i hw
     simp only [hw, if_true] at h1
     exact wpIn_never (noDefer_at hd ho) (fun a' w' h2 => wpAnyIn_of_J hd hQ f _ _ _ (h2.2 _ (Below.refl _ _))) h1
    ·rename_i hw
     simp only [hw] at h1
     exact ⟨fun _ _ => trivial, wpAnyIn_of_J hd hQ f _ _ _ (h1 _ (Below.refl _ _))⟩⟩
/-- a drawn region in a round, walked as everywhere -/
theorem wpR_region_game (S : Nat → Prop) {l n id : Nat} {Q' : Exit → Act → World → Prop} {a : Act} {w : World} (hm : P.follows .mixedOrders = true) (hd : noDefer ops = true)
  (h : wpE S P ops (fun a' w' => Q' .normal a' w') ops.size (Array.replicate ops.size false) a { w with drawn := w.drawn + 1 }) : (Code.region id ops true).wpIn (Fence.wide.inRound l) n P Q' a w :=
 wpIn_region_any hm (wpAnyIn_of_E hd (fun _ _ h => h) _ _ _ _ h)
theorem wpR_region_junk (S : Nat → Prop) {l n id : Nat} {Q' : Exit → Act → World → Prop} {a : Act} {w : World} (hm : P.follows .mixedOrders = true) (hd : noDefer ops = true)
  (h : wpJ S P ops (fun a' w' => Q' .normal a' w') ops.size (Array.replicate ops.size false) a { w with drawn := w.drawn + 1 }) : (Code.region id ops true).wpIn (Fence.wide.inRound l) n P Q' a w :=
 wpIn_region_any hm (wpAnyIn_of_J hd (fun _ _ h => h) _ _ _ _ h)
end

/-- how a round's body may be left; the loop's two blocks are as they were -/
def roundQ {α : Type} (h : Nat) (Kp : World → World → Prop) (I : List α → World → Prop) (Ix : Code → List α → World → Prop) (xs : List α) (W : World) : Exit → Act → World → Prop
 | .normal, _, W' => (W'.heap[h]? = W.heap[h]? ∧ W'.heap[h + 1]? = W.heap[h + 1]?) ∧ Kp W W' ∧ I xs W'
 | .ret, _, W' => (W'.heap[h]? = W.heap[h]? ∧ W'.heap[h + 1]? = W.heap[h + 1]?) ∧ Ix .ret xs W'
 | .exit id, _, W' => (W'.heap[h]? = W.heap[h]? ∧ W'.heap[h + 1]? = W.heap[h + 1]?) ∧ Ix (.exit id) xs W'
 | .goto t, _, W' => (W'.heap[h]? = W.heap[h]? ∧ W'.heap[h + 1]? = W.heap[h + 1]?) ∧ Ix (.goto t) xs W'
 | .panic _, _, _ => False
 | .outgrown, _, _ => False

/-- the world in which the iterator begins -/
def loopW (w : World) (r : Loop) : World := (w.alloc (.deferred (some []))).alloc (.loop r)

theorem wp_rangeOver {P : Program} {n : Nat} {α : Type} {g : Operand} {ps : Array Tmp} {assign body : Code} {Q : Exit → Act → World → Prop} {a : Act} {w : World}
  {gf : Nat} {lb : Array Value} (hg : a.eval g = .func (.func gf) #[] lb) (eg : ∀ args w, (callFunc gf args).run P w = .ok (.enter gf args) w)
  (encs : α → Array Value) (hps : ∀ x, (encs x).size = ps.size) (St : List α → World → World → Prop) (Kp : α → World → World → Prop) (Pr : List α → α → World → Prop) (Sd : List α → Prop)
  (hSt : ∀ s A B, St s A B → ∀ b, b = w.heap.size ∨ b = w.heap.size + 1 → b < A.heap.size → B.heap[b]? = A.heap[b]?)
  (hKt : ∀ x A B C, Kp x A B → Kp x B C → Kp x A C) (hKb : ∀ pre x W o, Pr pre x W → ∀ A, Kp x A (A.putObj (w.heap.size + 1) o)) (hPr : ∀ pre x W o, Pr pre x W → Pr pre x (W.putObj (w.heap.size + 1) o))
  (hiter : ∀ (r : Loop) (J Jx : List α → World → Prop), (∀ s A B, J s A → St s A B → J s B) →
    (∀ pre x W, J pre W → Pr pre x W → YieldAt Fence.wide (n - 1 - 1) P (w.heap.size + 1) (encs x) W fun e W' => (e = .returned (.bool true) ∧ J (pre ++ [x]) W' ∧ Kp x W W') ∨ (e = .returned (.bool false) ∧ Jx (pre ++ [x]) W')) →
    J [] (loopW w r) → CallsIn Fence.wide (n - 1) P gf (#[.func (.yield (w.heap.size + 1)) #[] #[]] ++ lb) (loopW w r) fun e W' => (∃ v, e = .returned v) ∧ ((∃ xs, Sd xs ∧ J xs W') ∨ (∃ pre, Jx pre W')))
  (I : List α → World → Prop) (Ix : Code → List α → World → Prop) (hI : ∀ s W o, I s W → I s (W.putObj (w.heap.size + 1) o)) (hIx : ∀ c s W o, Ix c s W → Ix c s (W.putObj (w.heap.size + 1) o))
  (hIS : ∀ s A B, I s A → St s A B → I s B) (h0 : ∀ r, I [] (loopW w r)) (a₁ : α → Act)
  (hassign : ∀ (l : Nat) (x : α) (W : World) (K : Act → World → Prop), K (a₁ x) W →
    assign.wpIn (Fence.wide.inRound l) (n - 1 - 1) P (Exit.then K (fun _ _ _ => False)) { tmps := (ps.zip (encs x)).foldl (fun t (p, v) => t.setIfInBounds p v) a.tmps, defers := [] } W)
  (hbody : ∀ (l : Nat) (pre : List α) (x : α) (W : World), I pre W → Pr pre x W → body.wpIn (Fence.wide.inRound l) (n - 1 - 1) P (roundQ w.heap.size (Kp x) I Ix (pre ++ [x]) W) (a₁ x) W)
  (hdone : ∀ (xs : List α) (W : World), Sd xs → I xs W → W.heap[w.heap.size]? = some (.deferred (some [])) → Q .normal { a with defers := { target := .collected w.heap.size, args := #[] } :: a.defers } W)
  (hstop : ∀ (c : Code) (pre : List α) (W : World), Ix c pre W → W.heap[w.heap.size]? = some (.deferred (some [])) → c.wpIn Fence.wide n P Q { a with defers := { target := .collected w.heap.size, args := #[] } :: a.defers } W) :
  (Code.rangeFunc g ps assign body).wpIn Fence.wide n P Q a w := by
 refine wpIn_rangeFunc ?_
 intro fn hfn
 obtain ⟨rec, hrec⟩ : ∃ rec : LoopState → Option Code → Loop, rec = fun st pe => { state := st, pending := pe, fn, tmps := a.tmps, params := ps, assign, body, defers := w.heap.size } := ⟨_, rfl⟩
 have hL1 : (loopW w (rec .ready none)).heap[w.heap.size + 1]? = some (.loop (rec .ready none)) := by
  have := World.alloc_heap_new (w.alloc (.deferred (some []))) (.loop (rec .ready none)); rwa [World.size_alloc] at this
 have hK1 : (loopW w (rec .ready none)).heap[w.heap.size]? = some (.deferred (some [])) := (Below.heap_alloc _ _ _ (by simp)).trans (World.alloc_heap_new w _)
 refine ⟨w.heap.size + 1, [{ target := .collected w.heap.size, args := #[] }], loopW w (rec .ready none), { target := .fn (.func gf) lb, args := #[.func (.yield (w.heap.size + 1)) #[] #[]] }, loopW w (rec .ready none), gf,
  #[.func (.yield (w.heap.size + 1)) #[] #[]] ++ lb, loopW w (rec .ready none), ?_, ?_, fun _ _ => trivial, ?_, fun hs => by simp [Fence.wide] at hs, ?_⟩
 ·rw [hrec]; exact run_enterLoop_outer _ _ _ _ _
 ·simp only [resolve, hg]
  simp [go_sem]
 ·simp [invoke, go_sem, eg]
 refine (hiter (rec .ready none)
  (fun pre W => I pre W ∧ W.heap[w.heap.size + 1]? = some (.loop (rec .ready none)) ∧ W.heap[w.heap.size]? = some (.deferred (some [])))
  (fun pre W => ∃ c, Ix c pre W ∧ W.heap[w.heap.size + 1]? = some (.loop (rec .done (some c))) ∧ W.heap[w.heap.size]? = some (.deferred (some [])))
  (fun s A B hs hst => ⟨hIS s A B hs.1 hst, (hSt s A B hst _ (.inr rfl) (Array.getElem?_eq_some_iff.1 hs.2.1).1).trans hs.2.1, (hSt s A B hst _ (.inl rfl) (Array.getElem?_eq_some_iff.1 hs.2.2).1).trans hs.2.2⟩) ?_ ⟨h0 _, hL1, hK1⟩).mono ?_
 ·rintro pre x W ⟨hi, hl, hk⟩ hpr
  have hlt : w.heap.size + 1 < W.heap.size := (Array.getElem?_eq_some_iff.1 hl).1
  have hy := run_yield (P := P) (args := encs x) hl (by rw [hrec]; exact hps x)
  rw [hrec] at hy
  refine ⟨fn, _, assign, body, hy, roundIn_of_wpIn trivial (hassign _ x W _ ⟨_, run_beginRound hl (by rw [hrec]), ?_⟩)⟩
  have hl2 : (W.putObj (w.heap.size + 1) (.loop { rec .ready none with state := .busy })).heap[w.heap.size + 1]? = some (.loop { rec .ready none with state := .busy }) := World.putObj_heap_same hlt
  have hk2 : (W.putObj (w.heap.size + 1) (.loop { rec .ready none with state := .busy })).heap[w.heap.size]? = some (.deferred (some [])) := (World.putObj_heap_other (by omega)).trans hk
  refine wpIn_mono (hbody _ pre x _ (hI _ _ _ hi) (hPr _ _ _ _ hpr)) ?_
  have fin : ∀ (jump : Option Code) (W3 : World), (W3.heap[w.heap.size]? = (W.putObj (w.heap.size + 1) (.loop { rec .ready none with state := .busy })).heap[w.heap.size]? ∧ W3.heap[w.heap.size + 1]? = (W.putObj (w.heap.size + 1) (.loop { rec .ready none with state := .busy })).heap[w.heap.size + 1]?) →
    (Instr.endRound (w.heap.size + 1) jump).run P W3 = .ok (.bool jump.isNone) (W3.putObj (w.heap.size + 1) (.loop (rec (if jump.isNone then .ready else .done) jump))) ∧
    (W3.putObj (w.heap.size + 1) (.loop (rec (if jump.isNone then .ready else .done) jump))).heap[w.heap.size + 1]? = some (.loop (rec (if jump.isNone then .ready else .done) jump)) ∧
    (W3.putObj (w.heap.size + 1) (.loop (rec (if jump.isNone then .ready else .done) jump))).heap[w.heap.size]? = some (.deferred (some [])) := fun jump W3 hk3 => by
   have hl3 := hk3.2.trans hl2
   have := run_endRound (P := P) jump hl3
   rw [hrec] at this ⊢
   exact ⟨this, World.putObj_heap_same (Array.getElem?_eq_some_iff.1 hl3).1, (World.putObj_heap_other (by omega)).trans (hk3.1.trans hk2)⟩
  rintro e a3 W3 hp
  cases e with
  | normal =>
   obtain ⟨hk3, hkp3, hi3⟩ := hp
   obtain ⟨hr, hl4, hk4⟩ := fin none W3 hk3
   exact ⟨_, _, hr, .inl ⟨rfl, ⟨hI _ _ _ hi3, hl4, hk4⟩, hKt _ _ _ _ (hKt _ _ _ _ (hKb _ _ _ _ hpr _) hkp3) (hKb _ _ _ _ hpr _)⟩⟩
  | ret =>
   obtain ⟨hk3, hi3⟩ := hp
   obtain ⟨hr, hl4, hk4⟩ := fin (some .ret) W3 hk3
   exact ⟨_, _, hr, .inr ⟨rfl, .ret, hIx _ _ _ _ hi3, hl4, hk4⟩⟩
  | exit id =>
   obtain ⟨hk3, hi3⟩ := hp
   obtain ⟨hr, hl4, hk4⟩ := fin (some (.exit id)) W3 hk3
   exact ⟨_, _, hr, .inr ⟨rfl, .exit id, hIx _ _ _ _ hi3, hl4, hk4⟩⟩
  | goto t =>
   obtain ⟨hk3, hi3⟩ := hp
   obtain ⟨hr, hl4, hk4⟩ := fin (some (.goto t)) W3 hk3
   exact ⟨_, _, hr, .inr ⟨rfl, .goto t, hIx _ _ _ _ hi3, hl4, hk4⟩⟩
  | panic ch => exact hp.elim
  | outgrown => exact hp.elim
 ·rintro e W2 ⟨⟨v, rfl⟩, (⟨xs, hS, hi, hl, hk⟩ | ⟨pre, c, hi, hl, hk⟩)⟩
  ·exact ⟨none, _, by have := run_endLoop (P := P) hl (by rw [hrec]; simp); rw [hrec] at this; exact this, hdone xs _ hS (hI _ _ _ hi) ((World.putObj_heap_other (by omega)).trans hk)⟩
  ·exact ⟨some c, _, by have := run_endLoop (P := P) hl (by rw [hrec]; simp); rw [hrec] at this; exact this, hstop c pre _ (hIx _ _ _ _ hi) ((World.putObj_heap_other (by omega)).trans hk)⟩
end Go.Proofs.YtnnhobbabcfogaaDoor

set_option linter.all false
namespace Go.Proofs.YtnnhobbabcfogaaDoor
open Go.ChangeShapes Go.WideShapes Go.ChangeAt Go.RowKit
set_option maxHeartbeats 4000000
set_option maxRecDepth 100000
attribute [local go_sem] Oper.semAt_some

theorem each_c (p : Pr) (nm : ByteArray) (vo vb : Value) (oa : Option Addr) (on oc : Nat) (n : Int) (w : World) :
  Calls Tryd.prog 73 #[.agg #[.string nm, .bool p.void, .int .i64 p.params, .int .i64 p.regs, vo, vb], .int .i64 n, .slice oa on oc] w fun e w' =>
   e = .returned (.func (.func 94) #[] #[.pointer (some ⟨w.heap.size + 1, 0, none⟩), .pointer (some ⟨w.heap.size, 0, none⟩), .pointer (some ⟨w.heap.size + 2, 0, none⟩)]) ∧
   w' = ((w.alloc (.cells #[.string nm, .bool p.void, .int .i64 p.params, .int .i64 p.regs, vo, vb] 37)).alloc (.cells #[.int .i64 n] 3)).alloc (.cells #[.slice oa on oc] 74) := by
 go_enter Tryd.func73, Tryd.ntmps73
 go_wp2_with fail
 go_ret
 exact ⟨rfl, rfl⟩
theorem run_eql_func_nil {P : Program} (w : World) (t : TypeId) (f : Fn) (xs ys : Array Value) {ps rs : Array TypeId} {vd : Bool} (ht : P.underlying t = some (.func ps rs vd)) :
  (binOp .eql t (.func f xs ys) .nilFunc).run P w = .ok (.bool false) w := by
 have h : ∀ d : Nat, (Op.equalIn (d + 1) t (.func f xs ys) .nilFunc).run P w = .ok false w := fun d => by
  simp [Op.equalIn, run_underlying ht]
 simp only [binOp]
 simp [Op.equal, Op.maxDepth, h 9999]
theorem eql_seq (w : World) (f : Fn) (xs ys : Array Value) : (binOp .eql 104 (.func f xs ys) .nilFunc).run Tryd.prog w = .ok (.bool false) w := run_eql_func_nil w _ f xs ys Tryd.underlying104
/-- what a round is handed: the place of the instruction, and the row of marks: its block and how many it may hold -/
structure EX where
 i : Nat
 g : Nat
 c : Nat
def encE (R : Nat) (x : EX) : Array Value := #[.int .i64 (x.i : Int), .slice (some ⟨x.g, 0, none⟩) R x.c]
/-- what the iterator turns between two rounds -/
def StE (H : Nat) (s : List EX) (A B : World) : Prop :=
 match s with
 | [] => Below A.heap.size A B
 | x :: _ => H ≤ x.g ∧ But x.g A B
/-- what a round keeps -/
structure KpE (W0 : World) (x : EX) (A B : World) : Prop where
 below : Below W0.heap.size A B
 row : B.heap[x.g]? = A.heap[x.g]?
/-- what a round may build on -/
structure PrE (W0 : World) (H : Nat) (L : List In) (lo : List Bool) (R : Nat) (pre : List EX) (x : EX) (W : World) : Prop where
 len : pre.length < L.length
 i : x.i = L.length - 1 - pre.length
 g : H ≤ x.g
 row : RowB W x.g R x.c (backK lo (L.drop (x.i + 1)))
 same : ∀ y ∈ pre, y.g = x.g
 below : Below W0.heap.size W0 W
theorem RowB.of_block {w w' : World} {g n c : Nat} {l : List Bool} (h : RowB w g n c l) (e : w'.heap[g]? = w.heap[g]?) : RowB w' g n c l := by
 obtain ⟨h1, h2 | ⟨g', cap, cur, h3, h4, h5, r⟩⟩ := h
 ·exact ⟨h1, .inl h2⟩
 ·have h3' := h3
  simp only [Value.slice.injEq, Option.some.injEq, Addr.mk.injEq] at h3'
  exact ⟨h1, .inr ⟨g', cap, cur, h3, h4, by rw [← h3'.1.1, e, h3'.1.1]; exact h5, r⟩⟩
theorem StE.of {H : Nat} {pre : List EX} {x : EX} {A B : World} (h : ∀ y ∈ pre, y.g = x.g) (hH : H ≤ x.g) (hb : But x.g A B) : StE H (pre ++ [x]) A B := by
 cases pre with
 | nil => exact ⟨hH, hb⟩
 | cons y l => have e := h y (List.mem_cons_self ..); exact ⟨by rw [e]; exact hH, by rw [e]; exact hb⟩
theorem below_put {n : Nat} (W : World) {l : Nat} (o : Obj) (h : n ≤ l) : Below n W (W.putObj l o) :=
 ⟨rfl, rfl, rfl, by simp, fun k hk => World.putObj_heap_other (by omega)⟩
theorem each1_c (p : Pr) (k : Nat) (lo : List Bool) (R c0 go bp bn bo n l : Nat) (vb : Value) (W0 W1 : World) (hvb : RdBks W0 vb p.blks) (hk : k < p.blks.length)
  (hargs : ∀ j, j < (p.blks.getD k default).ins.length → ((p.blks.getD k default).ins.getD j default).args.length ≤ 1000) (hlen : (p.blks.getD k default).ins.length ≤ 100000) (hlo : lo.length ≤ 1000000) (hp0 : p.blks.length ≤ 1000000)
  (hb : Below W0.heap.size W0 W1) (y5 : W1.cell? ⟨bp, 5, none⟩ = some vb) (yn : W1.cell? ⟨bn, 0, none⟩ = some (.int .i64 (k : Int))) (yo : W1.cell? ⟨bo, 0, none⟩ = some (.slice (some ⟨go, 0, none⟩) R c0)) (hrow : RowB W1 go R c0 lo)
  (J Jx : List EX → World → Prop) (hJ : ∀ s A B, J s A → StE W1.heap.size s A B → J s B)
  (hY : ∀ pre x W, J pre W → PrE W0 W1.heap.size (p.blks.getD k default).ins lo R pre x W → YieldAt Fence.wide (n - 1) Tryd.prog l (encE R x) W fun e W' => (e = .returned (.bool true) ∧ J (pre ++ [x]) W' ∧ KpE W0 x W W') ∨ (e = .returned (.bool false) ∧ Jx (pre ++ [x]) W'))
  (h0 : J [] W1) :
  CallsIn Fence.wide n Tryd.prog 94 #[.func (.yield l) #[] #[], .pointer (some ⟨bn, 0, none⟩), .pointer (some ⟨bp, 0, none⟩), .pointer (some ⟨bo, 0, none⟩)] W1 fun e W' =>
   (∃ v, e = .returned v) ∧ ((∃ xs, xs.length = (p.blks.getD k default).ins.length ∧ J xs W') ∨ ∃ pre, Jx pre W') := by
 have hvb' := hvb
 obtain ⟨ab, cb, rfl, hb1, hb2, -⟩ := hvb'
 have HBk := Lib.hid (RdBks.at hvb).2
 unfold maxLen at hb2
 obtain ⟨bb, ob, vi, rfl, hvi, c0', -⟩ := HBk.out k hk
 have hvi' := hvi
 obtain ⟨ai, ci, rfl, hi1, hi2, -⟩ := hvi'
 unfold maxLen at hi2
 have HV := Lib.hid hvi
 have C0 := Lib.hid c0'
 have HAR := Lib.hid hargs
 have EC : Hid (Calls Tryd.prog 92 #[.slice (some ⟨go, 0, none⟩) R c0] W1 fun e w' => ∃ g' c', e = .returned (.slice (some ⟨g', 0, none⟩) R c') ∧ W1.heap.size ≤ g' ∧ RowB w' g' R c' lo ∧ Below W1.heap.size W1 w') := clone_c go R c0 lo W1 hrow hlo
 have HY := Lib.hid hY
 have HJ := Lib.hid hJ
 have HB := Lib.hid hb
 have hz := hb.size
 clear hvi c0' HBk hargs hrow hY hJ hb hlo
 have e0 : Hid (backK lo ((p.blks.getD k default).ins.drop (p.blks.getD k default).ins.length) = lo) := backK_end _ _
 generalize (p.blks.getD k default).ins = L at *
 have hk0 : (0 : Int) ≤ (k : Int) := by omega
 have hk1 : (k : Int) < (p.blks.length : Int) := by omega
 refine callsIn_of_wp Tryd.func94 rfl trivial ?_ rfl
 simp only [Tryd.ntmps94, List.size_toArray, List.length_cons, List.length_nil, Nat.reduceAdd, Nat.reduceSub, Array.replicate_succ, Array.replicate_zero, List.push_toArray, List.append_toArray, List.nil_append, List.cons_append]
 gi_wp2_with (gi_at_call 92; refine (callsIn_wide.2 EC.out).mono ?_; rintro e w2 ⟨g, c', rfl, hg, hr2, hB2⟩; have HR2 := Lib.hid hr2; have HB2 := Lib.hid hB2; have yn := (hB2.cell (p := ⟨bn, 0, none⟩) (World.block_lt_of_cell? W1 _ yn)).trans yn; have y5 := (hB2.cell (p := ⟨bp, 5, none⟩) (World.block_lt_of_cell? W1 _ y5)).trans y5; have c0 := Ext.below (HB.out.trans (hB2.mono hz)) _ _ C0.out; clear hr2 hB2 EC)
 have hgW : W0.heap.size ≤ g := Nat.le_trans hz hg
 have HJ2 : Hid (J [] w2) := HJ.out [] W1 w2 h0 HB2.out
 have HBL : Hid (Below W0.heap.size W0 w2) := HB.out.trans (HB2.out.mono hz)
 clear yn y5 c0 h0 HB2
 gi_loopw [7] (fun i wr => ∃ (m : Nat) (pre : List EX), m ≤ L.length ∧ i = .int .i64 ((m : Int) - 1) ∧ pre.length + m = L.length ∧ Hid (∀ y ∈ pre, y.g = g) ∧ Hid (J pre wr) ∧ Hid (RowB wr g R c' (backK lo (L.drop m))) ∧ Hid (Below W0.heap.size W0 wr)) (fun i _ => (intOf i + 1).toNat)
 case atStart => exact ⟨L.length, [], Nat.le_refl _, by first | rfl | go_num, by simp, fun y hy => (by cases hy), HJ2, by rw [e0.out]; exact HR2, HBL⟩
 case round =>
  clear HJ2 HR2 HBL e0
  obtain ⟨m, pre, hm, rfl, hpre, HG, HJr, HRr, HBr⟩ := hrel
  by_cases hlt : 0 < m
  ·obtain ⟨i, rfl⟩ : ∃ i, m = i + 1 := ⟨m - 1, by omega⟩
   have hi : ((i + 1 : Nat) : Int) - 1 = (i : Int) := by omega
   rw [hi]
   clear hi
   have hiL : i < L.length := by omega
   have hpr : PrE W0 W1.heap.size L lo R pre ⟨i, g, c'⟩ wr := ⟨by omega, by show i = _; omega, hg, HRr.out, HG.out, HBr.out⟩
   obtain ⟨fn, tmps, assign, body, hy, hRd⟩ := HY.out pre ⟨i, g, c'⟩ wr HJr.out hpr
   have hRd := Lib.hid hRd
   dsimp only [encE] at hy
   clear hpr
   gi_wp2
   refine hRd.out.mono ?_
   clear hRd hy
   rintro e W3 (⟨rfl, hJ3, hk3⟩ | ⟨rfl, hJx3⟩)
   ·have HJ3 := Lib.hid hJ3
    have HB3 : Hid (Below W0.heap.size W0 W3) := HBr.out.trans hk3.below
    have HR3 : Hid (RowB W3 g R c' (backK lo (L.drop (i + 1)))) := HRr.out.of_block hk3.row
    clear hJ3 hk3 HJr HRr HBr
    have hI := (HV.out).at
    obtain ⟨b4, o4, va, rfl, hbw4, hva, d0, d1, d2, d3, d4, d5, d6, d7, d8, d9, d10⟩ := hI.2 i hiL
    have hX4 := Ext.below HB3.out
    have HI4 : Hid (InV W0 (.agg #[.int .i64 (L.getD i default).op, .int .i64 (L.getD i default).d, .int .i64 (L.getD i default).a, .int .i64 (L.getD i default).b, .int .i64 (L.getD i default).fn, .int .i64 (L.getD i default).obj, .int .i64 (L.getD i default).off, .int .i64 (L.getD i default).size, .int .u32 (L.getD i default).num, va, .bool (L.getD i default).log]) (L.getD i default)) := ⟨va, rfl, hva⟩
    have HA4 := Lib.hid (HAR.out i hiL)
    have HK4 := Lib.hid (backK_step lo L i hiL)
    replace d0 := hX4 _ _ d0
    replace d1 := hX4 _ _ d1
    replace d2 := hX4 _ _ d2
    replace d3 := hX4 _ _ d3
    replace d4 := hX4 _ _ d4
    replace d5 := hX4 _ _ d5
    replace d6 := hX4 _ _ d6
    replace d7 := hX4 _ _ d7
    replace d8 := hX4 _ _ d8
    replace d9 := hX4 _ _ d9
    replace d10 := hX4 _ _ d10
    clear hI hva hX4 hbw4
    generalize L.getD i default = I4 at *
    have EB : Hid (Calls Tryd.prog 93 #[.slice (some ⟨g, 0, none⟩) R c', .agg #[.int .i64 I4.op, .int .i64 I4.d, .int .i64 I4.a, .int .i64 I4.b, .int .i64 I4.fn, .int .i64 I4.obj, .int .i64 I4.off, .int .i64 I4.size, .int .u32 I4.num, va, .bool I4.log]] W3 fun e w' => e = .returned (.tuple #[]) ∧ RowB w' g R c' (backK lo (L.drop i)) ∧ But g W3 w') := by
     have := before_c W0 g R c' _ I4 _ W3 HB3.out hgW HR3.out HI4.out HA4.out
     rw [HK4.out]
     exact this
    gi_wp2_with (gi_at_call 93; refine (callsIn_wide.2 EB.out).mono ?_; rintro e w4 ⟨rfl, hr4, hb4⟩; have HR4 := Lib.hid hr4; have HB4 := Lib.hid hb4; clear hb4 hr4)
    have HJ4 : Hid (J (pre ++ [⟨i, g, c'⟩]) w4) := HJ.out _ _ _ HJ3.out (StE.of HG.out hg HB4.out)
    have HB5 : Hid (Below W0.heap.size W0 w4) := HB3.out.trans (HB4.out.toBelow hgW HB3.out.size)
    clear d0 d1 d2 d3 d4 d5 d6 d7 d8 d9 d10 EB HB4
    go_roundw
    case rel => exact ⟨i, pre ++ [⟨i, g, c'⟩], by omega, by go_num, by simp; omega, fun y hy => by rcases List.mem_append.1 hy with h | h; exact HG.out y h; rw [List.mem_singleton.1 h], HJ4, HR4, HB5⟩
    case measure => simp [intOf]; try omega
   ·gi_wp2
    refine bodyPost_ret (results_none rfl _ _ _) rfl ?_
    exact ⟨⟨_, rfl⟩, .inr ⟨_, hJx3⟩⟩
  ·obtain rfl : m = 0 := by omega
   gi_wp2
   go_end0
   exact ⟨⟨_, rfl⟩, .inl ⟨pre, by omega, HJr.out⟩⟩
/-- no such block: no round -/
theorem each1_no (p : Pr) (k : Int) (vb O : Value) (bp bn bo n l : Nat) (W0 W1 : World) (hvb : RdBks W0 vb p.blks) (hk : k < 0 ∨ (p.blks.length : Int) ≤ k)
  (y5 : W1.cell? ⟨bp, 5, none⟩ = some vb) (yn : W1.cell? ⟨bn, 0, none⟩ = some (.int .i64 k)) :
  CallsIn Fence.wide n Tryd.prog 94 #[.func (.yield l) #[] #[], .pointer (some ⟨bn, 0, none⟩), .pointer (some ⟨bp, 0, none⟩), .pointer (some ⟨bo, 0, none⟩)] W1 fun e W' => (∃ v, e = .returned v) ∧ W' = W1 := by
 obtain ⟨ab, cb, rfl, hb1, hb2, -⟩ := hvb
 refine callsIn_of_wp Tryd.func94 rfl trivial ?_ rfl
 simp only [Tryd.ntmps94, List.size_toArray, List.length_cons, List.length_nil, Nat.reduceAdd, Nat.reduceSub, Array.replicate_succ, Array.replicate_zero, List.push_toArray, List.append_toArray, List.nil_append, List.cons_append]
 by_cases h0 : k < 0
 ·gi_wp2
  refine bodyPost_ret (results_none rfl _ _ _) rfl ?_
  exact ⟨⟨_, rfl⟩, rfl⟩
 ·have h1 : (p.blks.length : Int) ≤ k := by omega
  gi_wp2
  refine bodyPost_ret (results_none rfl _ _ _) rfl ?_
  exact ⟨⟨_, rfl⟩, rfl⟩
end Go.Proofs.YtnnhobbabcfogaaDoor
