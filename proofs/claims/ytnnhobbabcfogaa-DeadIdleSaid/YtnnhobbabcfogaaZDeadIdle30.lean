/-
  A range over a function: drawn regions in a round; the statement where the iterator writes to memory of its own between two rounds.
-/
import Derived.RangeFuncNested
import Derived.RangeFuncBound
import Derived.RangeFuncCalls
import Derived.RangeFuncLeaves
import Derived.Shelf.RegionOpen
import Derived.WalkKit
import Derived.OwnWalkIn
import Derived.TacticsInMore
import Derived.LoopNIn
import Derived.LoopIn
import Derived.Test.YtnnhobbabcfogaaZDeadIdle23
set_option linter.all false
namespace Go.Proofs.Ytnnhobbabcfogaa
open Go Go.RowKit

theorem wide_fn (f : FuncId) : Fence.wide.fn f = True := rfl
theorem wide_depth : Fence.wide.depth.isSome = false := rfl
theorem wideR_fn (l : Nat) (f : FuncId) : (Fence.wide.inRound l).fn f = True := rfl
theorem wideR_depth (l : Nat) : (Fence.wide.inRound l).depth.isSome = false := rfl
attribute [go_sem] wide_fn wide_depth wideR_fn wideR_depth
/-- no deferred call is written there -/
def noDefer (ops : Array Oper) : Bool := ops.all fun o => match o.op with | .defer _ => false | _ => true
theorem noDefer_at {ops : Array Oper} (h : noDefer ops = true) {i : Nat} {o : Oper} (hi : ops[i]? = some o) : ∀ c, o.op ≠ .defer c := by
  intro c hc
  unfold noDefer at h
  rw [Array.all_eq_true] at h
  obtain ⟨hlt, rfl⟩ := Array.getElem?_eq_some_iff.1 hi
  have := h i hlt
  rw [hc] at this
  cases this

section
variable {P : Program} {ops : Array Oper} {Q : Act → World → Prop} {S : Nat → Prop}
theorem wpIn_never {l n : Nat} {o : Oper} {a : Act} {w : World} {K K' : Act → World → Prop} {Q' : Exit → Act → World → Prop} (hd : ∀ c, o.op ≠ .defer c) (h : ∀ a w, K a w → K' a w)
    (hh : o.wp P a w K never) : o.wpIn (Fence.wide.inRound l) n P a w K' Q' := by
  unfold Oper.wp at hh
  unfold Oper.wpIn
  refine ⟨fun _ _ => trivial, ?_⟩
  rw [Oper.semAt_eq _ _ _ hd]
  generalize (execOp a.eval o).run P w = r at *
  cases r with
  | ok x w' =>
    cases x <;> simp only [Oper.upon] at hh <;> simp only [Oper.uponIn]
    case value => exact h _ _ hh
    case skip => exact h _ _ hh
    case defer => exact h _ _ hh
    case enter f args =>
      refine ⟨fun hs => by simp [Fence.wide] at hs, CallsIn.inRound l (callsIn_wide.2 (Calls.mono hh fun e w'' he => ?_))⟩
      cases e with
      | returned v => exact h _ _ he
      | panicked c => exact he.elim
      | outgrown => obtain ⟨_, _, hf⟩ := he; exact hf.elim
    case row row args =>
      refine ⟨fun hs => by simp [Fence.wide] at hs, fun c cs hr => ?_⟩
      obtain ⟨v, w2, h1, h2⟩ := hh c cs
      exact ⟨v, w2, h _ _ h1, (StepsIn.of_steps h2).mono fun m _ => fenced_wide P m⟩
  | halt x w' =>
    cases x <;> simp only [Oper.upon] at hh
    case panic => exact hh.elim
theorem wpAnyIn_of_E {l n : Nat} (hd : noDefer ops = true) {Q' : Exit → Act → World → Prop} (hQ : ∀ a w, Q a w → Q' .normal a w) :
    ∀ (f : Nat) (listed : Array Bool) (a : Act) (w : World), wpE S P ops Q f listed a w → wpAnyIn (Fence.wide.inRound l) n P .any ops Q' f listed a w
  | 0, _, _, _, h => ⟨h.1, hQ _ _ h.2⟩
  | f + 1, listed, a, w, h => ⟨fun h0 => hQ _ _ (h.1 h0), fun i hi => by
      have h1 := h.2 i hi
      unfold eOp at h1
      unfold wpOpIn
      split
      · rename_i ho; simp only [ho] at h1; exact wpAnyIn_of_E hd hQ f _ _ _ h1
      · rename_i o ho
        simp only [ho] at h1
        split
        · rename_i hw
          simp only [hw, if_true] at h1
          exact wpIn_never (noDefer_at hd ho) (fun a' w' h2 => wpAnyIn_of_E hd hQ f _ _ _ h2.2) h1
        · rename_i hw
          simp only [hw] at h1
          exact ⟨fun _ _ => trivial, wpAnyIn_of_E hd hQ f _ _ _ h1⟩⟩
theorem wpAnyIn_of_J {l n : Nat} (hd : noDefer ops = true) {Q' : Exit → Act → World → Prop} (hQ : ∀ a w, Q a w → Q' .normal a w) :
    ∀ (f : Nat) (listed : Array Bool) (a : Act) (w : World), wpJ S P ops Q f listed a w → wpAnyIn (Fence.wide.inRound l) n P .any ops Q' f listed a w
  | 0, _, _, _, h => ⟨h.1, hQ _ _ h.2⟩
  | f + 1, listed, a, w, h => ⟨fun h0 => hQ _ _ (h.1 h0), fun i hi => by
      have h1 := h.2 i hi
      unfold eOpX at h1
      unfold wpOpIn
      split
      · rename_i ho; simp only [ho] at h1; exact wpAnyIn_of_J hd hQ f _ _ _ (h1 _ (Below.refl _ _))
      · rename_i o ho
        simp only [ho] at h1
        split
        · rename_i hw
          simp only [hw, if_true] at h1
          exact wpIn_never (noDefer_at hd ho) (fun a' w' h2 => wpAnyIn_of_J hd hQ f _ _ _ (h2.2 _ (Below.refl _ _))) h1
        · rename_i hw
          simp only [hw] at h1
          exact ⟨fun _ _ => trivial, wpAnyIn_of_J hd hQ f _ _ _ (h1 _ (Below.refl _ _))⟩⟩
/-- a drawn region in a round, walked as everywhere -/
theorem wpR_region_game (S : Nat → Prop) {l n id : Nat} {Q' : Exit → Act → World → Prop} {a : Act} {w : World} (hm : P.follows .mixedOrders = true) (hd : noDefer ops = true)
    (h : wpE S P ops (fun a' w' => Q' .normal a' w') ops.size (Array.replicate ops.size false) a { w with drawn := w.drawn + 1 }) : (Code.region id ops true).wpIn (Fence.wide.inRound l) n P Q' a w :=
  wpIn_region_any hm (wpAnyIn_of_E hd (fun _ _ h => h) _ _ _ _ h)
theorem wpR_region_junk (S : Nat → Prop) {l n id : Nat} {Q' : Exit → Act → World → Prop} {a : Act} {w : World} (hm : P.follows .mixedOrders = true) (hd : noDefer ops = true)
    (h : wpJ S P ops (fun a' w' => Q' .normal a' w') ops.size (Array.replicate ops.size false) a { w with drawn := w.drawn + 1 }) : (Code.region id ops true).wpIn (Fence.wide.inRound l) n P Q' a w :=
  wpIn_region_any hm (wpAnyIn_of_J hd (fun _ _ h => h) _ _ _ _ h)
end

/-- how a round's body may be left; the loop's two blocks are as they were -/
def roundQ {α : Type} (h : Nat) (Kp : World → World → Prop) (I : List α → World → Prop) (Ix : Code → List α → World → Prop) (xs : List α) (W : World) : Exit → Act → World → Prop
  | .normal, _, W' => (W'.heap[h]? = W.heap[h]? ∧ W'.heap[h + 1]? = W.heap[h + 1]?) ∧ Kp W W' ∧ I xs W'
  | .ret, _, W' => (W'.heap[h]? = W.heap[h]? ∧ W'.heap[h + 1]? = W.heap[h + 1]?) ∧ Ix .ret xs W'
  | .exit id, _, W' => (W'.heap[h]? = W.heap[h]? ∧ W'.heap[h + 1]? = W.heap[h + 1]?) ∧ Ix (.exit id) xs W'
  | .goto t, _, W' => (W'.heap[h]? = W.heap[h]? ∧ W'.heap[h + 1]? = W.heap[h + 1]?) ∧ Ix (.goto t) xs W'
  | .panic _, _, _ => False
  | .outgrown, _, _ => False

/-- the world in which the iterator begins -/
def loopW (w : World) (r : Loop) : World := (w.alloc (.deferred (some []))).alloc (.loop r)

theorem wp_rangeOver {P : Program} {n : Nat} {α : Type} {g : Operand} {ps : Array Tmp} {assign body : Code} {Q : Exit → Act → World → Prop} {a : Act} {w : World}
    {gf : Nat} {lb : Array Value} (hg : a.eval g = .func (.func gf) #[] lb) (eg : ∀ args w, (callFunc gf args).run P w = .ok (.enter gf args) w)
    (encs : α → Array Value) (hps : ∀ x, (encs x).size = ps.size) (St : List α → World → World → Prop) (Kp : α → World → World → Prop) (Pr : List α → α → World → Prop) (Sd : List α → Prop)
    (hSt : ∀ s A B, St s A B → ∀ b, b = w.heap.size ∨ b = w.heap.size + 1 → b < A.heap.size → B.heap[b]? = A.heap[b]?)
    (hKt : ∀ x A B C, Kp x A B → Kp x B C → Kp x A C) (hKb : ∀ pre x W o, Pr pre x W → ∀ A, Kp x A (A.putObj (w.heap.size + 1) o)) (hPr : ∀ pre x W o, Pr pre x W → Pr pre x (W.putObj (w.heap.size + 1) o))
    (hiter : ∀ (r : Loop) (J Jx : List α → World → Prop), (∀ s A B, J s A → St s A B → J s B) →
      (∀ pre x W, J pre W → Pr pre x W → YieldAt Fence.wide (n - 1 - 1) P (w.heap.size + 1) (encs x) W fun e W' => (e = .returned (.bool true) ∧ J (pre ++ [x]) W' ∧ Kp x W W') ∨ (e = .returned (.bool false) ∧ Jx (pre ++ [x]) W')) →
      J [] (loopW w r) → CallsIn Fence.wide (n - 1) P gf (#[.func (.yield (w.heap.size + 1)) #[] #[]] ++ lb) (loopW w r) fun e W' => (∃ v, e = .returned v) ∧ ((∃ xs, Sd xs ∧ J xs W') ∨ (∃ pre, Jx pre W')))
    (I : List α → World → Prop) (Ix : Code → List α → World → Prop) (hI : ∀ s W o, I s W → I s (W.putObj (w.heap.size + 1) o)) (hIx : ∀ c s W o, Ix c s W → Ix c s (W.putObj (w.heap.size + 1) o))
    (hIS : ∀ s A B, I s A → St s A B → I s B) (h0 : ∀ r, I [] (loopW w r)) (a₁ : α → Act)
    (hassign : ∀ (l : Nat) (x : α) (W : World) (K : Act → World → Prop), K (a₁ x) W →
      assign.wpIn (Fence.wide.inRound l) (n - 1 - 1) P (Exit.then K (fun _ _ _ => False)) { tmps := (ps.zip (encs x)).foldl (fun t (p, v) => t.setIfInBounds p v) a.tmps, defers := [] } W)
    (hbody : ∀ (l : Nat) (pre : List α) (x : α) (W : World), I pre W → Pr pre x W → body.wpIn (Fence.wide.inRound l) (n - 1 - 1) P (roundQ w.heap.size (Kp x) I Ix (pre ++ [x]) W) (a₁ x) W)
    (hdone : ∀ (xs : List α) (W : World), Sd xs → I xs W → W.heap[w.heap.size]? = some (.deferred (some [])) → Q .normal { a with defers := { target := .collected w.heap.size, args := #[] } :: a.defers } W)
    (hstop : ∀ (c : Code) (pre : List α) (W : World), Ix c pre W → W.heap[w.heap.size]? = some (.deferred (some [])) → c.wpIn Fence.wide n P Q { a with defers := { target := .collected w.heap.size, args := #[] } :: a.defers } W) :
    (Code.rangeFunc g ps assign body).wpIn Fence.wide n P Q a w := by
  refine wpIn_rangeFunc ?_
  intro fn hfn
  obtain ⟨rec, hrec⟩ : ∃ rec : LoopState → Option Code → Loop, rec = fun st pe => { state := st, pending := pe, fn, tmps := a.tmps, params := ps, assign, body, defers := w.heap.size } := ⟨_, rfl⟩
  have hL1 : (loopW w (rec .ready none)).heap[w.heap.size + 1]? = some (.loop (rec .ready none)) := by
    have := World.alloc_heap_new (w.alloc (.deferred (some []))) (.loop (rec .ready none)); rwa [World.size_alloc] at this
  have hK1 : (loopW w (rec .ready none)).heap[w.heap.size]? = some (.deferred (some [])) := (Below.heap_alloc _ _ _ (by simp)).trans (World.alloc_heap_new w _)
  refine ⟨w.heap.size + 1, [{ target := .collected w.heap.size, args := #[] }], loopW w (rec .ready none), { target := .fn (.func gf) lb, args := #[.func (.yield (w.heap.size + 1)) #[] #[]] }, loopW w (rec .ready none), gf,
    #[.func (.yield (w.heap.size + 1)) #[] #[]] ++ lb, loopW w (rec .ready none), ?_, ?_, fun _ _ => trivial, ?_, fun hs => by simp [Fence.wide] at hs, ?_⟩
  · rw [hrec]; exact run_enterLoop_outer _ _ _ _ _
  · simp only [resolve, hg]
    simp [go_sem]
  · simp [invoke, go_sem, eg]
  refine (hiter (rec .ready none)
    (fun pre W => I pre W ∧ W.heap[w.heap.size + 1]? = some (.loop (rec .ready none)) ∧ W.heap[w.heap.size]? = some (.deferred (some [])))
    (fun pre W => ∃ c, Ix c pre W ∧ W.heap[w.heap.size + 1]? = some (.loop (rec .done (some c))) ∧ W.heap[w.heap.size]? = some (.deferred (some [])))
    (fun s A B hs hst => ⟨hIS s A B hs.1 hst, (hSt s A B hst _ (.inr rfl) (Array.getElem?_eq_some_iff.1 hs.2.1).1).trans hs.2.1, (hSt s A B hst _ (.inl rfl) (Array.getElem?_eq_some_iff.1 hs.2.2).1).trans hs.2.2⟩) ?_ ⟨h0 _, hL1, hK1⟩).mono ?_
  · rintro pre x W ⟨hi, hl, hk⟩ hpr
    have hlt : w.heap.size + 1 < W.heap.size := (Array.getElem?_eq_some_iff.1 hl).1
    have hy := run_yield (P := P) (args := encs x) hl (by rw [hrec]; exact hps x)
    rw [hrec] at hy
    refine ⟨fn, _, assign, body, hy, roundIn_of_wpIn trivial (hassign _ x W _ ⟨_, run_beginRound hl (by rw [hrec]), ?_⟩)⟩
    have hl2 : (W.putObj (w.heap.size + 1) (.loop { rec .ready none with state := .busy })).heap[w.heap.size + 1]? = some (.loop { rec .ready none with state := .busy }) := World.putObj_heap_same hlt
    have hk2 : (W.putObj (w.heap.size + 1) (.loop { rec .ready none with state := .busy })).heap[w.heap.size]? = some (.deferred (some [])) := (World.putObj_heap_other (by omega)).trans hk
    refine wpIn_mono (hbody _ pre x _ (hI _ _ _ hi) (hPr _ _ _ _ hpr)) ?_
    have fin : ∀ (jump : Option Code) (W3 : World), (W3.heap[w.heap.size]? = (W.putObj (w.heap.size + 1) (.loop { rec .ready none with state := .busy })).heap[w.heap.size]? ∧ W3.heap[w.heap.size + 1]? = (W.putObj (w.heap.size + 1) (.loop { rec .ready none with state := .busy })).heap[w.heap.size + 1]?) →
        (Instr.endRound (w.heap.size + 1) jump).run P W3 = .ok (.bool jump.isNone) (W3.putObj (w.heap.size + 1) (.loop (rec (if jump.isNone then .ready else .done) jump))) ∧
        (W3.putObj (w.heap.size + 1) (.loop (rec (if jump.isNone then .ready else .done) jump))).heap[w.heap.size + 1]? = some (.loop (rec (if jump.isNone then .ready else .done) jump)) ∧
        (W3.putObj (w.heap.size + 1) (.loop (rec (if jump.isNone then .ready else .done) jump))).heap[w.heap.size]? = some (.deferred (some [])) := fun jump W3 hk3 => by
      have hl3 := hk3.2.trans hl2
      have := run_endRound (P := P) jump hl3
      rw [hrec] at this ⊢
      exact ⟨this, World.putObj_heap_same (Array.getElem?_eq_some_iff.1 hl3).1, (World.putObj_heap_other (by omega)).trans (hk3.1.trans hk2)⟩
    rintro e a3 W3 hp
    cases e with
    | normal =>
      obtain ⟨hk3, hkp3, hi3⟩ := hp
      obtain ⟨hr, hl4, hk4⟩ := fin none W3 hk3
      exact ⟨_, _, hr, .inl ⟨rfl, ⟨hI _ _ _ hi3, hl4, hk4⟩, hKt _ _ _ _ (hKt _ _ _ _ (hKb _ _ _ _ hpr _) hkp3) (hKb _ _ _ _ hpr _)⟩⟩
    | ret =>
      obtain ⟨hk3, hi3⟩ := hp
      obtain ⟨hr, hl4, hk4⟩ := fin (some .ret) W3 hk3
      exact ⟨_, _, hr, .inr ⟨rfl, .ret, hIx _ _ _ _ hi3, hl4, hk4⟩⟩
    | exit id =>
      obtain ⟨hk3, hi3⟩ := hp
      obtain ⟨hr, hl4, hk4⟩ := fin (some (.exit id)) W3 hk3
      exact ⟨_, _, hr, .inr ⟨rfl, .exit id, hIx _ _ _ _ hi3, hl4, hk4⟩⟩
    | goto t =>
      obtain ⟨hk3, hi3⟩ := hp
      obtain ⟨hr, hl4, hk4⟩ := fin (some (.goto t)) W3 hk3
      exact ⟨_, _, hr, .inr ⟨rfl, .goto t, hIx _ _ _ _ hi3, hl4, hk4⟩⟩
    | panic ch => exact hp.elim
    | outgrown => exact hp.elim
  · rintro e W2 ⟨⟨v, rfl⟩, (⟨xs, hS, hi, hl, hk⟩ | ⟨pre, c, hi, hl, hk⟩)⟩
    · exact ⟨none, _, by have := run_endLoop (P := P) hl (by rw [hrec]; simp); rw [hrec] at this; exact this, hdone xs _ hS (hI _ _ _ hi) ((World.putObj_heap_other (by omega)).trans hk)⟩
    · exact ⟨some c, _, by have := run_endLoop (P := P) hl (by rw [hrec]; simp); rw [hrec] at this; exact this, hstop c pre _ (hIx _ _ _ _ hi) ((World.putObj_heap_other (by omega)).trans hk)⟩
end Go.Proofs.Ytnnhobbabcfogaa
