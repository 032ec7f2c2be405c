/-
 What few modules are like: plain.; inline: a round of the loop; a module with what inline makes of a procedure. Plain.; inline: the blocks one by one, those that are put behind, too (the iterator).; Contracts of flow's Each: the function that it hands back, for whatever stands in the loop.; A range over flow's Each: what the callers share.
-/
import Derived.Test.YtchoiankeohonaaGreatDoorZInlineAll04
import Derived.Test.YtchoiankeohonaaGreatDoorZInlineAll05
import Derived.Test.YtchoiankeohonaaGreatDoorZInlineAll42
import Derived.Test.YtchoiankeohonaaGreatDoorZInlineAll02
import Derived.Test.YtchoiankeohonaaGreatDoorZInlineAll43
import Derived.Test.YtchoiankeohonaaGreatDoorZInlineAll33
import Derived.Test.YtchoiankeohonaaGreatDoorZInlineAll29

set_option linter.all false
namespace Go.Proofs.YtchoiankeohonaaGreatDoor
set_option linter.unusedVariables false

theorem fewM_sz {m : Md} (h : fewM m = true) : SzM m := by
 unfold fewM at h
 simp only [Bool.and_eq_true, List.all_eq_true] at h
 refine ⟨fun p hp => ?_⟩
 have h2 := h.2.2.2 p hp
 unfold prF at h2
 simp only [Bool.and_eq_true, decide_eq_true_eq, List.all_eq_true] at h2
 refine ⟨by omega, fun b hb => ?_⟩
 have h3 := h2.2.2 b hb
 unfold blkF at h3
 simp only [Bool.and_eq_true, decide_eq_true_eq] at h3
 omega
theorem fewM_pr {m : Md} (h : fewM m = true) {p : Pr} (hp : p ∈ m.procs) : p.blks.length ≤ 40 ∧ p.objs.length ≤ 20 ∧ ∀ b ∈ p.blks, b.ins.length ≤ 60 ∧ ∀ i ∈ b.ins, insF i = true := by
 unfold fewM at h
 simp only [Bool.and_eq_true, List.all_eq_true] at h
 have h2 := h.2.2.2 p hp
 unfold prF at h2
 simp only [Bool.and_eq_true, decide_eq_true_eq, List.all_eq_true] at h2
 refine ⟨h2.1, h2.2.1, fun b hb => ?_⟩
 have h3 := h2.2.2 b hb
 unfold blkF at h3
 simp only [Bool.and_eq_true, decide_eq_true_eq, List.all_eq_true] at h3
 exact h3
end Go.Proofs.YtchoiankeohonaaGreatDoor

set_option linter.all false
namespace Go.Proofs.YtchoiankeohonaaGreatDoor
set_option linter.unusedVariables false
set_option maxHeartbeats 1000000

/-- what a round makes of the procedure -/
def stepQ (m : Md) (k : Nat) (Q : Pr) (full : Bool) : Pr × Bool :=
 match callAt m (bq Q k) with
 | none => (Q, full)
 | some at' => if full = true then (Q, full) else if 2000 < sizeQ (putP m Q k at') ∨ 8000 < (putP m Q k at').regs then (Q, true) else (putP m Q k at', false)
theorem inlR_step {m : Md} {f k : Nat} {Q : Pr} {full : Bool} (hk : k < Q.blks.length) : inlR m (f + 1) k Q full = inlR m f (k + 1) (stepQ m k Q full).1 (stepQ m k Q full).2 := by
 show (if k < Q.blks.length then _ else _) = _
 rw [if_pos hk]
 unfold stepQ
 cases callAt m (bq Q k) with
 | none => rfl
 | some at' =>
  dsimp only
  by_cases h1 : full = true
  ·rw [if_pos h1, if_pos h1]
  ·rw [if_neg h1, if_neg h1]
   by_cases h2 : 2000 < sizeQ (putP m Q k at') ∨ 8000 < (putP m Q k at').regs
   ·rw [if_pos h2, if_pos h2]
   ·rw [if_neg h2, if_neg h2]
theorem inlR_end {m : Md} {f k : Nat} {Q : Pr} {full : Bool} (hk : Q.blks.length ≤ k) : inlR m f k Q full = Q := by
 cases f with
 | zero => rfl
 | succ f => show (if k < Q.blks.length then _ else _) = _; rw [if_neg (by omega)]
theorem InlI.step {m : Md} {P Q : Pr} (h : InlI m P Q) (hok : okM m = true) (hmd : MdOk m) {k : Nat} (hk : k < Q.blks.length) (full : Bool) : InlI m P (stepQ m k Q full).1 := by
 unfold stepQ
 cases hc : callAt m (bq Q k) with
 | none => exact h
 | some at' =>
  dsimp only
  by_cases h1 : full = true
  ·rw [if_pos h1]; exact h
  ·rw [if_neg h1]
   by_cases h2 : 2000 < sizeQ (putP m Q k at') ∨ 8000 < (putP m Q k at').regs
   ·rw [if_pos h2]; exact h
   ·rw [if_neg h2]; exact h.put hok hmd hk hc (by omega) (by omega)
theorem InlI.start {m : Md} {P : Pr} (hk : okP m P = true) (hp : PrOk P) (hs : sizeQ P ≤ 2500) : InlI m P P := ⟨MtP.refl m P, hk, hp, hs⟩
theorem inlP_ok {m : Md} {P : Pr} (hok : okM m = true) (hmd : MdOk m) (h : InlI m P P) : InlI m P (inlP m P) := InlI.inlR hok hmd _ _ _ _ h
theorem insN_mem4 {p : Pr} {b : Bk} (h : b ∈ p.blks) : b.ins.length ≤ insN p := by
 unfold insN
 generalize p.blks = l at *
 induction l with
 | nil => cases h
 | cons a l ih =>
  rw [List.map_cons, List.sum_cons]
  rcases List.mem_cons.1 h with rfl | h
  ·omega
  ·have := ih h; omega
theorem InlI.szP {m : Md} {P Q : Pr} (h : InlI m P Q) : SzP Q := by
 have hs := h.sz
 unfold sizeQ at hs
 exact ⟨by omega, fun b hb => by have := insN_mem4 hb; omega⟩
theorem few_size {m : Md} (hf : fewM m = true) {p : Pr} (hp : p ∈ m.procs) : sizeQ p ≤ 2500 := by
 obtain ⟨h1, -, h3⟩ := fewM_pr hf hp
 unfold sizeQ insN
 have key : ∀ l : List Bk, (∀ b ∈ l, b.ins.length ≤ 60) → (l.map fun (b : Bk) => b.ins.length).sum ≤ 60 * l.length := fun l => by
  induction l with
  | nil => intro _; simp
  | cons a l ih =>
   intro hl
   have := ih fun b hb => hl b (List.mem_cons_of_mem _ hb)
   have := hl a List.mem_cons_self
   rw [List.map_cons, List.sum_cons, List.length_cons]
   omega
 have := key p.blks fun b hb => (h3 b hb).1
 omega
end Go.Proofs.YtchoiankeohonaaGreatDoor

set_option linter.all false
namespace Go.Proofs.YtchoiankeohonaaGreatDoor
open Go.ChangeShapes Go.WideShapes Go.ChangeAt Go.RowKit
set_option maxHeartbeats 8000000
set_option maxRecDepth 100000
set_option linter.unusedVariables false

/-- the builder can be read through its box -/
def GB (bb pc : Nat) (W : World) : Prop := W.cell? ⟨pc, 0, none⟩ = some (.pointer (some ⟨bb, 0, none⟩)) ∧ ∃ a m c, W.cell? ⟨bb, 9, none⟩ = some (.slice a m c) ∧ m ≤ 3000
def PrB (bb : Nat) (pre : List Nat) (x : Nat) (W : World) : Prop := x = pre.length ∧ ∃ a m c, W.cell? ⟨bb, 9, none⟩ = some (.slice a m c) ∧ x < m ∧ m ≤ 3000
def SdB (bb : Nat) (xs : List Nat) (W : World) : Prop := ∃ a m c, W.cell? ⟨bb, 9, none⟩ = some (.slice a m c) ∧ m ≤ xs.length
theorem blocks1_c (bb pc n l : Nat) (W1 : World) (hG : GB bb pc W1) (J Jx : List Nat → World → Prop)
  (hY : ∀ pre x W, J pre W → PrB bb pre x W → YieldAt Fence.wide (n - 1) Tryz.prog l #[.int .i64 (x : Int)] W fun e W' => (e = .returned (.bool true) ∧ J (pre ++ [x]) W' ∧ (GB bb pc W → GB bb pc W')) ∨ (e = .returned (.bool false) ∧ Jx (pre ++ [x]) W'))
  (h0 : J [] W1) :
  CallsIn Fence.wide n Tryz.prog 35 #[.func (.yield l) #[] #[], .pointer (some ⟨pc, 0, none⟩)] W1 fun e W' =>
   (∃ v, e = .returned v) ∧ ((∃ xs, SdB bb xs W' ∧ J xs W') ∨ ∃ pre, Jx pre W') := by
 have HY := Lib.hid hY
 have HG := Lib.hid hG
 have HJ := Lib.hid h0
 clear hY hG h0
 refine callsIn_of_wp Tryz.func35 rfl trivial ?_ rfl
 simp only [Tryz.ntmps35, List.size_toArray, List.length_cons, List.length_nil, Nat.reduceAdd, Nat.reduceSub, Array.replicate_succ, Array.replicate_zero, List.push_toArray, List.append_toArray, List.nil_append, List.cons_append]
 gi_wp2
 gi_loopw [3] (fun i wr => ∃ pre : List Nat, i = .int .i64 (pre.length : Int) ∧ pre.length ≤ 3000 ∧ Hid (J pre wr) ∧ Hid (GB bb pc wr)) (fun i _ => 3001 - (intOf i).toNat)
 case atStart => exact ⟨[], rfl, Nat.zero_le _, HJ, HG⟩
 case round =>
  clear HJ HG
  obtain ⟨pre, rfl, hp, HJ, HG⟩ := hrel
  obtain ⟨p0, a, m, c, p9, hm⟩ := HG.out
  have lp := World.block_lt_of_cell? wr _ p0
  have lb := World.block_lt_of_cell? wr _ p9
  by_cases hlt : pre.length < m
  ·have q1 : decide ((pre.length : Int) < (m : Int)) = true := decide_eq_true (by omega)
   obtain ⟨fn, tmps, assign, body, hy, hRd⟩ := HY.out pre pre.length wr HJ.out ⟨rfl, a, m, c, p9, hlt, hm⟩
   have hRd := Lib.hid hRd
   gi_wp2
   refine hRd.out.mono ?_
   clear hRd hy
   rintro e W3 (⟨rfl, hJ3, hk3⟩ | ⟨rfl, hJx3⟩)
   ·have HJ3 := Lib.hid hJ3
    have HG3 := Lib.hid (hk3 HG.out)
    clear hJ3 hk3 HJ HG p0 p9 lp lb
    gi_wp2
    go_roundw
    case rel => exact ⟨pre ++ [pre.length], by rw [List.length_append, List.length_singleton]; go_num, by rw [List.length_append, List.length_singleton]; omega, HJ3, HG3⟩
    case measure => simp [intOf]; try omega
   ·gi_wp2
    refine bodyPost_ret (results_none rfl _ _ _) rfl ?_
    exact ⟨⟨_, rfl⟩, .inr ⟨_, hJx3⟩⟩
  ·have q1 : decide ((pre.length : Int) < (m : Int)) = false := decide_eq_false (by omega)
   have HS : Hid (SdB bb pre wr) := ⟨a, m, c, p9, by omega⟩
   gi_wp2
   go_end0
   exact ⟨⟨_, rfl⟩, .inl ⟨pre, HS.out, HJ.out⟩⟩
end Go.Proofs.YtchoiankeohonaaGreatDoor

set_option linter.all false
namespace Go.Proofs.YtchoiankeohonaaGreatDoor
open Go.ChangeShapes Go.WideShapes Go.ChangeAt Go.RowKit
set_option maxHeartbeats 4000000
set_option maxRecDepth 100000
attribute [local go_sem] Oper.semAt_some

/-- what a round is handed: the place of the instruction, and the row of marks: its block and how many it may hold -/
structure EX where
 i : Nat
 g : Nat
 c : Nat
/-- what a round keeps -/
structure KpE (W0 : World) (x : EX) (A B : World) : Prop where
 below : Below W0.heap.size A B
 row : B.heap[x.g]? = A.heap[x.g]?
end Go.Proofs.YtchoiankeohonaaGreatDoor

set_option linter.all false
namespace Go.Proofs.YtchoiankeohonaaGreatDoor
open Go.ChangeShapes Go.WideShapes Go.ChangeAt Go.RowKit
set_option maxHeartbeats 4000000
set_option maxRecDepth 100000
set_option linter.unusedVariables false

theorem leavesM_one {P : Program} {n b : Nat} {fn : Func} {R : Ending → World → Prop} {a : Act} {w : World} {v : Value} (hd : a.defers = [{ target := .collected b, args := #[] }]) (hb : w.heap[b]? = some (.deferred (some [])))
  (hr : (results fn a.tmps).run P (w.putObj b (.deferred none)) = .ok v (w.putObj b (.deferred none))) (hR : R (.returned v) (w.putObj b (.deferred none))) : bodyPostM Fence.wide n P fn R .ret a w := by
 show LeavesInM Fence.wide n P fn a.tmps R a.defers .returning w
 rw [hd]
 exact ⟨by simp, .inl ⟨_, _, rfl, run_takeDeferred hb, ⟨v, hr, hR⟩⟩⟩
theorem loopW_below (w : World) (r : Loop) : Below w.heap.size w (loopW w r) := (below_alloc w _).alloc (by simp) _
theorem KpE.trans {W0 : World} {x : EX} {A B C : World} (h : KpE W0 x A B) (k : KpE W0 x B C) : KpE W0 x A C := ⟨h.below.trans k.below, k.row.trans h.row⟩
end Go.Proofs.YtchoiankeohonaaGreatDoor
