/-
 Contracts of the reference's functions that tell of one instruction and one block.; Regions that draw their order, at the class of worlds that extend one world: whatever calls make new memory in between, each operation yields the same value.; Contracts: the reference's list of registers that are read; a predicate over blocks; slices.IndexFunc and slices.DeleteFunc.; The cells of an own row of numbers.; Contracts: slices.DeleteFunc over the blocks that there are, and the blocks to which a block leads.; Contracts of the reference's functions of flow that look at blocks: Outs, leads, Preds, has, within.; Contracts of the reference's functions of flow: has, within, leads, Preds.; Rows of instructions, one by one.; The contract of the reference's within: what comes first in a block from a place on.; Contracts of the functions of flow that mark registers in a list of bools of the call's own.; Contracts of flow's before and join, and of slices.Clone at bools.
-/
import Derived.Test.YtkhfddodmjnecaaZAliasMeets01
import Derived.BigQuiet
import Derived.Below
import Derived.WalkKit
import Derived.Laws.OwnMore
import Derived.Lib.SliceRun
import Derived.Test.YtkhfddodmjnecaaZAliasMeets00
import Derived.WalkSpells

set_option linter.all false
namespace Go.Proofs.Ytkhfddodmjnecaa
open Go.ChangeShapes Go.WideShapes Go.ChangeAt Go.RowKit
set_option maxHeartbeats 1000000
set_option maxRecDepth 20000

theorem bcell' {B : Nat} {W w1 : World} (hb : Below B W w1) : (∀ b o, b < B → w1.cell? ⟨b, o, none⟩ = W.cell? ⟨b, o, none⟩) ∧ (∀ b o, b < B → w1.frozen? ⟨b, o, none⟩ = W.frozen? ⟨b, o, none⟩) :=
 ⟨fun b o h => hb.cell (p := ⟨b, o, none⟩) h, fun b o h => hb.frozen (p := ⟨b, o, none⟩) h⟩
theorem fld_facts (op : Int) (h1 : 1 ≤ op) (h2 : op ≤ 12) : fld op 0 = decide (op ≠ 6 ∧ op ≠ 10 ∧ op ≠ 12) ∧ fld op 1 = readsA op ∧ fld op 2 = readsB op ∧ fld op 3 = decide (op = 3 ∨ op = 4) ∧
  fld op 4 = decide (op = 7 ∨ op = 8 ∨ op = 9) ∧ fld op 5 = decide (5 ≤ op ∧ op ≤ 8) ∧ fld op 6 = decide (op = 5 ∨ op = 6) ∧ fld op 7 = decide (op = 1) ∧ fld op 8 = decide (op = 9) ∧ fld op 9 = decide (op ≠ 10 ∧ op ≠ 12) := by
 obtain ⟨k, rfl⟩ := Int.eq_ofNat_of_zero_le (show 0 ≤ op by omega)
 obtain ⟨a0, a1, a2, a3, a4, a5, a6, a7, a8, a9⟩ := fld_all ⟨k, by omega⟩
 simp only [] at a0 a1 a2 a3 a4 a5 a6 a7 a8 a9
 refine ⟨(a0 (by omega)).trans ?_, a1, a2, a3.trans ?_, a4.trans ?_, a5.trans ?_, a6.trans ?_, a7.trans ?_, a8.trans ?_, (a9 (by omega)).trans ?_⟩ <;> (congr 1; apply propext; omega)
theorem defI_0 (i : In) (h : i.op < 1 ∨ 12 < i.op) : defI i = -1 := by unfold defI; rw [if_neg (by omega)]
theorem defI_y (i : In) (h1 : 1 ≤ i.op) (h2 : i.op ≤ 12) (h : fld i.op 0 = true) : defI i = i.d := by
 rw [(fld_facts i.op h1 h2).1] at h; simp at h; unfold defI; rw [if_pos (by omega)]
theorem defI_n (i : In) (h1 : 1 ≤ i.op) (h2 : i.op ≤ 12) (h : fld i.op 0 = false) : defI i = -1 := by
 rw [(fld_facts i.op h1 h2).1] at h; simp at h; unfold defI; rw [if_neg (by omega)]
theorem rdef_c (i : In) (v : Value) (w : World) (hv : InV w v i) :
  Calls Try.prog 57 #[v] w fun e w' => e = .returned (.int .i64 (defI i)) ∧ Below w.heap.size w w' := by
 obtain ⟨va, rfl, hva⟩ := hv
 by_cases h : i.op < 1 ∨ 12 < i.op
 ·have H := Lib.hid (defI_0 i h)
  go_enter Try.func57, Try.ntmps57
  go_wp2_with (go_at_call 95; refine (fields_0 _ _ h).mono ?_; rintro e w1 ⟨rfl, hb⟩)
  go_ret
  exact ⟨ret_i H.out.symm, (below_alloc _ _).trans (hb.mono (by simp))⟩
 ·have h1 : 1 ≤ i.op := by omega
  have h2 : i.op ≤ 12 := by omega
  cases hd : fld i.op 0
  ·have H := Lib.hid (defI_n i h1 h2 hd)
   go_enter Try.func57, Try.ntmps57
   go_wp2_with (go_at_call 95; refine (fields_c _ _ h1 h2).mono ?_; rintro e w1 ⟨g, rfl, hg, ha, hb⟩; have c0 := ha.c0)
   go_ret
   exact ⟨ret_i H.out.symm, (below_alloc _ _).trans (hb.mono (by simp))⟩
  ·have H := Lib.hid (defI_y i h1 h2 hd)
   go_enter Try.func57, Try.ntmps57
   go_wp2_with (go_at_call 95; refine (fields_c _ _ h1 h2).mono ?_; rintro e w1 ⟨g, rfl, hg, ha, hb⟩; have c0 := ha.c0; obtain ⟨hc1, _⟩ := bcell' hb)
   go_ret
   exact ⟨ret_i H.out.symm, (below_alloc _ _).trans (hb.mono (by simp))⟩
end Go.Proofs.Ytkhfddodmjnecaa

set_option linter.all false
namespace Go.Proofs.Ytkhfddodmjnecaa
open Go Go.RowKit

/-- a world and new blocks behind its own -/
def plus (W x : World) : World := { W with heap := W.heap ++ x.heap, drawn := x.drawn }
/-- what lies behind -/
def plusRest (W x : World) (a : Addr) : Option Value := if a.block < W.heap.size then none else (plus W x).cell? a

theorem plus_below (W x : World) : Below W.heap.size W (plus W x) := by
 refine ⟨rfl, rfl, rfl, ?_, fun k hk => ?_⟩
 ·show W.heap.size ≤ (W.heap ++ x.heap).size
  simp
 ·show (W.heap ++ x.heap)[k]? = W.heap[k]?
  rw [Array.getElem?_append, if_pos hk]
theorem cell?_plus (W x : World) (a : Addr) : (plus W x).cell? a = (W.cell? a).or (plusRest W x a) := by
 unfold plusRest
 by_cases h : a.block < W.heap.size
 ·rw [if_pos h, (plus_below W x).cell h]; simp
 ·rw [if_neg h]
  have : W.cell? a = none := by
   unfold World.cell?
   rw [Array.getElem?_eq_none (by omega)]
  rw [this]; simp
attribute [go_sem] cell?_plus
end Go.Proofs.Ytkhfddodmjnecaa

set_option linter.all false
namespace Go.Proofs.Ytkhfddodmjnecaa
open Go.ChangeShapes Go.WideShapes Go.ChangeAt Go.RowKit
set_option maxHeartbeats 1000000
set_option maxRecDepth 20000

end Go.Proofs.Ytkhfddodmjnecaa

set_option linter.all false
namespace Go.Proofs.Ytkhfddodmjnecaa
open Go.ChangeShapes Go.WideShapes Go.ChangeAt Go.RowKit

theorem OwnI.cellAt {w : World} {B g n c : Nat} {l : List Int} (h : OwnI w B (.slice (some ⟨g, 0, none⟩) n c) l) : n = l.length ∧ n ≤ c ∧ c ≤ maxLen ∧ B ≤ g ∧ (∀ i, i < n → w.cell? ⟨g, i, none⟩ = some (.int .i64 (l.getD i 0))) ∧ ∀ i, w.frozen? ⟨g, i, none⟩ = false := by
 obtain ⟨ad, cp, h1, h2, h3, h4⟩ := h.rd
 simp only [Value.slice.injEq] at h1
 obtain ⟨rfl, rfl, rfl⟩ := h1
 have hf := World.ownsRow.frozenAt h
 obtain ⟨_, ⟨h5, _⟩ | ⟨g', cap, cur, h5, hb, _⟩⟩ := h
 ·simp at h5
 ·simp only [Value.slice.injEq, Option.some.injEq, Addr.mk.injEq] at h5
  refine ⟨rfl, h2, h3, by omega, fun i hi => ?_, hf⟩
  obtain ⟨b, o, e, hc⟩ := h4 i hi
  simp only [Option.some.injEq, Addr.mk.injEq] at e
  obtain ⟨rfl, rfl, _⟩ := e
  simpa using hc
end Go.Proofs.Ytkhfddodmjnecaa

set_option linter.all false
namespace Go.Proofs.Ytkhfddodmjnecaa
open Go.ChangeShapes Go.WideShapes Go.ChangeAt Go.RowKit
set_option maxHeartbeats 1000000
set_option maxRecDepth 20000

/-- a list that can be read, in memory from block B on -/
def RdF (w : World) (B : Nat) (v : Value) (l : List Int) : Prop := RdI w v l ∧ ∀ a n c, v = .slice (some a) n c → B ≤ a.block
theorem OwnI.rf {w : World} {B : Nat} {v : Value} {l : List Int} (h : OwnI w B v l) : RdF w B v l := ⟨h.rd, fun a n c e => by
 obtain ⟨-, ⟨h5, -⟩ | ⟨g', cap, cur, h5, hb, -⟩⟩ := h
 ·rw [h5] at e; simp at e
 ·rw [h5] at e; simp only [Value.slice.injEq, Option.some.injEq] at e; rw [← e.1]; exact hb⟩
theorem OwnI.set {w : World} {B g n c : Nat} {l : List Int} (h : OwnI w B (.slice (some ⟨g, 0, none⟩) n c) l) (i : Nat) (x : Int) : OwnI (w.setCell ⟨g, i, none⟩ (.int .i64 x)) B (.slice (some ⟨g, 0, none⟩) n c) (l.set i x) := by
 obtain ⟨rfl, _⟩ := h.cellAt
 have := (World.ownsRow.stored h i (.int .i64 x)).1
 unfold OwnI
 rw [List.length_set, List.map_set]
 exact this
theorem idx_filter {p : Int → Bool} {l : List Int} (h : ∀ j, j < l.length → p (l.getD j 0) = false) : l.filter (fun x => !p x) = l := by
 rw [List.filter_eq_self]
 intro x hx
 obtain ⟨j, hj, rfl⟩ := List.getElem_of_mem hx
 have := h j hj
 simp [List.getD, hj] at this
 simp [this]
theorem take_filter {p : Int → Bool} {l : List Int} {k : Nat} (hk : k ≤ l.length) (h : ∀ j, j < k → p (l.getD j 0) = false) : (l.take k).filter (fun x => !p x) = l.take k := by
 apply idx_filter
 intro j hj
 have hj' : j < k := by simp at hj; omega
 have := h j hj'
 simpa [List.getD, hj', List.getElem?_take] using this
theorem set_take (l : List Int) (i : Nat) (x : Int) (h : i < l.length) : (l.set i x).take (i + 1) = l.take i ++ [x] := by
 rw [List.take_succ_eq_append_getElem (by simpa using h)]
 simp [List.take_set_of_le]
/-- how far the deletion has come -/
structure DelR (p : Int → Bool) (l cur : List Int) (i j : Nat) : Prop where
 lt : i < j
 le : j ≤ l.length
 len : cur.length = l.length
 front : cur.take i = (l.take j).filter fun x => !p x
 back : ∀ t, j ≤ t → cur.getD t 0 = l.getD t 0
theorem DelR.start {p : Int → Bool} {l : List Int} {k : Nat} (hk : k < l.length) (hp : p (l.getD k 0) = true) (h : ∀ j, j < k → p (l.getD j 0) = false) : DelR p l l k (k + 1) := by
 refine ⟨by omega, hk, rfl, ?_, fun _ _ => rfl⟩
 rw [take_snoc l k hk, List.filter_append, take_filter (by omega) h, List.filter_cons, hp]
 simp
theorem DelR.drop {p : Int → Bool} {l cur : List Int} {i j : Nat} (h : DelR p l cur i j) (hj : j < l.length) (hp : p (l.getD j 0) = true) : DelR p l cur i (j + 1) := by
 refine ⟨by have := h.lt; omega, hj, h.len, ?_, fun t ht => h.back t (by omega)⟩
 rw [take_snoc l j hj, List.filter_append, ← h.front, List.filter_cons, hp]
 simp
theorem DelR.keep {p : Int → Bool} {l cur : List Int} {i j : Nat} (h : DelR p l cur i j) (hj : j < l.length) (hp : p (l.getD j 0) = false) : DelR p l (cur.set i (l.getD j 0)) (i + 1) (j + 1) := by
 have h1 := h.lt
 have h2 := h.len
 refine ⟨by omega, hj, by simpa using h.len, ?_, fun t ht => ?_⟩
 ·rw [take_snoc l j hj, List.filter_append, ← h.front, List.filter_cons, hp, set_take _ _ _ (by omega)]
  simp
 ·rw [← h.back t (by omega)]
  simp [List.getD, List.getElem?_set, show i ≠ t by omega]
/-- what a call hands back that makes a list to be read -/
def RetR (w : World) (l : List Int) (e : Ending) (w' : World) : Prop := ∃ v, e = .returned v ∧ RdF w' w.heap.size v l ∧ Below w.heap.size w w'
theorem RetI.r {w : World} {l : List Int} {e : Ending} {w' : World} (h : RetI w l e w') : RetR w l e w' := let ⟨v, h1, h2, h3⟩ := h; ⟨v, h1, h2.rf, h3⟩
theorem outsB_len (b : Bk) : (outsB b).length ≤ 2 := by unfold outsB; split <;> (try split) <;> simp
end Go.Proofs.Ytkhfddodmjnecaa

set_option linter.all false
namespace Go.Proofs.Ytkhfddodmjnecaa
open Go.ChangeShapes Go.WideShapes Go.ChangeAt Go.RowKit
set_option maxHeartbeats 1000000
set_option maxRecDepth 20000

theorem Own.drewN {w0 w : World} {B : Nat} {v : Value} {l : List Int} (h : Own w0 B w v l) (n : Nat) : Own w0 B (w.drewN n) v l :=
 ⟨h.own, ⟨h.below.os, h.below.tape, h.below.output, h.below.size, h.below.block⟩, h.le⟩
end Go.Proofs.Ytkhfddodmjnecaa

set_option linter.all false
namespace Go.Proofs.Ytkhfddodmjnecaa
open Go.ChangeShapes Go.WideShapes Go.ChangeAt Go.RowKit
set_option maxHeartbeats 1000000
set_option maxRecDepth 20000

/-- is a number in a list? -/
def hasL (l : List Int) (r : Int) : Bool := l.contains r
theorem OwnI.below {w w' : World} {B : Nat} {v : Value} {l : List Int} (h : OwnI w B v l) (hb : Below w.heap.size w w') : OwnI w' B v l := by
 obtain ⟨h1, h2 | ⟨g, cap, cur, h3, h4, h5, r⟩⟩ := h
 ·exact ⟨h1, .inl h2⟩
 ·exact ⟨h1, .inr ⟨g, cap, cur, h3, h4, (hb.block g (Array.getElem?_eq_some_iff.1 h5).1).trans h5, r⟩⟩
end Go.Proofs.Ytkhfddodmjnecaa

set_option linter.all false
namespace Go.Proofs.Ytkhfddodmjnecaa
open Go Go.RowKit

theorem RdIns.at {w : World} {a : Option Addr} {n c : Nat} {l : List In} (h : RdIns w (.slice a n c) l) : n = l.length ∧ ∀ k, k < l.length → ∃ b o va, a = some ⟨b, o, none⟩ ∧ b < w.heap.size ∧ RdI w va (l.getD k default).args ∧
  (w.cell? ⟨b, o + k * 11, none⟩ = some (.int .i64 (l.getD k default).op) ∧ w.cell? ⟨b, o + k * 11 + 1, none⟩ = some (.int .i64 (l.getD k default).d) ∧ w.cell? ⟨b, o + k * 11 + 2, none⟩ = some (.int .i64 (l.getD k default).a) ∧
  w.cell? ⟨b, o + k * 11 + 3, none⟩ = some (.int .i64 (l.getD k default).b) ∧ w.cell? ⟨b, o + k * 11 + 4, none⟩ = some (.int .i64 (l.getD k default).fn) ∧ w.cell? ⟨b, o + k * 11 + 5, none⟩ = some (.int .i64 (l.getD k default).obj) ∧
  w.cell? ⟨b, o + k * 11 + 6, none⟩ = some (.int .i64 (l.getD k default).off) ∧ w.cell? ⟨b, o + k * 11 + 7, none⟩ = some (.int .i64 (l.getD k default).size) ∧ w.cell? ⟨b, o + k * 11 + 8, none⟩ = some (.int .u32 (l.getD k default).num) ∧
  w.cell? ⟨b, o + k * 11 + 9, none⟩ = some va ∧ w.cell? ⟨b, o + k * 11 + 10, none⟩ = some (.bool (l.getD k default).log)) := by
 obtain ⟨a', c', e, h1, h2, hc⟩ := h
 simp only [Value.slice.injEq] at e
 obtain ⟨rfl, rfl, rfl⟩ := e
 refine ⟨rfl, fun k hk => ?_⟩
 obtain ⟨b, o, rfl, h0, h1, h2, h3, h4, h5, h6, h7, h8, ⟨va, h9, hv⟩, h10⟩ := hc k hk
 exact ⟨b, o, va, rfl, World.block_lt_of_cell? w _ h0, hv, h0, h1, h2, h3, h4, h5, h6, h7, h8, h9, h10⟩
end Go.Proofs.Ytkhfddodmjnecaa

set_option linter.all false
namespace Go.Proofs.Ytkhfddodmjnecaa
open Go.ChangeShapes Go.WideShapes Go.ChangeAt Go.RowKit
set_option maxHeartbeats 1000000
set_option maxRecDepth 20000

/-- what comes first among instructions: 1: the register is read; 2: it is set; 0: neither -/
def withinI (r : Int) : List In → Int
 | [] => 0
 | i :: l => if hasL (usesI i) r = true then 1 else if defI i = r then 2 else withinI r l
def endReads (b : Bk) (r : Int) : Bool := (b.fin == 2 || b.fin == 3) && b.a == r
def withinB (b : Bk) (k : Nat) (r : Int) : Int := if withinI r (b.ins.drop k) = 0 then (if endReads b r = true then 1 else 0) else withinI r (b.ins.drop k)
end Go.Proofs.Ytkhfddodmjnecaa

set_option linter.all false
namespace Go.Proofs.Ytkhfddodmjnecaa
open Go.ChangeShapes Go.WideShapes Go.ChangeAt Go.RowKit
set_option maxHeartbeats 1000000
set_option maxRecDepth 20000

/-- a list of bools in a row of the call's own -/
def OwnB (w : World) (base : Nat) (v : Value) (l : List Bool) : Prop := w.ownsRow base 4 1 v l.length (l.map Value.bool)
theorem OwnB.rd {w : World} {base : Nat} {v : Value} {l : List Bool} (h : OwnB w base v l) : RdB w v l := by
 obtain ⟨h1, ⟨rfl, h2⟩ | ⟨g, cap, cur, rfl, hb, hg, hn, hc, hcs, ht⟩⟩ := h
 ·have : l = [] := List.eq_nil_of_length_eq_zero h2
  subst this
  exact ⟨none, 0, rfl, Nat.le_refl _, by simp [maxLen], fun i hi => absurd hi (by simp)⟩
 ·refine ⟨_, _, rfl, hn, hc, fun i hi => ⟨g, 0, rfl, ?_⟩⟩
  have h3 : (l.map Value.bool)[i]? = some (.bool (l.getD i false)) := by
   rw [List.getElem?_map, List.getElem?_eq_getElem hi]; simp [List.getD, hi]
  rw [← ht, List.getElem?_take] at h3
  split at h3
  ·simp only [Nat.zero_add, Nat.mul_one, Nat.add_zero]
   rw [World.cell?]
   simp only [hg]
   simpa using h3
  ·cases h3
theorem OwnB.cellAt {w : World} {B g n c : Nat} {l : List Bool} (h : OwnB w B (.slice (some ⟨g, 0, none⟩) n c) l) : n = l.length ∧ n ≤ c ∧ c ≤ maxLen ∧ B ≤ g ∧ (∀ i, i < n → w.cell? ⟨g, i, none⟩ = some (.bool (l.getD i false))) ∧ (∀ i, w.frozen? ⟨g, i, none⟩ = false) ∧ g < w.heap.size := by
 obtain ⟨ad, cp, h1, h2, h3, h4⟩ := h.rd
 simp only [Value.slice.injEq] at h1
 obtain ⟨rfl, rfl, rfl⟩ := h1
 have hf := World.ownsRow.frozenAt h
 obtain ⟨_, ⟨h5, _⟩ | ⟨g', cap, cur, h5, hb, hh, _⟩⟩ := h
 ·simp at h5
 ·simp only [Value.slice.injEq, Option.some.injEq, Addr.mk.injEq] at h5
  refine ⟨rfl, h2, h3, by omega, fun i hi => ?_, hf, ?_⟩
  ·obtain ⟨b, o, e, hc⟩ := h4 i hi
   simp only [Option.some.injEq, Addr.mk.injEq] at e
   obtain ⟨rfl, rfl, _⟩ := e
   simpa using hc
  ·have := (Array.getElem?_eq_some_iff.1 hh).1
   omega
theorem OwnB.set {w : World} {B g n c : Nat} {l : List Bool} (h : OwnB w B (.slice (some ⟨g, 0, none⟩) n c) l) (i : Nat) (x : Bool) : OwnB (w.setCell ⟨g, i, none⟩ (.bool x)) B (.slice (some ⟨g, 0, none⟩) n c) (l.set i x) := by
 obtain ⟨rfl, _⟩ := h.cellAt
 have := (World.ownsRow.stored h i (.bool x)).1
 unfold OwnB
 rw [List.length_set, List.map_set]
 exact this
/-- the world but for one block, and new ones -/
structure But (g : Nat) (w w' : World) : Prop where
 os : w'.os = w.os
 tape : w'.tape = w.tape
 output : w'.output = w.output
 size : w.heap.size ≤ w'.heap.size
 block : ∀ k, k < w.heap.size → k ≠ g → w'.heap[k]? = w.heap[k]?
theorem But.refl (g : Nat) (w : World) : But g w w := ⟨rfl, rfl, rfl, Nat.le_refl _, fun _ _ _ => rfl⟩
theorem But.trans {g : Nat} {a b c : World} (h : But g a b) (k : But g b c) : But g a c :=
 ⟨k.os.trans h.os, k.tape.trans h.tape, k.output.trans h.output, Nat.le_trans h.size k.size, fun i hi hg => (k.block i (Nat.lt_of_lt_of_le hi h.size) hg).trans (h.block i hi hg)⟩
theorem But.below {g : Nat} {w w' : World} (h : Below w.heap.size w w') : But g w w' := ⟨h.os, h.tape, h.output, h.size, fun k hk _ => h.block k hk⟩
theorem But.setCell (g i : Nat) (w : World) (x : Value) : But g w (w.setCell ⟨g, i, none⟩ x) :=
 ⟨rfl, rfl, rfl, by simp [World.setCell], fun k _ hk => Below.heap_setCell w ⟨g, i, none⟩ x k hk⟩
theorem But.toBelow {g B : Nat} {w w' : World} (h : But g w w') (hg : B ≤ g) (hB : B ≤ w.heap.size) : Below B w w' := ⟨h.os, h.tape, h.output, h.size, fun k hk => h.block k (by omega) (by omega)⟩
theorem But.cell {g : Nat} {w w' : World} (h : But g w w') {b o : Nat} (hb : b < w.heap.size) (hg : b ≠ g) : w'.cell? ⟨b, o, none⟩ = w.cell? ⟨b, o, none⟩ := World.cell?_of_block (w := w) (a := ⟨b, o, none⟩) (h.block b hb hg)
/-- what is read, but for the one block -/
def ExtB (g : Nat) (w w' : World) : Prop := ∀ a v, a.block ≠ g → w.cell? a = some v → w'.cell? a = some v
theorem But.ext {g : Nat} {w w' : World} (h : But g w w') : ExtB g w w' := fun a _ hg hv => (World.cell?_of_block (w := w) (h.block a.block (World.block_lt_of_cell? w a hv) hg)).trans hv
theorem OwnB.below {w w' : World} {B : Nat} {v : Value} {l : List Bool} (h : OwnB w B v l) (hb : Below w.heap.size w w') : OwnB w' B v l := by
 obtain ⟨h1, h2 | ⟨g, cap, cur, h3, h4, h5, r⟩⟩ := h
 ·exact ⟨h1, .inl h2⟩
 ·exact ⟨h1, .inr ⟨g, cap, cur, h3, h4, (hb.block g (Array.getElem?_eq_some_iff.1 h5).1).trans h5, r⟩⟩
theorem OwnB.but {w w' : World} {B g g0 n c : Nat} {l : List Bool} (h : OwnB w B (.slice (some ⟨g0, 0, none⟩) n c) l) (hb : But g w w') (hg : g0 ≠ g) : OwnB w' B (.slice (some ⟨g0, 0, none⟩) n c) l := by
 obtain ⟨h1, h2 | ⟨g', cap, cur, h3, h4, h5, r⟩⟩ := h
 ·exact ⟨h1, .inl h2⟩
 ·simp only [Value.slice.injEq, Option.some.injEq, Addr.mk.injEq] at h3
  refine ⟨h1, .inr ⟨g', cap, cur, by simp only [h3], h4, (hb.block g' (Array.getElem?_eq_some_iff.1 h5).1 (by omega)).trans h5, r⟩⟩

/-- marked, if there is such a one -/
def setB (l : List Bool) (r : Int) (is : Bool) : List Bool := if 0 ≤ r ∧ r < l.length then l.set r.toNat is else l
/-- a list of bools at a block of its own -/
def RowB (w : World) (g n c : Nat) (l : List Bool) : Prop := OwnB w 0 (.slice (some ⟨g, 0, none⟩) n c) l
theorem RowB.below {w w' : World} {g n c : Nat} {l : List Bool} (h : RowB w g n c l) (hb : Below w.heap.size w w') : RowB w' g n c l := OwnB.below h hb
end Go.Proofs.Ytkhfddodmjnecaa

set_option linter.all false
namespace Go.Proofs.Ytkhfddodmjnecaa
open Go.ChangeShapes Go.WideShapes Go.ChangeAt Go.RowKit
set_option maxHeartbeats 1000000
set_option maxRecDepth 20000

def marksB (l : List Bool) (rs : List Int) : List Bool := rs.foldl (fun l r => setB l r true) l
/-- what is live ahead of an instruction -/
def beforeB (l : List Bool) (i : In) : List Bool := marksB (setB l (defI i) false) (usesI i)
/-- joined so far -/
def orB (lt lf : List Bool) (k : Nat) : List Bool := (List.range lt.length).map fun i => lt.getD i false || (decide (i < k) && lf.getD i false)
def grewB (lt lf : List Bool) (k : Nat) : Bool := (List.range k).any fun i => lf.getD i false && !lt.getD i false
def joinB (lt lf : List Bool) : List Bool := orB lt lf lt.length
theorem orB_len (lt lf : List Bool) (k : Nat) : (orB lt lf k).length = lt.length := by simp [orB]
end Go.Proofs.Ytkhfddodmjnecaa
