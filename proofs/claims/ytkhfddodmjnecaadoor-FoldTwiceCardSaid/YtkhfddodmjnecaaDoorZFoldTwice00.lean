/-
 The middle language as plain data, and what is told of it: what an instruction sets and reads, where a block leads.; How rows of numbers, instructions, blocks and procedures lie in memory; what can be read stays where the world only grows.; Contracts of the functions of ir that tell of one instruction and one block.; Contracts of the functions of ir and of the reference that hand back lists of registers and blocks.; Operations that only reckon: a run of them, evaluated by the kernel, is one step of a walk.; Contracts of the reference's table of operations, and of what it tells of one instruction and one block.; Contracts of the reference's functions that tell of one instruction and one block.; Regions that draw their order, at the class of worlds that extend one world: whatever calls make new memory in between, each operation yields the same value.; Contracts: the reference's list of registers that are read; a predicate over blocks; slices.IndexFunc and slices.DeleteFunc.; The cells of an own row of numbers.
-/
import Derived.RowKit
import Derived.WalkKit
import Derived.Lib.Hide
import Derived.Test.YtkhfddodmjnecaaDoorRows
import Derived.ProofKit
import Derived.Outline
import Derived.BigQuiet
import Derived.Below
import Derived.Laws.OwnMore

set_option linter.all false
namespace Go.Proofs.YtkhfddodmjnecaaDoor

structure In where
 op : Int
 d : Int
 a : Int
 b : Int
 fn : Int
 obj : Int
 off : Int
 size : Int
 num : Int
 args : List Int
 log : Bool
structure Bk where
 ins : List In
 fin : Int
 a : Int
 to : Int
 els : Int
structure Sl where
 size : Int
 align : Int
 cell : Int
structure Pr where
 void : Bool
 params : Int
 regs : Int
 objs : List Sl
 blks : List Bk
structure Md where
 globs : List Sl
 data : List (List Int)
 procs : List Pr
 main : Int
instance : Inhabited In := ⟨⟨0, 0, 0, 0, 0, 0, 0, 0, 0, [], false⟩⟩
instance : Inhabited Bk := ⟨⟨[], 0, 0, 0, 0⟩⟩
instance : Inhabited Sl := ⟨⟨0, 0, 0⟩⟩
instance : Inhabited Pr := ⟨⟨false, 0, 0, [], []⟩⟩

/-- the register that an instruction sets -/
def defI (i : In) : Int :=
 if i.op = 1 ∨ i.op = 2 ∨ i.op = 3 ∨ i.op = 4 ∨ i.op = 5 ∨ i.op = 7 ∨ i.op = 8 ∨ i.op = 9 ∨ i.op = 11 then i.d else -1
def readsA (op : Int) : Bool := op == 3 || op == 6 || op == 2 || op == 4 || op == 5 || op == 10
def readsB (op : Int) : Bool := op == 3 || op == 6
def outsB (b : Bk) : List Int :=
 if b.fin = 1 ∨ b.fin = 2 ∧ b.to = b.els then [b.to] else if b.fin = 2 then [b.to, b.els] else []
/-- the blocks to which a block leads, of those that there are -/
def outsP (p : Pr) (n : Nat) : List Int := (outsB (p.blks.getD n default)).filter fun t => decide (0 ≤ t) && decide (t < p.blks.length)
/-- numbers that a word of 64 bits holds -/
def I64 (n : Int) : Prop := -9223372036854775808 ≤ n ∧ n ≤ 9223372036854775807
structure InOk (i : In) : Prop where
 op : I64 i.op
 d : I64 i.d
 a : I64 i.a
 b : I64 i.b
 fn : I64 i.fn
 obj : I64 i.obj
 off : I64 i.off
 size : I64 i.size
 num : 0 ≤ i.num ∧ i.num < 4294967296
 args : ∀ x ∈ i.args, I64 x
structure BkOk (b : Bk) : Prop where
 ins : ∀ i ∈ b.ins, InOk i
 fin : I64 b.fin
 a : I64 b.a
 to : I64 b.to
 els : I64 b.els
structure SlOk (s : Sl) : Prop where
 size : I64 s.size
 align : I64 s.align
 cell : I64 s.cell
structure PrOk (p : Pr) : Prop where
 params : I64 p.params
 regs : I64 p.regs
 objs : ∀ s ∈ p.objs, SlOk s
 blks : ∀ b ∈ p.blks, BkOk b
structure MdOk (m : Md) : Prop where
 globs : ∀ s ∈ m.globs, SlOk s
 data : ∀ d ∈ m.data, ∀ x ∈ d, 0 ≤ x ∧ x < 256
 procs : ∀ p ∈ m.procs, PrOk p
 main : I64 m.main
end Go.Proofs.YtkhfddodmjnecaaDoor

set_option linter.all false
namespace Go.Proofs.YtkhfddodmjnecaaDoor
open Go Go.RowKit

/-- what can be read stays -/
def Ext (w w' : World) : Prop := ∀ a v, w.cell? a = some v → w'.cell? a = some v
theorem Ext.refl (w : World) : Ext w w := fun _ _ h => h
theorem Ext.trans {a b c : World} (h : Ext a b) (k : Ext b c) : Ext a c := fun x v hx => k x v (h x v hx)
theorem Ext.below {w w' : World} (h : Below w.heap.size w w') : Ext w w' := fun a _ hv => (h.cell (World.block_lt_of_cell? w a hv)).trans hv
theorem Ext.alloc (w : World) (o : Obj) : Ext w (w.alloc o) := Ext.below (Below.alloc (Below.refl _ _) (Nat.le_refl _) o)

/-- a slice of n rows of k cells each: R tells of each row's cells -/
def Rows' (w : World) (v : Value) (k n : Nat) (R : Nat → (Nat → Option Value) → Prop) : Prop :=
 ∃ a c, v = .slice a n c ∧ n ≤ c ∧ c ≤ maxLen ∧ ∀ i, i < n → ∃ b o, a = some ⟨b, o, none⟩ ∧ R i fun j => w.cell? ⟨b, o + i * k + j, none⟩
/-- the cells of two worlds: what is read in one is read in the other -/
def Sub (c c' : Nat → Option Value) : Prop := ∀ j v, c j = some v → c' j = some v
theorem Rows'.ext {w w' : World} {v : Value} {k n : Nat} {R R' : Nat → (Nat → Option Value) → Prop} (h : Rows' w v k n R) (he : Ext w w') (hR : ∀ i c c', Sub c c' → R i c → R' i c') : Rows' w' v k n R' := by
 obtain ⟨a, c, h1, h2, h3, h4⟩ := h
 refine ⟨a, c, h1, h2, h3, fun i hi => ?_⟩
 obtain ⟨b, o, e, r⟩ := h4 i hi
 exact ⟨b, o, e, hR i _ _ (fun j v hv => he _ _ hv) r⟩

/-- a slice of integers -/
def RdI (w : World) (v : Value) (l : List Int) : Prop := Rows' w v 1 l.length fun i c => c 0 = some (.int .i64 (l.getD i 0))
theorem RdI.ext {w w' : World} {v : Value} {l : List Int} (h : RdI w v l) (he : Ext w w') : RdI w' v l := Rows'.ext h he fun _ _ _ hs h => hs _ _ h
/-- a slice of bytes -/
def RdY (w : World) (v : Value) (l : List Int) : Prop := Rows' w v 1 l.length fun i c => c 0 = some (.int .u8 (l.getD i 0))
theorem RdY.ext {w w' : World} {v : Value} {l : List Int} (h : RdY w v l) (he : Ext w w') : RdY w' v l := Rows'.ext h he fun _ _ _ hs h => hs _ _ h
/-- a slice of words -/
def RdW (w : World) (v : Value) (l : List Int) : Prop := Rows' w v 1 l.length fun i c => c 0 = some (.int .u32 (l.getD i 0))
/-- an instruction's cells -/
structure InC (w : World) (c : Nat → Option Value) (i : In) : Prop where
 op : c 0 = some (.int .i64 i.op)
 d : c 1 = some (.int .i64 i.d)
 a : c 2 = some (.int .i64 i.a)
 b : c 3 = some (.int .i64 i.b)
 fn : c 4 = some (.int .i64 i.fn)
 obj : c 5 = some (.int .i64 i.obj)
 off : c 6 = some (.int .i64 i.off)
 size : c 7 = some (.int .i64 i.size)
 num : c 8 = some (.int .u32 i.num)
 args : ∃ v, c 9 = some v ∧ RdI w v i.args
 log : c 10 = some (.bool i.log)
theorem InC.ext {w w' : World} {c c' : Nat → Option Value} {i : In} (h : InC w c i) (he : Ext w w') (hs : Sub c c') : InC w' c' i := by
 obtain ⟨h0, h1, h2, h3, h4, h5, h6, h7, h8, ⟨v, h9, hv⟩, h10⟩ := h
 exact ⟨hs _ _ h0, hs _ _ h1, hs _ _ h2, hs _ _ h3, hs _ _ h4, hs _ _ h5, hs _ _ h6, hs _ _ h7, hs _ _ h8, ⟨v, hs _ _ h9, hv.ext he⟩, hs _ _ h10⟩
/-- an instruction by value -/
def InV (w : World) (v : Value) (i : In) : Prop :=
 ∃ va, v = .agg #[.int .i64 i.op, .int .i64 i.d, .int .i64 i.a, .int .i64 i.b, .int .i64 i.fn, .int .i64 i.obj, .int .i64 i.off, .int .i64 i.size, .int .u32 i.num, va, .bool i.log] ∧ RdI w va i.args
theorem InV.ext {w w' : World} {v : Value} {i : In} (h : InV w v i) (he : Ext w w') : InV w' v i := let ⟨va, e, h⟩ := h; ⟨va, e, h.ext he⟩
def RdIns (w : World) (v : Value) (l : List In) : Prop := Rows' w v 11 l.length fun i c => InC w c (l.getD i default)
theorem RdIns.ext {w w' : World} {v : Value} {l : List In} (h : RdIns w v l) (he : Ext w w') : RdIns w' v l := Rows'.ext h he fun _ _ _ hs h => h.ext he hs

/-- a block's cells -/
structure BkC (w : World) (c : Nat → Option Value) (b : Bk) : Prop where
 ins : ∃ v, c 0 = some v ∧ RdIns w v b.ins
 fin : c 1 = some (.int .i64 b.fin)
 a : c 2 = some (.int .i64 b.a)
 to : c 3 = some (.int .i64 b.to)
 els : c 4 = some (.int .i64 b.els)
theorem BkC.ext {w w' : World} {c c' : Nat → Option Value} {b : Bk} (h : BkC w c b) (he : Ext w w') (hs : Sub c c') : BkC w' c' b := by
 obtain ⟨⟨v, h0, hv⟩, h1, h2, h3, h4⟩ := h
 exact ⟨⟨v, hs _ _ h0, hv.ext he⟩, hs _ _ h1, hs _ _ h2, hs _ _ h3, hs _ _ h4⟩
def BkV (w : World) (v : Value) (b : Bk) : Prop :=
 ∃ vi, v = .agg #[vi, .int .i64 b.fin, .int .i64 b.a, .int .i64 b.to, .int .i64 b.els] ∧ RdIns w vi b.ins
def RdBks (w : World) (v : Value) (l : List Bk) : Prop := Rows' w v 5 l.length fun i c => BkC w c (l.getD i default)
theorem RdBks.ext {w w' : World} {v : Value} {l : List Bk} (h : RdBks w v l) (he : Ext w w') : RdBks w' v l := Rows'.ext h he fun _ _ _ hs h => h.ext he hs

/-- a slot's cells -/
structure SlC (c : Nat → Option Value) (s : Sl) : Prop where
 name : ∃ nm, c 0 = some (.string nm)
 size : c 1 = some (.int .i64 s.size)
 align : c 2 = some (.int .i64 s.align)
 cell : c 3 = some (.int .i64 s.cell)
theorem SlC.ext {c c' : Nat → Option Value} {s : Sl} (h : SlC c s) (hs : Sub c c') : SlC c' s := by
 obtain ⟨⟨nm, h0⟩, h1, h2, h3⟩ := h
 exact ⟨⟨nm, hs _ _ h0⟩, hs _ _ h1, hs _ _ h2, hs _ _ h3⟩
def RdSls (w : World) (v : Value) (l : List Sl) : Prop := Rows' w v 4 l.length fun i c => SlC c (l.getD i default)
theorem RdSls.ext {w w' : World} {v : Value} {l : List Sl} (h : RdSls w v l) (he : Ext w w') : RdSls w' v l := Rows'.ext h he fun _ _ _ hs h => h.ext hs

/-- a procedure's cells -/
structure PrC (w : World) (c : Nat → Option Value) (p : Pr) : Prop where
 name : ∃ nm, c 0 = some (.string nm)
 void : c 1 = some (.bool p.void)
 params : c 2 = some (.int .i64 p.params)
 regs : c 3 = some (.int .i64 p.regs)
 objs : ∃ v, c 4 = some v ∧ RdSls w v p.objs
 blks : ∃ v, c 5 = some v ∧ RdBks w v p.blks
theorem PrC.ext {w w' : World} {c c' : Nat → Option Value} {p : Pr} (h : PrC w c p) (he : Ext w w') (hs : Sub c c') : PrC w' c' p := by
 obtain ⟨⟨nm, h0⟩, h1, h2, h3, ⟨v, h4, hv⟩, ⟨u, h5, hu⟩⟩ := h
 exact ⟨⟨nm, hs _ _ h0⟩, hs _ _ h1, hs _ _ h2, hs _ _ h3, ⟨v, hs _ _ h4, hv.ext he⟩, ⟨u, hs _ _ h5, hu.ext he⟩⟩
def PrV (w : World) (v : Value) (p : Pr) : Prop :=
 ∃ nm vo vb, v = .agg #[.string nm, .bool p.void, .int .i64 p.params, .int .i64 p.regs, vo, vb] ∧ RdSls w vo p.objs ∧ RdBks w vb p.blks
theorem PrV.ext {w w' : World} {v : Value} {p : Pr} (h : PrV w v p) (he : Ext w w') : PrV w' v p := let ⟨nm, vo, vb, e, h, k⟩ := h; ⟨nm, vo, vb, e, h.ext he, k.ext he⟩
def RdPrs (w : World) (v : Value) (l : List Pr) : Prop := Rows' w v 6 l.length fun i c => PrC w c (l.getD i default)
theorem RdPrs.ext {w w' : World} {v : Value} {l : List Pr} (h : RdPrs w v l) (he : Ext w w') : RdPrs w' v l := Rows'.ext h he fun _ _ _ hs h => h.ext he hs
/-- a slice of slices of bytes -/
def RdYs (w : World) (v : Value) (l : List (List Int)) : Prop := Rows' w v 1 l.length fun i c => ∃ u, c 0 = some u ∧ RdY w u (l.getD i [])
theorem RdYs.ext {w w' : World} {v : Value} {l : List (List Int)} (h : RdYs w v l) (he : Ext w w') : RdYs w' v l := Rows'.ext h he fun _ _ _ hs ⟨u, h, k⟩ => ⟨u, hs _ _ h, k.ext he⟩
def MdV (w : World) (v : Value) (m : Md) : Prop :=
 ∃ vg vd vp, v = .agg #[vg, vd, vp, .int .i64 m.main] ∧ RdSls w vg m.globs ∧ RdYs w vd m.data ∧ RdPrs w vp m.procs
theorem MdV.ext {w w' : World} {v : Value} {m : Md} (h : MdV w v m) (he : Ext w w') : MdV w' v m := let ⟨vg, vd, vp, e, h, k, l⟩ := h; ⟨vg, vd, vp, e, h.ext he, k.ext he, l.ext he⟩
end Go.Proofs.YtkhfddodmjnecaaDoor

set_option linter.all false
namespace Go.Proofs.YtkhfddodmjnecaaDoor
open Go.ChangeShapes Go.WideShapes Go.ChangeAt Go.RowKit
set_option maxHeartbeats 400000

theorem ret_i {k : IntKind} {a b : Int} (h : a = b) : Ending.returned (.int k a) = .returned (.int k b) := by rw [h]
theorem ret_b {a b : Bool} (h : a = b) : Ending.returned (.bool a) = .returned (.bool b) := by rw [h]
theorem below_alloc (w : World) (o : Obj) : Below w.heap.size w (w.alloc o) := Below.alloc (Below.refl _ _) (Nat.le_refl _) o
theorem def_c (i : In) (v : Value) (w : World) (hv : InV w v i) :
  Calls Tryd.prog 32 #[v] w fun e w' => e = .returned (.int .i64 (defI i)) ∧ Below w.heap.size w w' := by
 obtain ⟨va, rfl, hva⟩ := hv
 go_enter Tryd.func32, Tryd.ntmps32
 go_wp2
 all_goals
  go_ret
  simp only [beq_iff_eq, beq_eq_false_iff_ne, ne_eq] at *
  exact ⟨ret_i (by unfold defI; first | rw [if_pos (by omega)] | rw [if_neg (by omega)]), below_alloc _ _⟩
theorem reads_c (op : Int) (w : World) :
  Calls Tryd.prog 73 #[.int .i64 op] w fun e w' => e = .returned (.tuple #[.bool (readsA op), .bool (readsB op)]) ∧ w = w' := by
 go_enter Tryd.func73, Tryd.ntmps73
 go_wp2
 all_goals
  go_ret2
  refine ⟨?_, rfl⟩
  unfold readsA readsB
  simp [*]
end Go.Proofs.YtkhfddodmjnecaaDoor

set_option linter.all false
namespace Go.Proofs.YtkhfddodmjnecaaDoor
open Go.ChangeShapes Go.WideShapes Go.ChangeAt Go.RowKit
set_option maxHeartbeats 400000
set_option maxRecDepth 10000

/-- a list of integers in a row of the call's own (from block 'base' on) -/
def OwnI (w : World) (base : Nat) (v : Value) (l : List Int) : Prop := w.ownsRow base 3 1 v l.length (l.map (Value.int .i64))
theorem OwnI.nil (w : World) (base : Nat) : OwnI w base (.slice none 0 0) [] := World.ownsRow_nil _ _ _ _
theorem OwnI.mk (w : World) (base : Nat) (l : List Int) (hb : base ≤ w.heap.size) (hl : l.length ≤ maxLen) : OwnI (w.alloc (.cells (l.map (Value.int .i64)).toArray 3)) base (.slice (some ⟨w.heap.size, 0, none⟩) l.length l.length) l :=
 ⟨by simp, .inr ⟨w.heap.size, l.length, _, rfl, hb, heap_alloc_new w _, Nat.le_refl _, hl, by simp, by rw [Nat.mul_one]; simpa using List.take_length (l := l.map (Value.int .i64))⟩⟩
theorem OwnI.mk1 {w : World} {base g : Nat} {x : Int} (hg : g = w.heap.size) (hb : base ≤ g) : OwnI (w.alloc (.cells #[.int .i64 x] 3)) base (.slice (some ⟨g, 0, none⟩) 1 1) [x] := by subst hg; exact OwnI.mk w base [x] hb (by simp [maxLen])
theorem OwnI.mk2 {w : World} {base g : Nat} {x y : Int} (hg : g = w.heap.size) (hb : base ≤ g) : OwnI (w.alloc (.cells #[.int .i64 x, .int .i64 y] 3)) base (.slice (some ⟨g, 0, none⟩) 2 2) [x, y] := by subst hg; exact OwnI.mk w base [x, y] hb (by simp [maxLen])
theorem OwnI.rd {w : World} {base : Nat} {v : Value} {l : List Int} (h : OwnI w base v l) : RdI w v l := by
 obtain ⟨h1, ⟨rfl, h2⟩ | ⟨g, cap, cur, rfl, hb, hg, hn, hc, hcs, ht⟩⟩ := h
 ·have : l = [] := List.eq_nil_of_length_eq_zero h2
  subst this
  exact ⟨none, 0, rfl, Nat.le_refl _, by simp [maxLen], fun i hi => absurd hi (by simp)⟩
 ·refine ⟨_, _, rfl, hn, hc, fun i hi => ⟨g, 0, rfl, ?_⟩⟩
  have h3 : (l.map (Value.int .i64))[i]? = some (.int .i64 (l.getD i 0)) := by
   rw [List.getElem?_map, List.getElem?_eq_getElem hi]; simp [List.getD, hi]
  rw [← ht, List.getElem?_take] at h3
  split at h3
  ·simp only [Nat.zero_add, Nat.mul_one, Nat.add_zero]
   rw [World.cell?]
   simp only [hg]
   simpa using h3
  ·cases h3
/-- what a call hands back that makes a list of its own -/
def RetI (w : World) (l : List Int) (e : Ending) (w' : World) : Prop := ∃ v, e = .returned v ∧ OwnI w' w.heap.size v l ∧ Below w.heap.size w w'

theorem outsB_1 (b : Bk) (h : b.fin = 1 ∨ b.fin = 2 ∧ b.to = b.els) : outsB b = [b.to] := by unfold outsB; rw [if_pos h]
theorem outsB_2 (b : Bk) (h : ¬ (b.fin = 1 ∨ b.fin = 2 ∧ b.to = b.els)) (h2 : b.fin = 2) : outsB b = [b.to, b.els] := by unfold outsB; rw [if_neg h, if_pos h2]
theorem outsB_3 (b : Bk) (h : b.fin ≠ 1) (h2 : b.fin ≠ 2) : outsB b = [] := by unfold outsB; rw [if_neg (by omega), if_neg h2]
theorem outs_c (b : Bk) (v : Value) (w : World) (hv : BkV w v b) :
  Calls Tryd.prog 44 #[v] w (RetI w (outsB b)) := by
 obtain ⟨vi, rfl, hvi⟩ := hv
 go_enter Tryd.func44, Tryd.ntmps44
 go_wp2
 all_goals go_ret
 ·refine ⟨_, rfl, ?_, Below.alloc (below_alloc _ _) (by simp) _⟩
  rw [outsB_1 b (.inl ‹_›)]
  exact OwnI.mk1 (by simp) (by simp)
 ·refine ⟨_, rfl, ?_, Below.alloc (below_alloc _ _) (by simp) _⟩
  rw [outsB_1 b (.inr ⟨‹_›, eq_of_beq ‹(b.to == b.els) = true›⟩)]
  exact OwnI.mk1 (by simp) (by simp)
 ·have h1 : b.fin = 2 := by assumption
  have h2 : ¬ b.to = b.els := by simpa using ‹(b.to == b.els) = false›
  refine ⟨_, rfl, ?_, Below.alloc (below_alloc _ _) (by simp) _⟩
  rw [outsB_2 b (by omega) h1]
  exact OwnI.mk2 (by simp) (by simp)
 ·exact ⟨_, rfl, by rw [outsB_3 b ‹_› ‹_›]; exact OwnI.nil _ _, below_alloc _ _⟩

theorem info_int : (Tryd.prog.info? 3).map (fun i => (i.zero, i.size, i.bytes)) = some (some (.int .i64 0), 1, 8) := by kernel_rfl
/-- a list of the call's own, and the world that was behind block B untouched since w0 -/
structure Own (w0 : World) (B : Nat) (w : World) (v : Value) (l : List Int) : Prop where
 own : OwnI w B v l
 below : Below B w0 w
 le : B ≤ w0.heap.size
theorem take_snoc (l : List Int) (k : Nat) (h : k < l.length) : l.take (k + 1) = l.take k ++ [l.getD k 0] := by
 rw [List.take_succ_eq_append_getElem h]; simp [List.getD, h]
end Go.Proofs.YtkhfddodmjnecaaDoor

set_option linter.all false
namespace Go.Proofs.YtkhfddodmjnecaaDoor
open Go

theorem cell_of_heap {w : World} {b : Nat} {c : Array Value} {t : TypeId} {fr : Nat × Nat} (h : w.heap[b]? = some (.cells c t fr)) (o : Nat) : w.cell? ⟨b, o, none⟩ = c[o]? := by
 simp [World.cell?, h]
theorem frozen_of_heap {w : World} {b : Nat} {c : Array Value} {t : TypeId} (h : w.heap[b]? = some (.cells c t (0, 0))) (o : Nat) : w.frozen? ⟨b, o, none⟩ = false := by
 simp [World.frozen?, h]
end Go.Proofs.YtkhfddodmjnecaaDoor

set_option linter.all false
namespace Go.Proofs.YtkhfddodmjnecaaDoor
open Go.ChangeShapes Go.WideShapes Go.ChangeAt Go.RowKit
set_option maxHeartbeats 400000
set_option maxRecDepth 20000

end Go.Proofs.YtkhfddodmjnecaaDoor

set_option linter.all false
namespace Go.Proofs.YtkhfddodmjnecaaDoor
open Go.ChangeShapes Go.WideShapes Go.ChangeAt Go.RowKit
set_option maxHeartbeats 1000000
set_option maxRecDepth 20000

end Go.Proofs.YtkhfddodmjnecaaDoor

set_option linter.all false
namespace Go.Proofs.YtkhfddodmjnecaaDoor
open Go Go.RowKit

/-- a world and new blocks behind its own -/
def plus (W x : World) : World := { W with heap := W.heap ++ x.heap, drawn := x.drawn }
/-- what lies behind -/
def plusRest (W x : World) (a : Addr) : Option Value := if a.block < W.heap.size then none else (plus W x).cell? a

theorem plus_below (W x : World) : Below W.heap.size W (plus W x) := by
 refine ⟨rfl, rfl, rfl, ?_, fun k hk => ?_⟩
 ·show W.heap.size ≤ (W.heap ++ x.heap).size
  simp
 ·show (W.heap ++ x.heap)[k]? = W.heap[k]?
  rw [Array.getElem?_append, if_pos hk]
theorem cell?_plus (W x : World) (a : Addr) : (plus W x).cell? a = (W.cell? a).or (plusRest W x a) := by
 unfold plusRest
 by_cases h : a.block < W.heap.size
 ·rw [if_pos h, (plus_below W x).cell h]; simp
 ·rw [if_neg h]
  have : W.cell? a = none := by
   unfold World.cell?
   rw [Array.getElem?_eq_none (by omega)]
  rw [this]; simp
attribute [go_sem] cell?_plus
end Go.Proofs.YtkhfddodmjnecaaDoor

set_option linter.all false
namespace Go.Proofs.YtkhfddodmjnecaaDoor
open Go.ChangeShapes Go.WideShapes Go.ChangeAt Go.RowKit
set_option maxHeartbeats 1000000
set_option maxRecDepth 20000

/-- is it no block of so many? -/
def offB (n : Nat) (x : Int) : Bool := decide (x < 0) || decide ((n : Int) ≤ x)
theorem outs1_c (w : World) (x : Int) (pb : Nat) (a : Option Addr) (n c : Nat) (hc : w.cell? ⟨pb, 5, none⟩ = some (.slice a n c)) :
  Calls Tryd.prog 93 #[.int .i64 x, .pointer (some ⟨pb, 0, none⟩)] w fun e w' => e = .returned (.bool (offB n x)) ∧ w = w' := by
 by_cases h : x < 0
 ·have H : Hid (offB n x = true) := by show _ = _; unfold offB; simp [h]
  go_enter Tryd.func93, Tryd.ntmps93
  go_wp2
  go_ret
  exact ⟨ret_b H.out.symm, rfl⟩
 ·have H : Hid (offB n x = decide ((n : Int) ≤ x)) := by show _ = _; unfold offB; simp [h]
  have h' : decide (x < 0) = false := by simpa using h
  go_enter Tryd.func93, Tryd.ntmps93
  go_wp2
  go_ret
  exact ⟨ret_b H.out.symm, rfl⟩
def IdxR (p : Int → Bool) (l : List Int) (r : Int) : Prop := (r = -1 ∧ ∀ j, j < l.length → p (l.getD j 0) = false) ∨ ∃ k : Nat, k < l.length ∧ r = k ∧ p (l.getD k 0) = true ∧ ∀ j, j < k → p (l.getD j 0) = false
theorem index_c (l : List Int) (v : Value) (w : World) (hv : RdI w v l) (pb : Nat) (a : Option Addr) (n c : Nat) (hc : w.cell? ⟨pb, 5, none⟩ = some (.slice a n c)) (hn : l.length ≤ 1000000) :
  Calls Tryd.prog 96 #[v, .func (.func 93) #[] #[.pointer (some ⟨pb, 0, none⟩)]] w fun e w' => ∃ r, e = .returned (.int .i64 r) ∧ IdxR (offB n) l r ∧ w = w' := by
 obtain ⟨ad, cp, rfl, hl1, hl2, hcell⟩ := hv
 have HC := Lib.hid hcell
 clear hcell
 go_enter Tryd.func96, Tryd.ntmps96
 go_wp2
 go_loop [8] (fun i => ∃ k : Nat, k ≤ l.length ∧ i = .int .i64 k ∧ Hid (∀ j, j < k → offB n (l.getD j 0) = false)) (fun i => l.length - (intOf i).toNat)
 case atStart => exact ⟨0, Nat.zero_le _, rfl, fun j hj => absurd hj (by omega)⟩
 case round =>
  obtain ⟨k, hk, rfl, hno⟩ := hrel
  by_cases hlt : k < l.length
  ·obtain ⟨b, o, rfl, hcx⟩ := HC.out k hlt
   simp only [Nat.mul_one, Nat.add_zero] at hcx
   obtain ⟨x, hx⟩ : ∃ x, l.getD k 0 = x := ⟨_, rfl⟩
   rw [hx] at hcx
   have HX := Lib.hid hx
   clear hx
   cases hp : offB n x
   ·have HP := Lib.hid hp
    have E : Hid (∀ w : World, w.cell? ⟨pb, 5, none⟩ = some (.slice a n c) → Calls Tryd.prog 93 #[.int .i64 x, .pointer (some ⟨pb, 0, none⟩)] w fun e w' => e = .returned (.bool false) ∧ w = w') := fun w hw => (outs1_c w x pb a n c hw).mono fun _ _ h => ⟨h.1.trans (ret_b hp), h.2⟩
    clear hp
    go_wp2_with (go_at_call 93; refine (E.out _ hc).mono ?_; rintro e w' ⟨rfl, rfl⟩)
    go_round
    case rel =>
     refine ⟨k + 1, by omega, by go_num, fun j hj => ?_⟩
     by_cases hjk : j = k
     ·subst hjk; rw [HX.out]; exact HP.out
     ·exact hno.out j (by omega)
    case measure => simp [intOf]; omega
   ·have HP := Lib.hid hp
    have E : Hid (∀ w : World, w.cell? ⟨pb, 5, none⟩ = some (.slice a n c) → Calls Tryd.prog 93 #[.int .i64 x, .pointer (some ⟨pb, 0, none⟩)] w fun e w' => e = .returned (.bool true) ∧ w = w') := fun w hw => (outs1_c w x pb a n c hw).mono fun _ _ h => ⟨h.1.trans (ret_b hp), h.2⟩
    clear hp
    go_wp2_with (go_at_call 93; refine (E.out _ hc).mono ?_; rintro e w' ⟨rfl, rfl⟩)
    go_ret
    exact ⟨_, rfl, .inr ⟨k, hlt, rfl, by rw [HX.out]; exact HP.out, hno.out⟩, rfl⟩
  ·go_wp2
   go_ret
   exact ⟨_, rfl, .inl ⟨rfl, fun j hj => hno.out j (by omega)⟩, rfl⟩
end Go.Proofs.YtkhfddodmjnecaaDoor

set_option linter.all false
namespace Go.Proofs.YtkhfddodmjnecaaDoor
open Go.ChangeShapes Go.WideShapes Go.ChangeAt Go.RowKit

theorem OwnI.cellAt {w : World} {B g n c : Nat} {l : List Int} (h : OwnI w B (.slice (some ⟨g, 0, none⟩) n c) l) : n = l.length ∧ n ≤ c ∧ c ≤ maxLen ∧ B ≤ g ∧ (∀ i, i < n → w.cell? ⟨g, i, none⟩ = some (.int .i64 (l.getD i 0))) ∧ ∀ i, w.frozen? ⟨g, i, none⟩ = false := by
 obtain ⟨ad, cp, h1, h2, h3, h4⟩ := h.rd
 simp only [Value.slice.injEq] at h1
 obtain ⟨rfl, rfl, rfl⟩ := h1
 have hf := World.ownsRow.frozenAt h
 obtain ⟨_, ⟨h5, _⟩ | ⟨g', cap, cur, h5, hb, _⟩⟩ := h
 ·simp at h5
 ·simp only [Value.slice.injEq, Option.some.injEq, Addr.mk.injEq] at h5
  refine ⟨rfl, h2, h3, by omega, fun i hi => ?_, hf⟩
  obtain ⟨b, o, e, hc⟩ := h4 i hi
  simp only [Option.some.injEq, Addr.mk.injEq] at e
  obtain ⟨rfl, rfl, _⟩ := e
  simpa using hc
end Go.Proofs.YtkhfddodmjnecaaDoor
