/-
 The middle language as plain data, and what is told of it: what an instruction sets and reads, where a block leads.; How rows of numbers, instructions, blocks and procedures lie in memory; what can be read stays where the world only grows.; Contracts of the functions of ir that tell of one instruction and one block.; Contracts of the functions of ir and of the reference that hand back lists of registers and blocks.
-/
import Derived.RowKit
import Derived.WalkKit
import Derived.Lib.Hide
import Derived.Test.YtmcddolkpcgddaaRows
import Derived.ProofKit
import Derived.Outline

set_option linter.all false
namespace Go.Proofs.Ytmcddolkpcgddaa

structure In where
 op : Int
 d : Int
 a : Int
 b : Int
 fn : Int
 obj : Int
 off : Int
 size : Int
 num : Int
 args : List Int
 log : Bool
structure Bk where
 ins : List In
 fin : Int
 a : Int
 to : Int
 els : Int
structure Sl where
 size : Int
 align : Int
 cell : Int
structure Pr where
 void : Bool
 params : Int
 regs : Int
 objs : List Sl
 blks : List Bk
structure Md where
 globs : List Sl
 data : List (List Int)
 procs : List Pr
 main : Int
instance : Inhabited In := ⟨⟨0, 0, 0, 0, 0, 0, 0, 0, 0, [], false⟩⟩
instance : Inhabited Bk := ⟨⟨[], 0, 0, 0, 0⟩⟩
instance : Inhabited Sl := ⟨⟨0, 0, 0⟩⟩
instance : Inhabited Pr := ⟨⟨false, 0, 0, [], []⟩⟩

/-- the register that an instruction sets -/
def defI (i : In) : Int :=
 if i.op = 1 ∨ i.op = 2 ∨ i.op = 3 ∨ i.op = 4 ∨ i.op = 5 ∨ i.op = 7 ∨ i.op = 8 ∨ i.op = 9 ∨ i.op = 11 then i.d else -1
def readsA (op : Int) : Bool := op == 3 || op == 6 || op == 2 || op == 4 || op == 5 || op == 10
def readsB (op : Int) : Bool := op == 3 || op == 6
def usesI (i : In) : List Int :=
 (if readsA i.op && i.a != -1 then [i.a] else []) ++ (if readsB i.op && i.b != -1 then [i.b] else []) ++ (if i.op = 9 then i.args.filter (· != -1) else [])
def outsB (b : Bk) : List Int :=
 if b.fin = 1 ∨ b.fin = 2 ∧ b.to = b.els then [b.to] else if b.fin = 2 then [b.to, b.els] else []
/-- the blocks to which a block leads, of those that there are -/
def outsP (p : Pr) (n : Nat) : List Int := (outsB (p.blks.getD n default)).filter fun t => decide (0 ≤ t) && decide (t < p.blks.length)
/-- numbers that a word of 64 bits holds -/
def I64 (n : Int) : Prop := -9223372036854775808 ≤ n ∧ n ≤ 9223372036854775807
structure InOk (i : In) : Prop where
 op : I64 i.op
 d : I64 i.d
 a : I64 i.a
 b : I64 i.b
 fn : I64 i.fn
 obj : I64 i.obj
 off : I64 i.off
 size : I64 i.size
 num : 0 ≤ i.num ∧ i.num < 4294967296
 args : ∀ x ∈ i.args, I64 x
structure BkOk (b : Bk) : Prop where
 ins : ∀ i ∈ b.ins, InOk i
 fin : I64 b.fin
 a : I64 b.a
 to : I64 b.to
 els : I64 b.els
structure SlOk (s : Sl) : Prop where
 size : I64 s.size
 align : I64 s.align
 cell : I64 s.cell
structure PrOk (p : Pr) : Prop where
 params : I64 p.params
 regs : I64 p.regs
 objs : ∀ s ∈ p.objs, SlOk s
 blks : ∀ b ∈ p.blks, BkOk b
structure MdOk (m : Md) : Prop where
 globs : ∀ s ∈ m.globs, SlOk s
 data : ∀ d ∈ m.data, ∀ x ∈ d, 0 ≤ x ∧ x < 256
 procs : ∀ p ∈ m.procs, PrOk p
 main : I64 m.main
end Go.Proofs.Ytmcddolkpcgddaa

set_option linter.all false
namespace Go.Proofs.Ytmcddolkpcgddaa
open Go Go.RowKit

/-- what can be read stays -/
def Ext (w w' : World) : Prop := ∀ a v, w.cell? a = some v → w'.cell? a = some v
theorem Ext.refl (w : World) : Ext w w := fun _ _ h => h
theorem Ext.trans {a b c : World} (h : Ext a b) (k : Ext b c) : Ext a c := fun x v hx => k x v (h x v hx)
theorem Ext.below {w w' : World} (h : Below w.heap.size w w') : Ext w w' := fun a _ hv => (h.cell (World.block_lt_of_cell? w a hv)).trans hv
theorem Ext.alloc (w : World) (o : Obj) : Ext w (w.alloc o) := Ext.below (Below.alloc (Below.refl _ _) (Nat.le_refl _) o)

/-- a slice of n rows of k cells each: R tells of each row's cells -/
def Rows' (w : World) (v : Value) (k n : Nat) (R : Nat → (Nat → Option Value) → Prop) : Prop :=
 ∃ a c, v = .slice a n c ∧ n ≤ c ∧ c ≤ maxLen ∧ ∀ i, i < n → ∃ b o, a = some ⟨b, o, none⟩ ∧ R i fun j => w.cell? ⟨b, o + i * k + j, none⟩
/-- the cells of two worlds: what is read in one is read in the other -/
def Sub (c c' : Nat → Option Value) : Prop := ∀ j v, c j = some v → c' j = some v
theorem Rows'.ext {w w' : World} {v : Value} {k n : Nat} {R R' : Nat → (Nat → Option Value) → Prop} (h : Rows' w v k n R) (he : Ext w w') (hR : ∀ i c c', Sub c c' → R i c → R' i c') : Rows' w' v k n R' := by
 obtain ⟨a, c, h1, h2, h3, h4⟩ := h
 refine ⟨a, c, h1, h2, h3, fun i hi => ?_⟩
 obtain ⟨b, o, e, r⟩ := h4 i hi
 exact ⟨b, o, e, hR i _ _ (fun j v hv => he _ _ hv) r⟩

/-- a slice of integers -/
def RdI (w : World) (v : Value) (l : List Int) : Prop := Rows' w v 1 l.length fun i c => c 0 = some (.int .i64 (l.getD i 0))
theorem RdI.ext {w w' : World} {v : Value} {l : List Int} (h : RdI w v l) (he : Ext w w') : RdI w' v l := Rows'.ext h he fun _ _ _ hs h => hs _ _ h
/-- a slice of bools -/
def RdB (w : World) (v : Value) (l : List Bool) : Prop := Rows' w v 1 l.length fun i c => c 0 = some (.bool (l.getD i false))
theorem RdB.ext {w w' : World} {v : Value} {l : List Bool} (h : RdB w v l) (he : Ext w w') : RdB w' v l := Rows'.ext h he fun _ _ _ hs h => hs _ _ h
/-- a slice of bytes -/
def RdY (w : World) (v : Value) (l : List Int) : Prop := Rows' w v 1 l.length fun i c => c 0 = some (.int .u8 (l.getD i 0))
theorem RdY.ext {w w' : World} {v : Value} {l : List Int} (h : RdY w v l) (he : Ext w w') : RdY w' v l := Rows'.ext h he fun _ _ _ hs h => hs _ _ h
/-- a slice of words -/
def RdW (w : World) (v : Value) (l : List Int) : Prop := Rows' w v 1 l.length fun i c => c 0 = some (.int .u32 (l.getD i 0))
theorem RdW.ext {w w' : World} {v : Value} {l : List Int} (h : RdW w v l) (he : Ext w w') : RdW w' v l := Rows'.ext h he fun _ _ _ hs h => hs _ _ h

/-- an instruction's cells -/
structure InC (w : World) (c : Nat → Option Value) (i : In) : Prop where
 op : c 0 = some (.int .i64 i.op)
 d : c 1 = some (.int .i64 i.d)
 a : c 2 = some (.int .i64 i.a)
 b : c 3 = some (.int .i64 i.b)
 fn : c 4 = some (.int .i64 i.fn)
 obj : c 5 = some (.int .i64 i.obj)
 off : c 6 = some (.int .i64 i.off)
 size : c 7 = some (.int .i64 i.size)
 num : c 8 = some (.int .u32 i.num)
 args : ∃ v, c 9 = some v ∧ RdI w v i.args
 log : c 10 = some (.bool i.log)
theorem InC.ext {w w' : World} {c c' : Nat → Option Value} {i : In} (h : InC w c i) (he : Ext w w') (hs : Sub c c') : InC w' c' i := by
 obtain ⟨h0, h1, h2, h3, h4, h5, h6, h7, h8, ⟨v, h9, hv⟩, h10⟩ := h
 exact ⟨hs _ _ h0, hs _ _ h1, hs _ _ h2, hs _ _ h3, hs _ _ h4, hs _ _ h5, hs _ _ h6, hs _ _ h7, hs _ _ h8, ⟨v, hs _ _ h9, hv.ext he⟩, hs _ _ h10⟩
/-- an instruction by value -/
def InV (w : World) (v : Value) (i : In) : Prop :=
 ∃ va, v = .agg #[.int .i64 i.op, .int .i64 i.d, .int .i64 i.a, .int .i64 i.b, .int .i64 i.fn, .int .i64 i.obj, .int .i64 i.off, .int .i64 i.size, .int .u32 i.num, va, .bool i.log] ∧ RdI w va i.args
theorem InV.ext {w w' : World} {v : Value} {i : In} (h : InV w v i) (he : Ext w w') : InV w' v i := let ⟨va, e, h⟩ := h; ⟨va, e, h.ext he⟩
def RdIns (w : World) (v : Value) (l : List In) : Prop := Rows' w v 11 l.length fun i c => InC w c (l.getD i default)
theorem RdIns.ext {w w' : World} {v : Value} {l : List In} (h : RdIns w v l) (he : Ext w w') : RdIns w' v l := Rows'.ext h he fun _ _ _ hs h => h.ext he hs

/-- a block's cells -/
structure BkC (w : World) (c : Nat → Option Value) (b : Bk) : Prop where
 ins : ∃ v, c 0 = some v ∧ RdIns w v b.ins
 fin : c 1 = some (.int .i64 b.fin)
 a : c 2 = some (.int .i64 b.a)
 to : c 3 = some (.int .i64 b.to)
 els : c 4 = some (.int .i64 b.els)
theorem BkC.ext {w w' : World} {c c' : Nat → Option Value} {b : Bk} (h : BkC w c b) (he : Ext w w') (hs : Sub c c') : BkC w' c' b := by
 obtain ⟨⟨v, h0, hv⟩, h1, h2, h3, h4⟩ := h
 exact ⟨⟨v, hs _ _ h0, hv.ext he⟩, hs _ _ h1, hs _ _ h2, hs _ _ h3, hs _ _ h4⟩
def BkV (w : World) (v : Value) (b : Bk) : Prop :=
 ∃ vi, v = .agg #[vi, .int .i64 b.fin, .int .i64 b.a, .int .i64 b.to, .int .i64 b.els] ∧ RdIns w vi b.ins
theorem BkV.ext {w w' : World} {v : Value} {b : Bk} (h : BkV w v b) (he : Ext w w') : BkV w' v b := let ⟨vi, e, h⟩ := h; ⟨vi, e, h.ext he⟩
def RdBks (w : World) (v : Value) (l : List Bk) : Prop := Rows' w v 5 l.length fun i c => BkC w c (l.getD i default)
theorem RdBks.ext {w w' : World} {v : Value} {l : List Bk} (h : RdBks w v l) (he : Ext w w') : RdBks w' v l := Rows'.ext h he fun _ _ _ hs h => h.ext he hs

/-- a slot's cells -/
structure SlC (c : Nat → Option Value) (s : Sl) : Prop where
 name : ∃ nm, c 0 = some (.string nm)
 size : c 1 = some (.int .i64 s.size)
 align : c 2 = some (.int .i64 s.align)
 cell : c 3 = some (.int .i64 s.cell)
theorem SlC.ext {c c' : Nat → Option Value} {s : Sl} (h : SlC c s) (hs : Sub c c') : SlC c' s := by
 obtain ⟨⟨nm, h0⟩, h1, h2, h3⟩ := h
 exact ⟨⟨nm, hs _ _ h0⟩, hs _ _ h1, hs _ _ h2, hs _ _ h3⟩
def RdSls (w : World) (v : Value) (l : List Sl) : Prop := Rows' w v 4 l.length fun i c => SlC c (l.getD i default)
theorem RdSls.ext {w w' : World} {v : Value} {l : List Sl} (h : RdSls w v l) (he : Ext w w') : RdSls w' v l := Rows'.ext h he fun _ _ _ hs h => h.ext hs

/-- a procedure's cells -/
structure PrC (w : World) (c : Nat → Option Value) (p : Pr) : Prop where
 name : ∃ nm, c 0 = some (.string nm)
 void : c 1 = some (.bool p.void)
 params : c 2 = some (.int .i64 p.params)
 regs : c 3 = some (.int .i64 p.regs)
 objs : ∃ v, c 4 = some v ∧ RdSls w v p.objs
 blks : ∃ v, c 5 = some v ∧ RdBks w v p.blks
theorem PrC.ext {w w' : World} {c c' : Nat → Option Value} {p : Pr} (h : PrC w c p) (he : Ext w w') (hs : Sub c c') : PrC w' c' p := by
 obtain ⟨⟨nm, h0⟩, h1, h2, h3, ⟨v, h4, hv⟩, ⟨u, h5, hu⟩⟩ := h
 exact ⟨⟨nm, hs _ _ h0⟩, hs _ _ h1, hs _ _ h2, hs _ _ h3, ⟨v, hs _ _ h4, hv.ext he⟩, ⟨u, hs _ _ h5, hu.ext he⟩⟩
def PrV (w : World) (v : Value) (p : Pr) : Prop :=
 ∃ nm vo vb, v = .agg #[.string nm, .bool p.void, .int .i64 p.params, .int .i64 p.regs, vo, vb] ∧ RdSls w vo p.objs ∧ RdBks w vb p.blks
theorem PrV.ext {w w' : World} {v : Value} {p : Pr} (h : PrV w v p) (he : Ext w w') : PrV w' v p := let ⟨nm, vo, vb, e, h, k⟩ := h; ⟨nm, vo, vb, e, h.ext he, k.ext he⟩
def RdPrs (w : World) (v : Value) (l : List Pr) : Prop := Rows' w v 6 l.length fun i c => PrC w c (l.getD i default)
theorem RdPrs.ext {w w' : World} {v : Value} {l : List Pr} (h : RdPrs w v l) (he : Ext w w') : RdPrs w' v l := Rows'.ext h he fun _ _ _ hs h => h.ext he hs
/-- a slice of slices of bytes -/
def RdYs (w : World) (v : Value) (l : List (List Int)) : Prop := Rows' w v 1 l.length fun i c => ∃ u, c 0 = some u ∧ RdY w u (l.getD i [])
theorem RdYs.ext {w w' : World} {v : Value} {l : List (List Int)} (h : RdYs w v l) (he : Ext w w') : RdYs w' v l := Rows'.ext h he fun _ _ _ hs ⟨u, h, k⟩ => ⟨u, hs _ _ h, k.ext he⟩
def MdV (w : World) (v : Value) (m : Md) : Prop :=
 ∃ vg vd vp, v = .agg #[vg, vd, vp, .int .i64 m.main] ∧ RdSls w vg m.globs ∧ RdYs w vd m.data ∧ RdPrs w vp m.procs
theorem MdV.ext {w w' : World} {v : Value} {m : Md} (h : MdV w v m) (he : Ext w w') : MdV w' v m := let ⟨vg, vd, vp, e, h, k, l⟩ := h; ⟨vg, vd, vp, e, h.ext he, k.ext he, l.ext he⟩
end Go.Proofs.Ytmcddolkpcgddaa

set_option linter.all false
namespace Go.Proofs.Ytmcddolkpcgddaa
open Go.ChangeShapes Go.WideShapes Go.ChangeAt Go.RowKit
set_option maxHeartbeats 400000

theorem ret_i {k : IntKind} {a b : Int} (h : a = b) : Ending.returned (.int k a) = .returned (.int k b) := by rw [h]
theorem ret_b {a b : Bool} (h : a = b) : Ending.returned (.bool a) = .returned (.bool b) := by rw [h]
theorem below_alloc (w : World) (o : Obj) : Below w.heap.size w (w.alloc o) := Below.alloc (Below.refl _ _) (Nat.le_refl _) o
theorem def_c (i : In) (v : Value) (w : World) (hv : InV w v i) :
  Calls Try.prog 45 #[v] w fun e w' => e = .returned (.int .i64 (defI i)) ∧ Below w.heap.size w w' := by
 obtain ⟨va, rfl, hva⟩ := hv
 go_enter Try.func45, Try.ntmps45
 go_wp2
 all_goals
  go_ret
  simp only [beq_iff_eq, beq_eq_false_iff_ne, ne_eq] at *
  exact ⟨ret_i (by unfold defI; first | rw [if_pos (by omega)] | rw [if_neg (by omega)]), below_alloc _ _⟩
theorem reads_c (op : Int) (w : World) :
  Calls Try.prog 121 #[.int .i64 op] w fun e w' => e = .returned (.tuple #[.bool (readsA op), .bool (readsB op)]) ∧ w = w' := by
 go_enter Try.func121, Try.ntmps121
 go_wp2
 all_goals
  go_ret2
  refine ⟨?_, rfl⟩
  unfold readsA readsB
  simp [*]
end Go.Proofs.Ytmcddolkpcgddaa

set_option linter.all false
namespace Go.Proofs.Ytmcddolkpcgddaa
open Go.ChangeShapes Go.WideShapes Go.ChangeAt Go.RowKit
set_option maxHeartbeats 400000
set_option maxRecDepth 10000

/-- a list of integers in a row of the call's own (from block 'base' on) -/
def OwnI (w : World) (base : Nat) (v : Value) (l : List Int) : Prop := w.ownsRow base 3 1 v l.length (l.map (Value.int .i64))
theorem OwnI.nil (w : World) (base : Nat) : OwnI w base (.slice none 0 0) [] := World.ownsRow_nil _ _ _ _
theorem OwnI.mk (w : World) (base : Nat) (l : List Int) (hb : base ≤ w.heap.size) (hl : l.length ≤ maxLen) : OwnI (w.alloc (.cells (l.map (Value.int .i64)).toArray 3)) base (.slice (some ⟨w.heap.size, 0, none⟩) l.length l.length) l :=
 ⟨by simp, .inr ⟨w.heap.size, l.length, _, rfl, hb, heap_alloc_new w _, Nat.le_refl _, hl, by simp, by rw [Nat.mul_one]; simpa using List.take_length (l := l.map (Value.int .i64))⟩⟩
theorem OwnI.mk1 {w : World} {base g : Nat} {x : Int} (hg : g = w.heap.size) (hb : base ≤ g) : OwnI (w.alloc (.cells #[.int .i64 x] 3)) base (.slice (some ⟨g, 0, none⟩) 1 1) [x] := by subst hg; exact OwnI.mk w base [x] hb (by simp [maxLen])
theorem OwnI.mk2 {w : World} {base g : Nat} {x y : Int} (hg : g = w.heap.size) (hb : base ≤ g) : OwnI (w.alloc (.cells #[.int .i64 x, .int .i64 y] 3)) base (.slice (some ⟨g, 0, none⟩) 2 2) [x, y] := by subst hg; exact OwnI.mk w base [x, y] hb (by simp [maxLen])
theorem OwnI.rd {w : World} {base : Nat} {v : Value} {l : List Int} (h : OwnI w base v l) : RdI w v l := by
 obtain ⟨h1, ⟨rfl, h2⟩ | ⟨g, cap, cur, rfl, hb, hg, hn, hc, hcs, ht⟩⟩ := h
 ·have : l = [] := List.eq_nil_of_length_eq_zero h2
  subst this
  exact ⟨none, 0, rfl, Nat.le_refl _, by simp [maxLen], fun i hi => absurd hi (by simp)⟩
 ·refine ⟨_, _, rfl, hn, hc, fun i hi => ⟨g, 0, rfl, ?_⟩⟩
  have h3 : (l.map (Value.int .i64))[i]? = some (.int .i64 (l.getD i 0)) := by
   rw [List.getElem?_map, List.getElem?_eq_getElem hi]; simp [List.getD, hi]
  rw [← ht, List.getElem?_take] at h3
  split at h3
  ·simp only [Nat.zero_add, Nat.mul_one, Nat.add_zero]
   rw [World.cell?]
   simp only [hg]
   simpa using h3
  ·cases h3
/-- what a call hands back that makes a list of its own -/
def RetI (w : World) (l : List Int) (e : Ending) (w' : World) : Prop := ∃ v, e = .returned v ∧ OwnI w' w.heap.size v l ∧ Below w.heap.size w w'

theorem outsB_1 (b : Bk) (h : b.fin = 1 ∨ b.fin = 2 ∧ b.to = b.els) : outsB b = [b.to] := by unfold outsB; rw [if_pos h]
theorem outsB_2 (b : Bk) (h : ¬ (b.fin = 1 ∨ b.fin = 2 ∧ b.to = b.els)) (h2 : b.fin = 2) : outsB b = [b.to, b.els] := by unfold outsB; rw [if_neg h, if_pos h2]
theorem outsB_3 (b : Bk) (h : b.fin ≠ 1) (h2 : b.fin ≠ 2) : outsB b = [] := by unfold outsB; rw [if_neg (by omega), if_neg h2]
theorem outs_c (b : Bk) (v : Value) (w : World) (hv : BkV w v b) :
  Calls Try.prog 70 #[v] w (RetI w (outsB b)) := by
 obtain ⟨vi, rfl, hvi⟩ := hv
 go_enter Try.func70, Try.ntmps70
 go_wp2
 all_goals go_ret
 ·refine ⟨_, rfl, ?_, Below.alloc (below_alloc _ _) (by simp) _⟩
  rw [outsB_1 b (.inl ‹_›)]
  exact OwnI.mk1 (by simp) (by simp)
 ·refine ⟨_, rfl, ?_, Below.alloc (below_alloc _ _) (by simp) _⟩
  rw [outsB_1 b (.inr ⟨‹_›, eq_of_beq ‹(b.to == b.els) = true›⟩)]
  exact OwnI.mk1 (by simp) (by simp)
 ·have h1 : b.fin = 2 := by assumption
  have h2 : ¬ b.to = b.els := by simpa using ‹(b.to == b.els) = false›
  refine ⟨_, rfl, ?_, Below.alloc (below_alloc _ _) (by simp) _⟩
  rw [outsB_2 b (by omega) h1]
  exact OwnI.mk2 (by simp) (by simp)
 ·exact ⟨_, rfl, by rw [outsB_3 b ‹_› ‹_›]; exact OwnI.nil _ _, below_alloc _ _⟩

theorem info_int : (Try.prog.info? 3).map (fun i => (i.zero, i.size, i.bytes)) = some (some (.int .i64 0), 1, 8) := by kernel_rfl
/-- a list of the call's own, and the world that was behind block B untouched since w0 -/
structure Own (w0 : World) (B : Nat) (w : World) (v : Value) (l : List Int) : Prop where
 own : OwnI w B v l
 below : Below B w0 w
 le : B ≤ w0.heap.size
theorem Own.nil {w0 : World} {B : Nat} (h : B ≤ w0.heap.size) : Own w0 B w0 (.slice none 0 0) [] := ⟨OwnI.nil _ _, Below.refl _ _, h⟩
theorem Own.alloc {w0 w : World} {B : Nat} {v : Value} {l : List Int} (h : Own w0 B w v l) (o : Obj) : Own w0 B (w.alloc o) v l :=
 ⟨World.ownsRow.alloc h.own o, h.below.alloc (Nat.le_trans h.le h.below.size) o, h.le⟩
theorem OwnI.base {w : World} {B B' : Nat} {v : Value} {l : List Int} (h : OwnI w B v l) (hB : B' ≤ B) : OwnI w B' v l := by
 obtain ⟨h1, h2 | ⟨g, cap, cur, h3, hb, r⟩⟩ := h
 ·exact ⟨h1, .inl h2⟩
 ·exact ⟨h1, .inr ⟨g, cap, cur, h3, Nat.le_trans hB hb, r⟩⟩
theorem Own.bcell {w0 w : World} {B : Nat} {v : Value} {l : List Int} (h : Own w0 B w v l) : ∀ b o, b < B → w.cell? ⟨b, o, none⟩ = w0.cell? ⟨b, o, none⟩ := fun b o hb => h.below.cell (p := ⟨b, o, none⟩) hb
theorem Own.old {w' w0 w : World} {B : Nat} {v : Value} {l : List Int} (h : Own w0 B w v l) (hw : Ext w' w0) (hB : w'.heap.size ≤ B) : Ext w' w := fun a u hu =>
 (h.below.cell (p := a) (Nat.lt_of_lt_of_le (World.block_lt_of_cell? w' a hu) hB)).trans (hw a u hu)
theorem Own.ret {w0 w w1 : World} {B : Nat} {v : Value} {l : List Int} (h : Own w0 B w1 v l) (hb : Below w.heap.size w w0) (hB : w.heap.size ≤ B) : RetI w l (.returned v) w1 :=
 ⟨v, rfl, h.own.base hB, hb.trans (h.below.mono hB)⟩
/-- the law of append for a list of integers of the call's own: one more -/
theorem app1 {ops : Array Oper} {rest : List Oper} {o : Oper} {a : Act} {W w0 : World} {B : Nat} {v : Value} {l : List Int} {n : Int} {g : Nat} {Q : Exit → Act → World → Prop} {s x : Operand} (hown : Own w0 B W v l) (hgd : o.guard = none)
  (ho : o.op = .call { callee := .builtin .append, args := #[s, x], argTypes := #[45, 45] }) (hs : a.eval s = v)
  (hx : a.eval x = .slice (some ⟨g, 0, none⟩) 1 1) (hg : g = W.heap.size) (hlen : l.length ≤ 1000000000)
  (h : ∀ v' w', Own w0 B w' v' (l ++ [n]) → wpList Try.prog ops Q rest (a.put o.dst v') w') : wpList Try.prog ops Q (o :: rest) a (W.alloc (.cells #[.int .i64 n] 3)) := by
 subst hg
 obtain ⟨i0, hi, hz0, hz1, hz2⟩ := info_parts info_int
 have hb := Nat.le_trans hown.le hown.below.size
 refine wpList_append_own _ hgd s x 45 ho B 3 i0 (.int .i64 0) 1 8 Try.underlying45 hi hz0 hz1 hz2 rfl (by decide) v l.length _ hs (hown.alloc _).own ⟨W.heap.size, 0, none⟩ 1 1 [.int .i64 n] hx rfl ?_ ?_ ?_ ?_ ?_ ?_
 ·intro j u hj
  match j, hj with
  | 0, hj => simp at hj; subst hj; simp [Addr.add]
 ·intro u hu; simp at hu; subst hu; rfl
 ·unfold maxLen; omega
 ·omega
 ·simp; omega
 ·intro v' w' h1 h2 _
  refine h v' w' ⟨?_, (hown.alloc _).below.grown h2 (by simp; omega) fun k hk => (World.ownsRow.lt hown.own k hk).1, hown.le⟩
  unfold OwnI
  simpa using h1
theorem readsA_9 : readsA 9 = false := rfl
theorem readsB_9 : readsB 9 = false := rfl
theorem usesI_9 (i : In) (h : i.op = 9) : usesI i = i.args.filter (· != -1) := by unfold usesI; rw [h]; simp [readsA_9, readsB_9]
theorem usesI_n (i : In) (h : i.op ≠ 9) : usesI i = (if readsA i.op && i.a != -1 then [i.a] else []) ++ (if readsB i.op && i.b != -1 then [i.b] else []) := by unfold usesI; rw [if_neg h]; simp
theorem uses_n (i : In) (v : Value) (w : World) (hv : InV w v i) (h9 : i.op ≠ 9) :
  Calls Try.prog 98 #[v] w (RetI w (usesI i)) := by
 obtain ⟨va, rfl, hva⟩ := hv
 have H := Lib.hid (usesI_n i h9)
 have h9' : (i.op == 9) = false := by simpa using h9
 clear h9
 go_enter Try.func98, Try.ntmps98
 go_wp2_with (first | (go_at_call 121; refine (reads_c _ _).mono ?_; rintro e w' ⟨rfl, rfl⟩; have O0 := Own.nil (w0 := w.alloc (.cells #[.int .i64 i.op, .int .i64 i.d, .int .i64 i.a, .int .i64 i.b, .int .i64 i.fn, .int .i64 i.obj, .int .i64 i.off, .int .i64 i.size, .int .u32 i.num, va, .bool i.log] 58)) (B := w.heap.size + 1) (by simp)) | (at_builtin; refine app1 O1 rfl rfl rfl rfl (by first | rfl | simp) (by simp) ?_; intro v2 w2 O2; have hc2 := O2.bcell) | (at_builtin; refine app1 O0 rfl rfl rfl rfl (by first | rfl | simp) (by simp) ?_; intro v1 w1 O1; have hc1 := O1.bcell; have hz1 := O1.below.size; simp at hz1))
 all_goals
  go_ret
  first
   | (have e : usesI i = [i.a] ++ [i.b] := by rw [H.out]; simp [*]
      rw [e]
      exact O2.ret (below_alloc _ _) (by omega))
   | (have e : usesI i = [] ++ [i.a] := by rw [H.out]; simp [*]
      rw [e]
      exact O1.ret (below_alloc _ _) (by omega))
   | (have e : usesI i = [] ++ [i.b] := by rw [H.out]; simp [*]
      rw [e]
      exact O1.ret (below_alloc _ _) (by omega))
   | (have e : usesI i = [] := by rw [H.out]; simp [*]
      rw [e]
      exact O0.ret (below_alloc _ _) (by omega))
theorem take_snoc (l : List Int) (k : Nat) (h : k < l.length) : l.take (k + 1) = l.take k ++ [l.getD k 0] := by
 rw [List.take_succ_eq_append_getElem h]; simp [List.getD, h]
theorem filter_snoc_yes (p : Int → Bool) (l : List Int) (k : Nat) (h : k < l.length) (hp : p (l.getD k 0) = true) : (l.take (k + 1)).filter p = (l.take k).filter p ++ [l.getD k 0] := by
 rw [take_snoc l k h, List.filter_append, List.filter_cons, hp]; rfl
theorem filter_snoc_no (p : Int → Bool) (l : List Int) (k : Nat) (h : k < l.length) (hp : p (l.getD k 0) = false) : (l.take (k + 1)).filter p = (l.take k).filter p := by
 rw [take_snoc l k h, List.filter_append, List.filter_cons, hp]; simp
theorem filter_take_le (p : Int → Bool) (l : List Int) (k : Nat) : ((l.take k).filter p).length ≤ k := Nat.le_trans (List.length_filter_le _ _) (List.length_take_le _ _)
theorem uses_9 (i : In) (v : Value) (w : World) (hv : InV w v i) (h9 : i.op = 9) (hn : i.args.length ≤ 1000) :
  Calls Try.prog 98 #[v] w (RetI w (usesI i)) := by
 obtain ⟨va, rfl, a, c, rfl, hc1, hc2, hcell⟩ := hv
 have H := Lib.hid (usesI_9 i h9)
 have rA := readsA_9
 have rB := readsB_9
 have HC := Lib.hid hcell
 clear hcell
 go_enter Try.func98, Try.ntmps98
 go_wp2_with (go_at_call 121; refine (reads_c _ _).mono ?_; rintro e w' ⟨rfl, rfl⟩)
 go_loopw [3, 42] (fun v k wr => ∃ n : Nat, n ≤ i.args.length ∧ k = .int .i64 n ∧ Own (w.alloc (.cells #[.int .i64 9, .int .i64 i.d, .int .i64 i.a, .int .i64 i.b, .int .i64 i.fn, .int .i64 i.obj, .int .i64 i.off, .int .i64 i.size, .int .u32 i.num, .slice a i.args.length c, .bool i.log] 58)) (w.heap.size + 1) wr v ((i.args.take n).filter (· != -1)))
  (fun _ k _ => i.args.length - (intOf k).toNat)
 case atStart => exact ⟨0, Nat.zero_le _, rfl, Own.nil (by simp)⟩
 case round =>
  obtain ⟨n, hk, rfl, O⟩ := hrel
  have hl := filter_take_le (· != -1) i.args n
  by_cases hlt : n < i.args.length
  ·obtain ⟨b, o, rfl, hc⟩ := HC.out n hlt
   have hc' := O.old (Ext.alloc w _) (by simp) _ _ hc
   simp only [Nat.mul_one, Nat.add_zero] at hc'
   clear hc
   have hF1 := filter_snoc_yes (· != -1) i.args n hlt
   have hF2 := filter_snoc_no (· != -1) i.args n hlt
   generalize i.args.getD n 0 = x at hc' hF1 hF2
   by_cases hp : (x != -1) = true
   ·have HF := Lib.hid (hF1 hp)
    clear hF1 hF2
    go_wp2_with (at_builtin; refine app1 O rfl rfl rfl rfl (by simp) (by omega) ?_; intro v1 w1 O1)
    go_roundw
    case rel => exact ⟨n + 1, by omega, by go_num, by rw [HF.out]; exact O1⟩
    case measure => simp [intOf]; omega
   ·have hp : (x != -1) = false := by simpa using hp
    have HF := Lib.hid (hF2 hp)
    clear hF1 hF2
    go_wp2
    go_roundw
    case rel => exact ⟨n + 1, by omega, by go_num, by rw [HF.out]; exact O⟩
    case measure => simp [intOf]; omega
  ·have HF : Hid ((i.args.take n).filter (· != -1) = i.args.filter (· != -1)) := by show _ = _; rw [List.take_of_length_le (by omega)]
   go_wp2
   go_ret
   rw [H.out, ← HF.out]
   exact O.ret (below_alloc _ _) (by omega)
theorem uses_c (i : In) (v : Value) (w : World) (hv : InV w v i) (hn : i.args.length ≤ 1000) :
  Calls Try.prog 98 #[v] w (RetI w (usesI i)) := by
 by_cases h9 : i.op = 9
 ·exact uses_9 i v w hv h9 hn
 ·exact uses_n i v w hv h9
end Go.Proofs.Ytmcddolkpcgddaa
