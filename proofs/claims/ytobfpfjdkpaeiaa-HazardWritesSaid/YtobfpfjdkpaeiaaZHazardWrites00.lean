/-
 The middle language as plain data, and what is told of it: what an instruction sets and reads, where a block leads.; How rows of numbers, instructions, blocks and procedures lie in memory; what can be read stays where the world only grows.; Contracts of the functions of ir that tell of one instruction and one block.
-/
import Derived.RowKit
import Derived.WalkKit
import Derived.Lib.Hide
import Derived.Test.YtobfpfjdkpaeiaaRows
import Derived.ProofKit
import Derived.Outline

set_option linter.all false
namespace Go.Proofs.Ytobfpfjdkpaeiaa

structure In where
 op : Int
 d : Int
 a : Int
 b : Int
 fn : Int
 obj : Int
 off : Int
 size : Int
 num : Int
 args : List Int
 log : Bool
structure Bk where
 ins : List In
 fin : Int
 a : Int
 to : Int
 els : Int
structure Sl where
 size : Int
 align : Int
 cell : Int
structure Pr where
 void : Bool
 params : Int
 regs : Int
 objs : List Sl
 blks : List Bk
structure Md where
 globs : List Sl
 data : List (List Int)
 procs : List Pr
 main : Int
instance : Inhabited In := ⟨⟨0, 0, 0, 0, 0, 0, 0, 0, 0, [], false⟩⟩
instance : Inhabited Bk := ⟨⟨[], 0, 0, 0, 0⟩⟩
instance : Inhabited Sl := ⟨⟨0, 0, 0⟩⟩
instance : Inhabited Pr := ⟨⟨false, 0, 0, [], []⟩⟩

/-- the register that an instruction sets -/
def defI (i : In) : Int :=
 if i.op = 1 ∨ i.op = 2 ∨ i.op = 3 ∨ i.op = 4 ∨ i.op = 5 ∨ i.op = 7 ∨ i.op = 8 ∨ i.op = 9 ∨ i.op = 11 then i.d else -1
def readsA (op : Int) : Bool := op == 3 || op == 6 || op == 2 || op == 4 || op == 5 || op == 10
def readsB (op : Int) : Bool := op == 3 || op == 6
def usesI (i : In) : List Int :=
 (if readsA i.op && i.a != -1 then [i.a] else []) ++ (if readsB i.op && i.b != -1 then [i.b] else []) ++ (if i.op = 9 then i.args.filter (· != -1) else [])
def outsB (b : Bk) : List Int :=
 if b.fin = 1 ∨ b.fin = 2 ∧ b.to = b.els then [b.to] else if b.fin = 2 then [b.to, b.els] else []
/-- the blocks to which a block leads, of those that there are -/
def outsP (p : Pr) (n : Nat) : List Int := (outsB (p.blks.getD n default)).filter fun t => decide (0 ≤ t) && decide (t < p.blks.length)
/-- numbers that a word of 64 bits holds -/
def I64 (n : Int) : Prop := -9223372036854775808 ≤ n ∧ n ≤ 9223372036854775807
structure InOk (i : In) : Prop where
 op : I64 i.op
 d : I64 i.d
 a : I64 i.a
 b : I64 i.b
 fn : I64 i.fn
 obj : I64 i.obj
 off : I64 i.off
 size : I64 i.size
 num : 0 ≤ i.num ∧ i.num < 4294967296
 args : ∀ x ∈ i.args, I64 x
structure BkOk (b : Bk) : Prop where
 ins : ∀ i ∈ b.ins, InOk i
 fin : I64 b.fin
 a : I64 b.a
 to : I64 b.to
 els : I64 b.els
structure SlOk (s : Sl) : Prop where
 size : I64 s.size
 align : I64 s.align
 cell : I64 s.cell
structure PrOk (p : Pr) : Prop where
 params : I64 p.params
 regs : I64 p.regs
 objs : ∀ s ∈ p.objs, SlOk s
 blks : ∀ b ∈ p.blks, BkOk b
structure MdOk (m : Md) : Prop where
 globs : ∀ s ∈ m.globs, SlOk s
 data : ∀ d ∈ m.data, ∀ x ∈ d, 0 ≤ x ∧ x < 256
 procs : ∀ p ∈ m.procs, PrOk p
 main : I64 m.main
end Go.Proofs.Ytobfpfjdkpaeiaa

set_option linter.all false
namespace Go.Proofs.Ytobfpfjdkpaeiaa
open Go Go.RowKit

/-- what can be read stays -/
def Ext (w w' : World) : Prop := ∀ a v, w.cell? a = some v → w'.cell? a = some v
theorem Ext.refl (w : World) : Ext w w := fun _ _ h => h
theorem Ext.trans {a b c : World} (h : Ext a b) (k : Ext b c) : Ext a c := fun x v hx => k x v (h x v hx)
theorem Ext.below {w w' : World} (h : Below w.heap.size w w') : Ext w w' := fun a _ hv => (h.cell (World.block_lt_of_cell? w a hv)).trans hv
theorem Ext.alloc (w : World) (o : Obj) : Ext w (w.alloc o) := Ext.below (Below.alloc (Below.refl _ _) (Nat.le_refl _) o)

/-- a slice of n rows of k cells each: R tells of each row's cells -/
def Rows' (w : World) (v : Value) (k n : Nat) (R : Nat → (Nat → Option Value) → Prop) : Prop :=
 ∃ a c, v = .slice a n c ∧ n ≤ c ∧ c ≤ maxLen ∧ ∀ i, i < n → ∃ b o, a = some ⟨b, o, none⟩ ∧ R i fun j => w.cell? ⟨b, o + i * k + j, none⟩
/-- the cells of two worlds: what is read in one is read in the other -/
def Sub (c c' : Nat → Option Value) : Prop := ∀ j v, c j = some v → c' j = some v
theorem Rows'.ext {w w' : World} {v : Value} {k n : Nat} {R R' : Nat → (Nat → Option Value) → Prop} (h : Rows' w v k n R) (he : Ext w w') (hR : ∀ i c c', Sub c c' → R i c → R' i c') : Rows' w' v k n R' := by
 obtain ⟨a, c, h1, h2, h3, h4⟩ := h
 refine ⟨a, c, h1, h2, h3, fun i hi => ?_⟩
 obtain ⟨b, o, e, r⟩ := h4 i hi
 exact ⟨b, o, e, hR i _ _ (fun j v hv => he _ _ hv) r⟩

/-- a slice of integers -/
def RdI (w : World) (v : Value) (l : List Int) : Prop := Rows' w v 1 l.length fun i c => c 0 = some (.int .i64 (l.getD i 0))
theorem RdI.ext {w w' : World} {v : Value} {l : List Int} (h : RdI w v l) (he : Ext w w') : RdI w' v l := Rows'.ext h he fun _ _ _ hs h => hs _ _ h
/-- a slice of bools -/
def RdB (w : World) (v : Value) (l : List Bool) : Prop := Rows' w v 1 l.length fun i c => c 0 = some (.bool (l.getD i false))
theorem RdB.ext {w w' : World} {v : Value} {l : List Bool} (h : RdB w v l) (he : Ext w w') : RdB w' v l := Rows'.ext h he fun _ _ _ hs h => hs _ _ h
/-- a slice of bytes -/
def RdY (w : World) (v : Value) (l : List Int) : Prop := Rows' w v 1 l.length fun i c => c 0 = some (.int .u8 (l.getD i 0))
theorem RdY.ext {w w' : World} {v : Value} {l : List Int} (h : RdY w v l) (he : Ext w w') : RdY w' v l := Rows'.ext h he fun _ _ _ hs h => hs _ _ h
/-- a slice of words -/
def RdW (w : World) (v : Value) (l : List Int) : Prop := Rows' w v 1 l.length fun i c => c 0 = some (.int .u32 (l.getD i 0))
theorem RdW.ext {w w' : World} {v : Value} {l : List Int} (h : RdW w v l) (he : Ext w w') : RdW w' v l := Rows'.ext h he fun _ _ _ hs h => hs _ _ h

/-- an instruction's cells -/
structure InC (w : World) (c : Nat → Option Value) (i : In) : Prop where
 op : c 0 = some (.int .i64 i.op)
 d : c 1 = some (.int .i64 i.d)
 a : c 2 = some (.int .i64 i.a)
 b : c 3 = some (.int .i64 i.b)
 fn : c 4 = some (.int .i64 i.fn)
 obj : c 5 = some (.int .i64 i.obj)
 off : c 6 = some (.int .i64 i.off)
 size : c 7 = some (.int .i64 i.size)
 num : c 8 = some (.int .u32 i.num)
 args : ∃ v, c 9 = some v ∧ RdI w v i.args
 log : c 10 = some (.bool i.log)
theorem InC.ext {w w' : World} {c c' : Nat → Option Value} {i : In} (h : InC w c i) (he : Ext w w') (hs : Sub c c') : InC w' c' i := by
 obtain ⟨h0, h1, h2, h3, h4, h5, h6, h7, h8, ⟨v, h9, hv⟩, h10⟩ := h
 exact ⟨hs _ _ h0, hs _ _ h1, hs _ _ h2, hs _ _ h3, hs _ _ h4, hs _ _ h5, hs _ _ h6, hs _ _ h7, hs _ _ h8, ⟨v, hs _ _ h9, hv.ext he⟩, hs _ _ h10⟩
/-- an instruction by value -/
def InV (w : World) (v : Value) (i : In) : Prop :=
 ∃ va, v = .agg #[.int .i64 i.op, .int .i64 i.d, .int .i64 i.a, .int .i64 i.b, .int .i64 i.fn, .int .i64 i.obj, .int .i64 i.off, .int .i64 i.size, .int .u32 i.num, va, .bool i.log] ∧ RdI w va i.args
theorem InV.ext {w w' : World} {v : Value} {i : In} (h : InV w v i) (he : Ext w w') : InV w' v i := let ⟨va, e, h⟩ := h; ⟨va, e, h.ext he⟩
def RdIns (w : World) (v : Value) (l : List In) : Prop := Rows' w v 11 l.length fun i c => InC w c (l.getD i default)
theorem RdIns.ext {w w' : World} {v : Value} {l : List In} (h : RdIns w v l) (he : Ext w w') : RdIns w' v l := Rows'.ext h he fun _ _ _ hs h => h.ext he hs

/-- a block's cells -/
structure BkC (w : World) (c : Nat → Option Value) (b : Bk) : Prop where
 ins : ∃ v, c 0 = some v ∧ RdIns w v b.ins
 fin : c 1 = some (.int .i64 b.fin)
 a : c 2 = some (.int .i64 b.a)
 to : c 3 = some (.int .i64 b.to)
 els : c 4 = some (.int .i64 b.els)
theorem BkC.ext {w w' : World} {c c' : Nat → Option Value} {b : Bk} (h : BkC w c b) (he : Ext w w') (hs : Sub c c') : BkC w' c' b := by
 obtain ⟨⟨v, h0, hv⟩, h1, h2, h3, h4⟩ := h
 exact ⟨⟨v, hs _ _ h0, hv.ext he⟩, hs _ _ h1, hs _ _ h2, hs _ _ h3, hs _ _ h4⟩
def BkV (w : World) (v : Value) (b : Bk) : Prop :=
 ∃ vi, v = .agg #[vi, .int .i64 b.fin, .int .i64 b.a, .int .i64 b.to, .int .i64 b.els] ∧ RdIns w vi b.ins
theorem BkV.ext {w w' : World} {v : Value} {b : Bk} (h : BkV w v b) (he : Ext w w') : BkV w' v b := let ⟨vi, e, h⟩ := h; ⟨vi, e, h.ext he⟩
def RdBks (w : World) (v : Value) (l : List Bk) : Prop := Rows' w v 5 l.length fun i c => BkC w c (l.getD i default)
theorem RdBks.ext {w w' : World} {v : Value} {l : List Bk} (h : RdBks w v l) (he : Ext w w') : RdBks w' v l := Rows'.ext h he fun _ _ _ hs h => h.ext he hs

/-- a slot's cells -/
structure SlC (c : Nat → Option Value) (s : Sl) : Prop where
 name : ∃ nm, c 0 = some (.string nm)
 size : c 1 = some (.int .i64 s.size)
 align : c 2 = some (.int .i64 s.align)
 cell : c 3 = some (.int .i64 s.cell)
theorem SlC.ext {c c' : Nat → Option Value} {s : Sl} (h : SlC c s) (hs : Sub c c') : SlC c' s := by
 obtain ⟨⟨nm, h0⟩, h1, h2, h3⟩ := h
 exact ⟨⟨nm, hs _ _ h0⟩, hs _ _ h1, hs _ _ h2, hs _ _ h3⟩
def RdSls (w : World) (v : Value) (l : List Sl) : Prop := Rows' w v 4 l.length fun i c => SlC c (l.getD i default)
theorem RdSls.ext {w w' : World} {v : Value} {l : List Sl} (h : RdSls w v l) (he : Ext w w') : RdSls w' v l := Rows'.ext h he fun _ _ _ hs h => h.ext hs

/-- a procedure's cells -/
structure PrC (w : World) (c : Nat → Option Value) (p : Pr) : Prop where
 name : ∃ nm, c 0 = some (.string nm)
 void : c 1 = some (.bool p.void)
 params : c 2 = some (.int .i64 p.params)
 regs : c 3 = some (.int .i64 p.regs)
 objs : ∃ v, c 4 = some v ∧ RdSls w v p.objs
 blks : ∃ v, c 5 = some v ∧ RdBks w v p.blks
theorem PrC.ext {w w' : World} {c c' : Nat → Option Value} {p : Pr} (h : PrC w c p) (he : Ext w w') (hs : Sub c c') : PrC w' c' p := by
 obtain ⟨⟨nm, h0⟩, h1, h2, h3, ⟨v, h4, hv⟩, ⟨u, h5, hu⟩⟩ := h
 exact ⟨⟨nm, hs _ _ h0⟩, hs _ _ h1, hs _ _ h2, hs _ _ h3, ⟨v, hs _ _ h4, hv.ext he⟩, ⟨u, hs _ _ h5, hu.ext he⟩⟩
def PrV (w : World) (v : Value) (p : Pr) : Prop :=
 ∃ nm vo vb, v = .agg #[.string nm, .bool p.void, .int .i64 p.params, .int .i64 p.regs, vo, vb] ∧ RdSls w vo p.objs ∧ RdBks w vb p.blks
theorem PrV.ext {w w' : World} {v : Value} {p : Pr} (h : PrV w v p) (he : Ext w w') : PrV w' v p := let ⟨nm, vo, vb, e, h, k⟩ := h; ⟨nm, vo, vb, e, h.ext he, k.ext he⟩
def RdPrs (w : World) (v : Value) (l : List Pr) : Prop := Rows' w v 6 l.length fun i c => PrC w c (l.getD i default)
theorem RdPrs.ext {w w' : World} {v : Value} {l : List Pr} (h : RdPrs w v l) (he : Ext w w') : RdPrs w' v l := Rows'.ext h he fun _ _ _ hs h => h.ext he hs
/-- a slice of slices of bytes -/
def RdYs (w : World) (v : Value) (l : List (List Int)) : Prop := Rows' w v 1 l.length fun i c => ∃ u, c 0 = some u ∧ RdY w u (l.getD i [])
theorem RdYs.ext {w w' : World} {v : Value} {l : List (List Int)} (h : RdYs w v l) (he : Ext w w') : RdYs w' v l := Rows'.ext h he fun _ _ _ hs ⟨u, h, k⟩ => ⟨u, hs _ _ h, k.ext he⟩
def MdV (w : World) (v : Value) (m : Md) : Prop :=
 ∃ vg vd vp, v = .agg #[vg, vd, vp, .int .i64 m.main] ∧ RdSls w vg m.globs ∧ RdYs w vd m.data ∧ RdPrs w vp m.procs
theorem MdV.ext {w w' : World} {v : Value} {m : Md} (h : MdV w v m) (he : Ext w w') : MdV w' v m := let ⟨vg, vd, vp, e, h, k, l⟩ := h; ⟨vg, vd, vp, e, h.ext he, k.ext he, l.ext he⟩
end Go.Proofs.Ytobfpfjdkpaeiaa

set_option linter.all false
namespace Go.Proofs.Ytobfpfjdkpaeiaa
open Go.ChangeShapes Go.WideShapes Go.ChangeAt Go.RowKit
set_option maxHeartbeats 400000

theorem ret_i {k : IntKind} {a b : Int} (h : a = b) : Ending.returned (.int k a) = .returned (.int k b) := by rw [h]
theorem ret_b {a b : Bool} (h : a = b) : Ending.returned (.bool a) = .returned (.bool b) := by rw [h]
theorem below_alloc (w : World) (o : Obj) : Below w.heap.size w (w.alloc o) := Below.alloc (Below.refl _ _) (Nat.le_refl _) o
theorem def_c (i : In) (v : Value) (w : World) (hv : InV w v i) :
  Calls Try.prog 45 #[v] w fun e w' => e = .returned (.int .i64 (defI i)) ∧ Below w.heap.size w w' := by
 obtain ⟨va, rfl, hva⟩ := hv
 go_enter Try.func45, Try.ntmps45
 go_wp2
 all_goals
  go_ret
  simp only [beq_iff_eq, beq_eq_false_iff_ne, ne_eq] at *
  exact ⟨ret_i (by unfold defI; first | rw [if_pos (by omega)] | rw [if_neg (by omega)]), below_alloc _ _⟩
theorem reads_c (op : Int) (w : World) :
  Calls Try.prog 121 #[.int .i64 op] w fun e w' => e = .returned (.tuple #[.bool (readsA op), .bool (readsB op)]) ∧ w = w' := by
 go_enter Try.func121, Try.ntmps121
 go_wp2
 all_goals
  go_ret2
  refine ⟨?_, rfl⟩
  unfold readsA readsB
  simp [*]
end Go.Proofs.Ytobfpfjdkpaeiaa
