/-
  The middle language as plain data, and what is told of it: what an instruction sets and reads, where a block leads.
-/
import Derived.RowKit
set_option linter.all false
namespace Go.Proofs.Ytnnhobbabcfogaa

structure In where
  op : Int
  d : Int
  a : Int
  b : Int
  fn : Int
  obj : Int
  off : Int
  size : Int
  num : Int
  args : List Int
  log : Bool
structure Bk where
  ins : List In
  fin : Int
  a : Int
  to : Int
  els : Int
structure Sl where
  size : Int
  align : Int
  cell : Int
structure Pr where
  void : Bool
  params : Int
  regs : Int
  objs : List Sl
  blks : List Bk
structure Md where
  globs : List Sl
  data : List (List Int)
  procs : List Pr
  main : Int
instance : Inhabited In := ⟨⟨0, 0, 0, 0, 0, 0, 0, 0, 0, [], false⟩⟩
instance : Inhabited Bk := ⟨⟨[], 0, 0, 0, 0⟩⟩
instance : Inhabited Sl := ⟨⟨0, 0, 0⟩⟩
instance : Inhabited Pr := ⟨⟨false, 0, 0, [], []⟩⟩

/-- the register that an instruction sets -/
def defI (i : In) : Int :=
  if i.op = 1 ∨ i.op = 2 ∨ i.op = 3 ∨ i.op = 4 ∨ i.op = 5 ∨ i.op = 7 ∨ i.op = 8 ∨ i.op = 9 ∨ i.op = 11 then i.d else -1
def readsA (op : Int) : Bool := op == 3 || op == 6 || op == 2 || op == 4 || op == 5 || op == 10
def readsB (op : Int) : Bool := op == 3 || op == 6
def usesI (i : In) : List Int :=
  (if readsA i.op && i.a != -1 then [i.a] else []) ++ (if readsB i.op && i.b != -1 then [i.b] else []) ++ (if i.op = 9 then i.args.filter (· != -1) else [])
def outsB (b : Bk) : List Int :=
  if b.fin = 1 ∨ b.fin = 2 ∧ b.to = b.els then [b.to] else if b.fin = 2 then [b.to, b.els] else []
/-- the blocks to which a block leads, of those that there are -/
def outsP (p : Pr) (n : Nat) : List Int := (outsB (p.blks.getD n default)).filter fun t => decide (0 ≤ t) && decide (t < p.blks.length)
def pureI (i : In) : Bool := decide (1 ≤ i.op ∧ i.op ≤ 8 ∧ i.op ≠ 6)

/-- numbers that a word of 64 bits holds -/
def I64 (n : Int) : Prop := -9223372036854775808 ≤ n ∧ n ≤ 9223372036854775807
structure InOk (i : In) : Prop where
  op : I64 i.op
  d : I64 i.d
  a : I64 i.a
  b : I64 i.b
  fn : I64 i.fn
  obj : I64 i.obj
  off : I64 i.off
  size : I64 i.size
  num : 0 ≤ i.num ∧ i.num < 4294967296
  args : ∀ x ∈ i.args, I64 x
structure BkOk (b : Bk) : Prop where
  ins : ∀ i ∈ b.ins, InOk i
  fin : I64 b.fin
  a : I64 b.a
  to : I64 b.to
  els : I64 b.els
structure SlOk (s : Sl) : Prop where
  size : I64 s.size
  align : I64 s.align
  cell : I64 s.cell
structure PrOk (p : Pr) : Prop where
  params : I64 p.params
  regs : I64 p.regs
  objs : ∀ s ∈ p.objs, SlOk s
  blks : ∀ b ∈ p.blks, BkOk b
structure MdOk (m : Md) : Prop where
  globs : ∀ s ∈ m.globs, SlOk s
  data : ∀ d ∈ m.data, ∀ x ∈ d, 0 ≤ x ∧ x < 256
  procs : ∀ p ∈ m.procs, PrOk p
  main : I64 m.main
end Go.Proofs.Ytnnhobbabcfogaa
