/-
  Which modules and procedures of the middle language are right, as plain functions.
-/
import Derived.Test.YtnnhobbabcfogaaDoorH3
set_option linter.all false
namespace Go.Proofs.YtnnhobbabcfogaaDoor

def offF (n : Int) : Bool := decide (-32768 ≤ n) && decide (n ≤ 32768)
def slotF (s : Sl) : Bool := decide (1 ≤ s.size) && (decide (s.size ≤ 32768) && (s.align == 1 || s.align == 4))
def regF (p : Pr) (r : Int) (should : Bool) : Bool := if should = true then decide (0 ≤ r) && decide (r < p.regs) else r == -1
def blockF (p : Pr) (n : Int) : Bool := decide (0 ≤ n) && decide (n < p.blks.length)
def endF (p : Pr) (b : Bk) : Bool :=
  if b.fin = 1 then blockF p b.to && (b.a == -1 && b.els == 0)
  else if b.fin = 2 then blockF p b.to && (blockF p b.els && regF p b.a true)
  else if b.fin = 3 then regF p b.a (!p.void) && (b.to == 0 && b.els == 0)
  else false
/-- an instruction without what its operation has -/
def plainI (i : In) : In :=
  { op := i.op, d := -1, a := -1, b := -1, args := [], log := if i.op = 6 ∨ defI i ≠ -1 then false else i.log, num := if i.op = 1 then 0 else i.num, fn := if i.op = 3 ∨ i.op = 4 then 0 else i.fn, off := if i.op = 5 ∨ i.op = 6 ∨ i.op = 7 ∨ i.op = 8 then 0 else i.off, size := if i.op = 5 ∨ i.op = 6 then 0 else i.size, obj := if i.op = 7 ∨ i.op = 8 ∨ i.op = 9 then 0 else i.obj }
def bareF (i : In) : Bool :=
  (plainI i).fn == 0 && ((plainI i).obj == 0 && ((plainI i).off == 0 && ((plainI i).size == 0 && ((plainI i).num == 0 && (!(plainI i).log && (i.op == 9 || decide (i.args.length = 0)))))))
def callF (m : Md) (p : Pr) (i : In) : Bool :=
  decide (0 ≤ i.obj) && (decide (i.obj < m.procs.length) && (decide ((i.args.length : Int) = (m.procs.getD i.obj.toNat default).params) && (regF p i.d (!(m.procs.getD i.obj.toNat default).void) && i.args.all fun r => regF p r true)))
/-- what an operation has beside registers -/
def moreF (m : Md) (p : Pr) (i : In) : Bool :=
  if i.op = 3 then decide (1 ≤ i.fn) && decide (i.fn ≤ 16)
  else if i.op = 4 then decide (17 ≤ i.fn) && decide (i.fn ≤ 19)
  else if i.op = 5 ∨ i.op = 6 then (i.size == 1 || i.size == 4) && offF i.off
  else if i.op = 7 then (decide (0 ≤ i.obj) && decide (i.obj < p.objs.length)) && offF i.off
  else if i.op = 8 then (decide (0 ≤ i.obj) && decide (i.obj < m.globs.length)) && offF i.off
  else true
def okI (m : Md) (p : Pr) (i : In) : Bool :=
  (decide (1 ≤ i.op) && (decide (i.op ≤ 12) && bareF i)) &&
  if i.op = 9 then callF m p i && (regF p i.a false && regF p i.b false)
  else (regF p i.d (i.op != 6 && (i.op != 10 && i.op != 12)) && (regF p i.a (readsA i.op) && regF p i.b (readsB i.op))) && moreF m p i
def okB (m : Md) (p : Pr) (b : Bk) : Bool := b.ins.all (okI m p) && endF p b
def insN (p : Pr) : Nat := (p.blks.map fun b => b.ins.length).sum
def okHead (p : Pr) : Bool :=
  decide (0 ≤ p.params) && (decide (p.params ≤ 6) && (decide (p.params ≤ p.regs) && (decide (p.regs ≤ 8000) && (decide (p.objs.length ≤ 400) && (decide (1 ≤ p.blks.length) && (decide (p.blks.length ≤ 4000) && (p.objs.all slotF && decide (insN p ≤ 20000))))))))
def okP (m : Md) (p : Pr) : Bool := okHead p && p.blks.all (okB m p)
def dataF (m : Md) : Bool := (List.range m.data.length).all fun k => decide (((m.data.getD k []).length : Int) = (m.globs.getD k default).size)
def okHeadM (m : Md) : Bool :=
  decide (m.data.length = m.globs.length) && (decide (m.globs.length ≤ 200) && (m.globs.all slotF && (decide (1 ≤ m.procs.length) && (decide (m.procs.length ≤ 200) && (decide (0 ≤ m.main) && decide (m.main < m.procs.length))))))
def okM (m : Md) : Bool :=
  okHeadM m && (dataF m && (((m.procs.getD m.main.toNat default).params == 0 && !(m.procs.getD m.main.toNat default).void) && m.procs.all (okP m)))
/-- sizes that no sum of 64 bits leaves -/
structure SzP (p : Pr) : Prop where
  blks : p.blks.length ≤ 100000
  ins : ∀ b ∈ p.blks, b.ins.length ≤ 100000
structure SzM (m : Md) : Prop where
  procs : ∀ p ∈ m.procs, SzP p
end Go.Proofs.YtnnhobbabcfogaaDoor
