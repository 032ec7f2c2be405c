/-
  The machine of layer 3 as plain data: a step, a failure of the power, a run.
-/
import Derived.Test.YtppmjdljnacpgaaW1
import Derived.Test.YtppmjdljnacpgaaI3
set_option linter.all false
namespace Go.Proofs.Ytppmjdljnacpgaa
set_option linter.unusedVariables false

/-- a machine that runs -/
structure Dv where
  regs : List Int
  pc : Int
  seq : Int
  index : Int
  data : List Int
  log : List (Int × Int)
  steps : Int
  state : Int
  exit : Int
/-- an instruction: operation, registers, number -/
structure Iv where
  op : Int
  rd : Int
  rs1 : Int
  rs2 : Int
  imm : Int
def wd (n : Int) : Int := n % 4294967296
def takenP (op a b : Int) : Bool :=
  if op = 5 then a == b
  else if op = 6 then a != b
  else if op = 7 then lessS a b == 1
  else if op = 8 then lessS a b == 0
  else if op = 9 then lessU a b == 1
  else lessU a b == 0
/-- the long form of an operation with a number -/
def longP (op : Int) : Int :=
  if op = 19 then 28 else if op = 20 then 31 else if op = 21 then 32 else if op = 22 then 33 else if op = 23 then 36
  else if op = 24 then 37 else if op = 25 then 30 else if op = 26 then 34 else if op = 27 then 35 else op
def reckP (op a b : Int) : Int :=
  if op = 28 then wd (a + b)
  else if op = 29 then wd (a - b)
  else if op = 30 then shl32 a b
  else if op = 31 then lessS a b
  else if op = 32 then lessU a b
  else if op = 33 then bits .xor .u32 a b
  else if op = 34 then shr32 a b
  else if op = 35 then sar32 a b
  else if op = 36 then bits .or .u32 a b
  else if op = 37 then bits .and .u32 a b
  else if op = 38 then wd (a * b)
  else if op = 39 then highS a b
  else if op = 40 then highSU a b
  else if op = 41 then highU a b
  else if op = 42 then divS a b
  else if op = 43 then divU a b
  else if op = 44 then remS a b
  else remU a b
def sizeP (op : Int) : Int := if op = 11 ∨ op = 14 ∨ op = 16 then 1 else if op = 12 ∨ op = 15 ∨ op = 17 then 2 else 4
/-- do so many bytes at an address lie in the data? -/
def liesP (m : Dv) (at' n : Int) : Bool := decide (at' % n = 0) && (decide (268435456 ≤ at') && decide (at' + n ≤ 268435456 + (m.data.length : Int)))
def bytesP (mem : List Int) (n : Nat) : Nat → Int
  | 0 => 0
  | i + 1 => bytesP mem n i + mem.getD (n + i) 0 * 256 ^ i
def putP (mem : List Int) (n : Nat) (v : Int) : Nat → List Int
  | 0 => mem
  | i + 1 => (putP mem n v i).set (n + i) (v / 256 ^ i % 256)
/-- what a load tells -/
def loadD (inp : List Int) (m : Dv) (op at' : Int) : Option Int :=
  if op = 13 ∧ at' = 536870924 then some (if m.index < (inp.length : Int) then inp.getD m.index.toNat 0 else 0)
  else if liesP m at' (sizeP op) = true then
    let v := bytesP m.data (at' - 268435456).toNat (sizeP op).toNat
    some (if op = 11 then signX v 8 else if op = 12 then signX v 16 else v)
  else none
def storeD (m : Dv) (op at' v : Int) : Option Dv :=
  if op = 18 ∧ at' = 536870912 then some { m with seq := v }
  else if op = 18 ∧ at' = 536870916 then some { m with log := m.log ++ [(m.seq, v)] }
  else if op = 18 ∧ at' = 536870920 then some { m with index := v }
  else if op = 18 ∧ at' = 536870928 then some { m with state := 1, exit := v }
  else if liesP m at' (sizeP op) = true then some { m with data := putP m.data (at' - 268435456).toNat v (sizeP op).toNat }
  else none
def setD (m : Dv) (r v : Int) : Dv := if 0 < r then { m with regs := m.regs.set r.toNat v } else m
def regD (m : Dv) (r : Int) : Int := m.regs.getD r.toNat 0
/-- does an instruction; none: it faults -/
def doD (inp : List Int) (m : Dv) (i : Iv) : Option Dv :=
  let a := regD m i.rs1
  let b := regD m i.rs2
  let at' := wd (a + i.imm)
  let next := wd (m.pc + 4)
  if i.op = 1 then some { setD m i.rd (wd i.imm) with pc := next }
  else if i.op = 2 then some { setD m i.rd (wd (m.pc + i.imm)) with pc := next }
  else if i.op = 3 then some { setD m i.rd next with pc := wd (m.pc + i.imm) }
  else if i.op = 4 then some { setD m i.rd next with pc := at' - at' % 2 }
  else if i.op ≤ 10 then some { m with pc := if takenP i.op a b = true then wd (m.pc + i.imm) else next }
  else if i.op ≤ 15 then (match loadD inp m i.op at' with | none => none | some v => some { setD m i.rd v with pc := next })
  else if i.op ≤ 18 then (match storeD m i.op at' b with | none => none | some m' => some { m' with pc := next })
  else if i.op ≤ 27 then some { setD m i.rd (reckP (longP i.op) a (wd i.imm)) with pc := next }
  else some { setD m i.rd (reckP i.op a b) with pc := next }
/-- the instruction of a word -/
def fitN (w : Int) : Nat → Option Nat
  | 0 => none
  | k + 1 => if 1 ≤ k ∧ fitsP k w then some k else fitN w k
def decD (w : Int) : Option Iv := match fitN w 46 with | none => none | some k => some ⟨k, rdW k w, rs1W k w, rs2W k w, immF (fm k) w⟩
def stepD (code inp : List Int) (m : Dv) : Dv :=
  if m.state ≠ 0 then m
  else if m.pc % 4 = 0 ∧ m.pc / 4 < (code.length : Int) then
    match decD (code.getD (m.pc / 4).toNat 0) with
    | none => { m with state := 2 }
    | some i => match doD inp m i with
      | none => { m with state := 2 }
      | some m' => { m' with steps := m.steps + 1 }
  else { m with state := 2 }
def failD (m : Dv) : Dv := if m.state = 0 then { m with regs := List.replicate 32 0, pc := 0, seq := 0, index := 0 } else m
/-- what is left of the failures, those behind taken off -/
def dropD (steps : Int) : List Int → List Int
  | [] => []
  | x :: l => if x < steps then dropD steps l else x :: l
def runD (code inp : List Int) (n : Int) : Nat → List Int → Dv → Dv
  | 0, _, m => m
  | f + 1, fails, m =>
    if m.state = 0 ∧ m.steps < n then
      match dropD m.steps fails with
      | [] => runD code inp n f [] (stepD code inp m)
      | x :: l => if x = m.steps then runD code inp n f l (stepD code inp (failD m)) else runD code inp n f (x :: l) (stepD code inp m)
    else m
def beginD (data : List Int) : Dv := ⟨List.replicate 32 0, 0, 0, 0, data, [], 0, 0, 0⟩
end Go.Proofs.Ytppmjdljnacpgaa
