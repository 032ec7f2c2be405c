/-
  A run of the middle language as a machine of single steps, in plain data.
-/
import Derived.Test.YtedihiodmgnlpaaC0
import Derived.Test.YtedihiodmgnlpaaR3
import Derived.Test.YtedihiodmgnlpaaR5
set_option linter.all false
namespace Go.Proofs.Ytedihiodmgnlpaa
set_option linter.unusedVariables false

/-- what a run has made -/
structure Oc where
  mem : List Int
  out : List Int
  ins : Int
  exit : Int
  e : Int
/-- a call that stands -/
structure Fr where
  n : Nat
  regs : List Int
  low : Int
  b : Nat
  i : Nat
structure Ms where
  stk : List Fr
  halt : Bool
  s : Oc
def RS.oc (s : RS) : Oc := ⟨s.mem, s.out, s.ins, s.exit, s.e⟩
def rg (regs : List Int) (n : Int) : Int := regs.getD n.toNat 0
def longM (p : Pr) : Int := slE p.objs p.objs.length
def enM (m : Md) : Int := 4096 + slE m.globs m.globs.length
def pk (m : Md) (n : Nat) : Pr := m.procs.getD n default
def addrM (regs : List Int) (i : In) : Int := (rg regs i.a + i.off) % 4294967296
/-- an instruction that is no call -/
def insM (m : Md) (inp : List Int) (p : Pr) (low : Int) (i : In) (regs : List Int) (s : Oc) : Option (List Int × Oc) :=
  if i.op = 1 then some (regs.set i.d.toNat i.num, s)
  else if i.op = 2 then some (regs.set i.d.toNat (rg regs i.a), s)
  else if i.op = 3 then some (regs.set i.d.toNat (fnF i.fn (rg regs i.a) (rg regs i.b)), s)
  else if i.op = 4 then some (regs.set i.d.toNat (fnF i.fn (rg regs i.a) 0), s)
  else if i.op = 5 then (if placeF (addrM regs i) i.size = true then some (regs.set i.d.toNat (loadP s.mem (addrM regs i - 268435456).toNat i.size.toNat), s) else none)
  else if i.op = 6 then (if placeF (addrM regs i) i.size = true then some (regs, { s with mem := storeP s.mem (addrM regs i - 268435456).toNat (rg regs i.b) i.size.toNat }) else none)
  else if i.op = 7 then some (regs.set i.d.toNat ((268435456 + low + slE p.objs i.obj.toNat + i.off) % 4294967296), s)
  else if i.op = 8 then some (regs.set i.d.toNat ((268435456 + (4096 + slE m.globs i.obj.toNat) + i.off) % 4294967296), s)
  else if i.op = 10 then some (regs, { s with out := s.out ++ [rg regs i.a] })
  else if i.op = 11 then some (regs.set i.d.toNat (if s.ins + 1 ≤ (inp.length : Int) then inp.getD s.ins.toNat 0 else 0), { s with ins := s.ins + 1 })
  else some (regs, s)
theorem insM_5 {m : Md} {inp : List Int} {p : Pr} {low : Int} {i : In} {regs : List Int} {s : Oc} (h : i.op = 5) : insM m inp p low i regs s = (if placeF (addrM regs i) i.size = true then some (regs.set i.d.toNat (loadP s.mem (addrM regs i - 268435456).toNat i.size.toNat), s) else none) := by
  unfold insM
  rw [if_neg (by omega), if_neg (by omega), if_neg (by omega), if_neg (by omega), if_pos h]
theorem insM_6 {m : Md} {inp : List Int} {p : Pr} {low : Int} {i : In} {regs : List Int} {s : Oc} (h : i.op = 6) : insM m inp p low i regs s = (if placeF (addrM regs i) i.size = true then some (regs, { s with mem := storeP s.mem (addrM regs i - 268435456).toNat (rg regs i.b) i.size.toNat }) else none) := by
  unfold insM
  rw [if_neg (by omega), if_neg (by omega), if_neg (by omega), if_neg (by omega), if_neg (by omega), if_pos h]
theorem insM_7 {m : Md} {inp : List Int} {p : Pr} {low : Int} {i : In} {regs : List Int} {s : Oc} (h : i.op = 7) : insM m inp p low i regs s = some (regs.set i.d.toNat ((268435456 + low + slE p.objs i.obj.toNat + i.off) % 4294967296), s) := by
  unfold insM
  rw [if_neg (by omega), if_neg (by omega), if_neg (by omega), if_neg (by omega), if_neg (by omega), if_neg (by omega), if_pos h]
theorem insM_8 {m : Md} {inp : List Int} {p : Pr} {low : Int} {i : In} {regs : List Int} {s : Oc} (h : i.op = 8) : insM m inp p low i regs s = some (regs.set i.d.toNat ((268435456 + (4096 + slE m.globs i.obj.toNat) + i.off) % 4294967296), s) := by
  unfold insM
  rw [if_neg (by omega), if_neg (by omega), if_neg (by omega), if_neg (by omega), if_neg (by omega), if_neg (by omega), if_neg (by omega), if_pos h]
theorem insM_10 {m : Md} {inp : List Int} {p : Pr} {low : Int} {i : In} {regs : List Int} {s : Oc} (h : i.op = 10) : insM m inp p low i regs s = some (regs, { s with out := s.out ++ [rg regs i.a] }) := by
  unfold insM
  rw [if_neg (by omega), if_neg (by omega), if_neg (by omega), if_neg (by omega), if_neg (by omega), if_neg (by omega), if_neg (by omega), if_neg (by omega), if_pos h]
theorem insM_11 {m : Md} {inp : List Int} {p : Pr} {low : Int} {i : In} {regs : List Int} {s : Oc} (h : i.op = 11) : insM m inp p low i regs s = some (regs.set i.d.toNat (if s.ins + 1 ≤ (inp.length : Int) then inp.getD s.ins.toNat 0 else 0), { s with ins := s.ins + 1 }) := by
  unfold insM
  rw [if_neg (by omega), if_neg (by omega), if_neg (by omega), if_neg (by omega), if_neg (by omega), if_neg (by omega), if_neg (by omega), if_neg (by omega), if_neg (by omega), if_pos h]
theorem insM_12 {m : Md} {inp : List Int} {p : Pr} {low : Int} {i : In} {regs : List Int} {s : Oc} (h : i.op = 12) : insM m inp p low i regs s = some (regs, s) := by
  unfold insM
  rw [if_neg (by omega), if_neg (by omega), if_neg (by omega), if_neg (by omega), if_neg (by omega), if_neg (by omega), if_neg (by omega), if_neg (by omega), if_neg (by omega), if_neg (by omega)]
/-- a call begins -/
def enterM (m : Md) (K : List Fr) (n : Nat) (args : List Int) (top : Int) (s : Oc) : Ms :=
  if top - longM (pk m n) < enM m ∨ 5000 ≤ K.length then ⟨K, true, { s with e := 8 }⟩
  else ⟨⟨n, args ++ List.replicate ((pk m n).regs.toNat - args.length) 0, top - longM (pk m n), 0, 0⟩ :: K, false, s⟩
/-- a call ends -/
def backM (m : Md) (K : List Fr) (v : Int) (s : Oc) : Ms :=
  match K with
  | [] => ⟨[], false, { s with exit := v % 256 }⟩
  | c :: K' =>
    let d := ((((pk m c.n).blks.getD c.b default).ins).getD (c.i - 1) default).d
    ⟨(if d ≠ -1 then { c with regs := c.regs.set d.toNat v } else c) :: K', false, s⟩
def stepM (m : Md) (inp : List Int) (M : Ms) : Ms :=
  match M.stk with
  | [] => M
  | fr :: K =>
    let b := (pk m fr.n).blks.getD fr.b default
    if fr.i = b.ins.length then
      if b.fin = 3 then backM m K (if b.a ≠ -1 then rg fr.regs b.a else 0) M.s
      else ⟨{ fr with b := (if b.fin = 2 ∧ rg fr.regs b.a = 0 then b.els else b.to).toNat, i := 0 } :: K, false, M.s⟩
    else
      let i := b.ins.getD fr.i default
      if i.op = 9 then enterM m ({ fr with i := fr.i + 1 } :: K) i.obj.toNat (i.args.map (rg fr.regs)) fr.low M.s
      else match insM m inp (pk m fr.n) fr.low i fr.regs M.s with
        | none => ⟨{ fr with i := fr.i + 1 } :: K, true, { M.s with e := 12 }⟩
        | some (regs, s) => ⟨{ fr with regs := regs, i := fr.i + 1 } :: K, false, s⟩
def Ms.fin (M : Ms) : Bool := M.halt || M.stk.isEmpty
def runM (m : Md) (inp : List Int) : Nat → Ms → Oc
  | 0, M => if M.fin = true then M.s else { M.s with e := 16 }
  | f + 1, M => if M.fin = true then M.s else runM m inp f (stepM m inp M)
theorem runM_fin (m : Md) (inp : List Int) (f : Nat) (M : Ms) (h : M.fin = true) : runM m inp f M = M.s := by cases f <;> simp [runM, h]
theorem runM_zero (m : Md) (inp : List Int) (fr : Fr) (K : List Fr) (s : Oc) : runM m inp 0 ⟨fr :: K, false, s⟩ = { s with e := 16 } := rfl
theorem runM_succ (m : Md) (inp : List Int) (f : Nat) (fr : Fr) (K : List Fr) (s : Oc) : runM m inp (f + 1) ⟨fr :: K, false, s⟩ = runM m inp f (stepM m inp ⟨fr :: K, false, s⟩) := rfl
theorem bitF_bd (b : Bool) : 0 ≤ bitF b ∧ bitF b < 4294967296 := by cases b <;> decide
theorem fnF_bd (fn a b : Int) (h : 0 ≤ a) (h' : a < 4294967296) (h1 : 0 ≤ b) (h1' : b < 4294967296) : 0 ≤ fnF fn a b ∧ fnF fn a b < 4294967296 := by
  have l1 : 0 ≤ lessS a b ∧ lessS a b ≤ 1 := by unfold lessS; split <;> simp
  have l2 : 0 ≤ lessS b a ∧ lessS b a ≤ 1 := by unfold lessS; split <;> simp
  have M : ∀ x : Int, 0 ≤ x % 4294967296 ∧ x % 4294967296 < 4294967296 := fun x => ⟨Int.emod_nonneg _ (by decide), Int.emod_lt_of_pos _ (by decide)⟩
  have d4 : 0 ≤ divS a b ∧ divS a b < 4294967296 := by unfold divS; split; exact ⟨by decide, by decide⟩; exact M _
  have d5 : 0 ≤ remS a b ∧ remS a b < 4294967296 := by unfold remS; split; exact ⟨h, h'⟩; exact M _
  have d9 : 0 ≤ shl32 a b ∧ shl32 a b < 4294967296 := by unfold shl32; exact M _
  have d10 : 0 ≤ sar32 a b ∧ sar32 a b < 4294967296 := by unfold sar32; exact M _
  have hB : 0 ≤ bits .and .u32 a b ∧ bits .and .u32 a b < 4294967296 ∧ 0 ≤ bits .or .u32 a b ∧ bits .or .u32 a b < 4294967296 ∧ 0 ≤ bits .xor .u32 a b ∧ bits .xor .u32 a b < 4294967296 ∧ 0 ≤ bits .xor .u32 IntKind.u32.max a ∧ bits .xor .u32 IntKind.u32.max a < 4294967296 := by
    simp only [bits, IntKind.wrap_u32]
    exact ⟨(M _).1, (M _).2, (M _).1, (M _).2, (M _).1, (M _).2, (M _).1, (M _).2⟩
  obtain ⟨b1, b2, b3, b4, b5, b6, b7, b8⟩ := hB
  unfold fnF
  generalize divS a b = x1 at *
  generalize remS a b = x2 at *
  generalize shl32 a b = x3 at *
  generalize sar32 a b = x4 at *
  generalize bits .and .u32 a b = x5 at *
  generalize bits .or .u32 a b = x6 at *
  generalize bits .xor .u32 a b = x7 at *
  generalize bits .xor .u32 IntKind.u32.max a = x8 at *
  generalize lessS a b = x9 at *
  generalize lessS b a = x10 at *
  have P : ∀ (q : Prop) [Decidable q] (x y : Int), (0 ≤ x ∧ x < 4294967296) → (0 ≤ y ∧ y < 4294967296) → 0 ≤ (if q then x else y) ∧ (if q then x else y) < 4294967296 := fun q _ x y hx hy => by split <;> assumption
  repeat' apply P
  all_goals first
    | exact M _
    | exact bitF_bd _
    | (constructor <;> first | assumption | omega)
/-- data put at a place -/
def putL (mem : List Int) (at' : Nat) (d : List Int) : List Int := mem.take at' ++ (d ++ mem.drop (at' + d.length))
def mem0 (m : Md) : Nat → List Int
  | 0 => List.replicate 65536 0
  | k + 1 => putL (mem0 m k) (4096 + slE m.globs k).toNat (m.data.getD k [])
def playM (m : Md) (inp : List Int) (fuel : Nat) : Oc :=
  if okM m = false then ⟨[], [], 0, 0, 3⟩
  else if 65536 < enM m then ⟨[], [], 0, 0, 8⟩
  else runM m inp fuel (enterM m [] m.main.toNat [] 65536 ⟨mem0 m m.globs.length, [], 0, 0, 0⟩)
end Go.Proofs.Ytedihiodmgnlpaa
