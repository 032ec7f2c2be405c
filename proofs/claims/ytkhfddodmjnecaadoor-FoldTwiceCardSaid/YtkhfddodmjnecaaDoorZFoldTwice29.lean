/-
 What is known stands as numbers: the procedure, and why it does the same. Plain.; Nothing is reckoned twice (fold.Values): as plain data.
-/
import Derived.Test.YtkhfddodmjnecaaDoorZFoldTwice28

set_option linter.all false
namespace Go.Proofs.YtkhfddodmjnecaaDoor
set_option linter.unusedVariables false

def constI (d n : Int) : In := ⟨1, d, -1, -1, 0, 0, 0, 0, n, [], false⟩
/-- what stands in the place of an instruction, behind which the row is t -/
def knwI (t : Ro) (i : In) : In := if i.op = 2 ∨ i.op = 3 ∨ i.op = 4 then (match cAt t i.d with | some n => constI i.d n | none => i) else i
def knwL : Ro → List In → List In
 | _, [] => []
 | t, i :: l => knwI (behC t i) i :: knwL (behC t i) l
def jmpB (b : Bk) (n : Int) : Bk := ⟨b.ins, 1, -1, if n = 0 then b.els else b.to, 0⟩
def knwE (t : Ro) (b : Bk) : Bk := if b.fin = 2 then (match cAt t b.a with | some n => jmpB b n | none => b) else b
def knwB (t : Ro) (b : Bk) : Bk := knwE (thrC t b.ins) ⟨knwL t b.ins, b.fin, b.a, b.to, b.els⟩
def knwP (p : Pr) (X : Nat → Ro) : Pr := ⟨p.void, p.params, p.regs, p.objs, (List.range p.blks.length).map fun n => knwB (X n) (p.blks.getD n default)⟩
theorem knwL_len : ∀ (l : List In) (t : Ro), (knwL t l).length = l.length
 | [], _ => rfl
 | i :: l, t => by simp [knwL, knwL_len l]
theorem knwL_at : ∀ (l : List In) (t : Ro) (k : Nat), k < l.length → (knwL t l).getD k default = knwI (thrC t (l.take (k + 1))) (l.getD k default)
 | [], _, _, h => absurd h (Nat.not_lt_zero _)
 | i :: l, t, 0, _ => rfl
 | i :: l, t, k + 1, h => by
  have := knwL_at l (behC t i) k (by simpa using h)
  rw [knwL, List.getD_cons_succ, this, List.take_succ_cons, List.getD_cons_succ]; rfl
theorem knwB_ins (t : Ro) (b : Bk) : (knwB t b).ins = knwL t b.ins := by
 unfold knwB knwE
 split
 ·split <;> rfl
 ·rfl
theorem knwB_end (t : Ro) (b : Bk) : ((knwB t b).fin = b.fin ∧ (knwB t b).a = b.a ∧ (knwB t b).to = b.to ∧ (knwB t b).els = b.els) ∧ (b.fin = 2 → cAt (thrC t b.ins) b.a = none) ∨ b.fin = 2 ∧ ∃ n, cAt (thrC t b.ins) b.a = some n ∧ (knwB t b).fin = 1 ∧ (knwB t b).a = -1 ∧ (knwB t b).to = (if n = 0 then b.els else b.to) ∧ (knwB t b).els = 0 := by
 unfold knwB knwE
 dsimp only
 by_cases h : b.fin = 2
 ·rw [if_pos h]
  cases hc : cAt (thrC t b.ins) b.a with
  | none => exact .inl ⟨⟨rfl, rfl, rfl, rfl⟩, fun _ => rfl⟩
  | some n => exact .inr ⟨h, n, rfl, rfl, rfl, rfl, rfl⟩
 ·rw [if_neg h]
  exact .inl ⟨⟨rfl, rfl, rfl, rfl⟩, fun e => absurd e h⟩
theorem knwP_len (p : Pr) (X : Nat → Ro) : (knwP p X).blks.length = p.blks.length := by simp [knwP]
theorem knwP_at (p : Pr) (X : Nat → Ro) {n : Nat} (h : n < p.blks.length) : (knwP p X).blks.getD n default = knwB (X n) (p.blks.getD n default) := by simp [knwP, List.getD, h]

section
variable {m : Md} {n : Nat} {X : Nat → Option Ro}
end
/-- .. it is right -/
theorem constI_ok {m : Md} {p : Pr} {d n : Int} (h0 : 0 ≤ d) (h1 : d < p.regs) : okI m p (constI d n) = true := by
 unfold okI bareF plainI constI regF moreF defI readsA readsB
 simp [h0, h1]
theorem knwI_ok {m : Md} {p : Pr} {t : Ro} {i : In} (h : okI m p i = true) : okI m p (knwI t i) = true := by
 unfold knwI
 split
 ·rename_i h3
  split
  ·have hd := okI_d h (by omega)
   exact constI_ok hd.1 hd.2
  ·exact h
 ·exact h
theorem knwL_mem {t : Ro} {l : List In} {i : In} (h : i ∈ knwL t l) : ∃ k, k < l.length ∧ i = knwI (thrC t (l.take (k + 1))) (l.getD k default) := by
 obtain ⟨k, hk, rfl⟩ := List.getElem_of_mem h
 rw [knwL_len] at hk
 refine ⟨k, hk, ?_⟩
 rw [← knwL_at l t k hk]
 simp [List.getD, knwL_len, hk]
theorem knwP_mem {p : Pr} {X : Nat → Ro} {b : Bk} (h : b ∈ (knwP p X).blks) : ∃ k, k < p.blks.length ∧ b = knwB (X k) (p.blks.getD k default) := by
 obtain ⟨k, hk, rfl⟩ := List.mem_map.1 h
 exact ⟨k, List.mem_range.1 hk, rfl⟩
theorem knwP_insN (p : Pr) (X : Nat → Ro) : insN (knwP p X) = insN p := by
 have h1 := sizeL_range p.blks
 have h2 := sizeL_range (knwP p X).blks
 unfold sizeL at h1 h2
 unfold insN
 rw [h1, h2, knwP_len]
 congr 1
 refine List.map_congr_left fun k hk => ?_
 rw [knwP_at p X (List.mem_range.1 hk), knwB_ins, knwL_len]
theorem knw_end_ok {p : Pr} {t : Ro} {b : Bk} (h : endF p b = true) : endF p (knwB t b) = true := by
 rcases knwB_end t b with ⟨⟨a1, a2, a3, a4⟩, -⟩ | ⟨a0, x, a1, a2, a3, a4, a5⟩
 ·unfold endF at h ⊢
  rw [a1, a2, a3, a4]; exact h
 ·unfold endF at h ⊢
  rw [a0] at h
  rw [a2, a3, a4, a5]
  rw [if_neg (by decide), if_pos rfl] at h
  simp only [Bool.and_eq_true] at h
  rw [if_pos rfl]
  simp only [beq_self_eq_true, Bool.and_self, Bool.and_true]
  split
  ·exact h.2.1
  ·exact h.1
theorem knwP_okP {m : Md} {p : Pr} {X : Nat → Ro} (h : okP m p = true) : okP m (knwP p X) = true := by
 unfold okP okHead at h ⊢
 simp only [Bool.and_eq_true, decide_eq_true_eq, List.all_eq_true] at h ⊢
 obtain ⟨⟨h1, h2, h3, h4, h5, h6, h7, h8, h9⟩, hb⟩ := h
 refine ⟨⟨h1, h2, h3, h4, h5, by rw [knwP_len]; exact h6, by rw [knwP_len]; exact h7, h8, by rw [knwP_insN]; exact h9⟩, fun b hbm => ?_⟩
 obtain ⟨k, hk, rfl⟩ := knwP_mem hbm
 have := hb (p.blks.getD k default) (getD_in hk)
 unfold okB at this ⊢
 simp only [Bool.and_eq_true, List.all_eq_true] at this ⊢
 refine ⟨fun i hi => ?_, ?_⟩
 ·rw [knwB_ins] at hi
  obtain ⟨j, hj, rfl⟩ := knwL_mem hi
  rw [okI_same (q := knwP p X) (p := p) rfl rfl]
  exact knwI_ok (this.1 _ (getD_in hj))
 ·rw [endF_same (q := knwP p X) (p := p) rfl rfl (knwP_len p X)]
  exact knw_end_ok this.2
theorem knwI_in {t : Ro} {i : In} (hi : InOk i) (ht : RoOk t) : InOk (knwI t i) := by
 unfold knwI
 split
 ·split
  ·rename_i n hc
   have := ht.at _ _ hc
   exact ⟨i64_1, hi.d, i64_m, i64_m, i64_0, i64_0, i64_0, i64_0, this, fun x hx => by cases hx⟩
  ·exact hi
 ·exact hi
theorem knwP_ok {p : Pr} {X : Nat → Ro} (h : PrOk p) (hX : ∀ n, RoOk (X n)) : PrOk (knwP p X) := by
 refine ⟨h.params, h.regs, h.objs, fun b hb => ?_⟩
 obtain ⟨k, hk, rfl⟩ := knwP_mem hb
 have hB := h.blks (p.blks.getD k default) (getD_in hk)
 have hins : ∀ i ∈ (knwB (X k) (p.blks.getD k default)).ins, InOk i := fun i hi => by
  rw [knwB_ins] at hi
  obtain ⟨j, hj, rfl⟩ := knwL_mem hi
  refine knwI_in (hB.ins _ (getD_in hj)) (thrC_ok (hX k) fun x hx => (hB.ins x (List.mem_of_mem_take hx)).num)
 rcases knwB_end (X k) (p.blks.getD k default) with ⟨⟨a1, a2, a3, a4⟩, -⟩ | ⟨a0, x, a1, a2, a3, a4, a5⟩
 ·exact ⟨hins, by rw [a1]; exact hB.fin, by rw [a2]; exact hB.a, by rw [a3]; exact hB.to, by rw [a4]; exact hB.els⟩
 ·refine ⟨hins, by rw [a2]; exact i64_1, by rw [a3]; exact i64_m, ?_, by rw [a5]; exact i64_0⟩
  rw [a4]; split
  ·exact hB.els
  ·exact hB.to
end Go.Proofs.YtkhfddodmjnecaaDoor

set_option linter.all false
namespace Go.Proofs.YtkhfddodmjnecaaDoor
set_option linter.unusedVariables false

/-- what an instruction tells -/
structure Ky where
 op : Int
 fn : Int
 a : Int
 b : Int
 obj : Int
 off : Int
 size : Int
 num : Int
 mem : Int
theorem Ky.eq_iff (x y : Ky) : (x.op = y.op ∧ x.fn = y.fn ∧ x.a = y.a ∧ x.b = y.b ∧ x.obj = y.obj ∧ x.off = y.off ∧ x.size = y.size ∧ x.num = y.num ∧ x.mem = y.mem) ↔ x = y := by
 constructor
 ·obtain ⟨a, b, c, d, e, f, g, h, i⟩ := x
  obtain ⟨a', b', c', d', e', f', g', h', i'⟩ := y
  rintro ⟨h1, h2, h3, h4, h5, h6, h7, h8, h9⟩
  dsimp only at h1 h2 h3 h4 h5 h6 h7 h8 h9
  subst h1 h2 h3 h4 h5 h6 h7 h8 h9
  rfl
 ·rintro rfl
  exact ⟨rfl, rfl, rfl, rfl, rfl, rfl, rfl, rfl, rfl⟩
instance : DecidableEq Ky := fun x y => decidable_of_iff _ (Ky.eq_iff x y)
/-- what is known within a block -/
structure Dk where
 of : Int → Option Int
 ky : Ky → Option Int
 num : Int → Option Int
 fs : Int → List Int
 vs : Int
 mm : Int
def updI {β : Type} (M : Int → β) (x : Int) (y : β) : Int → β := fun z => if z = x then y else M z
theorem updI_same {β : Type} (M : Int → β) (x : Int) (y : β) : updI M x y x = y := if_pos rfl
theorem updI_other {β : Type} (M : Int → β) {x z : Int} (y : β) (h : z ≠ x) : updI M x y z = M z := if_neg h
def Dk0 : Dk := ⟨fun _ => none, fun _ => none, fun _ => none, fun _ => [], 0, 0⟩
def haveD (d : Dk) (r v : Int) : Dk := ⟨updI d.of r (some v), d.ky, d.num, updI d.fs v (d.fs v ++ [r]), d.vs, d.mm⟩
def freshD (d : Dk) : Dk := ⟨d.of, d.ky, d.num, d.fs, d.vs + 1, d.mm⟩
def valueD (d : Dk) (r : Int) : Int × Dk := match d.of r with
 | some v => (v, d)
 | none => (d.vs + 1, haveD (freshD d) r (d.vs + 1))
def holderD (d : Dk) (v : Int) : Int := ((d.fs v).find? fun r => (d.of r).getD 0 == v).getD (-1)
def readD (d : Dk) (r : Int) : Int × Dk := if r = -1 then (r, d) else (holderD (valueD d r).2 (valueD d r).1, (valueD d r).2)
def setKy (d : Dk) (k : Ky) (v : Int) : Dk := ⟨d.of, fun x => if x = k then some v else d.ky x, d.num, d.fs, d.vs, d.mm⟩
def namedD (d : Dk) (k : Ky) : Int × Dk := match d.ky k with
 | some v => (v, d)
 | none => (d.vs + 1, setKy (freshD d) k (d.vs + 1))
def setNum (d : Dk) (v n : Int) : Dk := ⟨d.of, d.ky, updI d.num v (some n), d.fs, d.vs, d.mm⟩
def kyC (n : Int) : Ky := ⟨1, 0, 0, 0, 0, 0, 0, n, 0⟩
def constD (d : Dk) (n : Int) : Int × Dk := ((namedD d (kyC n)).1, setNum (namedD d (kyC n)).2 (namedD d (kyC n)).1 n)
def swapsF (fn : Int) : Bool := decide (fn = 1 ∨ fn = 3 ∨ fn = 6 ∨ fn = 7 ∨ fn = 8 ∨ fn = 11 ∨ fn = 12)
def sameD (d : Dk) (fn a b : Int) : Int :=
 if d.num b = some 0 ∧ (fn = 1 ∨ fn = 2 ∨ fn = 7 ∨ fn = 8 ∨ fn = 9 ∨ fn = 10) then a
 else if d.num b = some 1 ∧ (fn = 3 ∨ fn = 4) then a
 else if d.num a = some 0 ∧ (fn = 1 ∨ fn = 7 ∨ fn = 8) then b
 else if d.num a = some 1 ∧ fn = 3 then b
 else if a = b ∧ (fn = 6 ∨ fn = 7) then a
 else 0
def kyB (fn a b : Int) : Ky := ⟨3, fn, a, b, 0, 0, 0, 0, 0⟩
/-- the value of a function of two values, not both of which are numbers -/
def twoN (d : Dk) (fn a b : Int) : Int × Dk :=
 if 0 < sameD d fn a b then (sameD d fn a b, d)
 else if a = b ∧ (fn = 2 ∨ fn = 8) then constD d 0
 else if swapsF fn = true ∧ b < a then namedD d (kyB fn b a)
 else namedD d (kyB fn a b)
def twoD (d : Dk) (fn a b : Int) : Int × Dk := match d.num a with
 | some m => (match d.num b with
  | some n => constD d (fnF fn m n)
  | none => twoN d fn a b)
 | none => twoN d fn a b
def kyL (a off size mem : Int) : Ky := ⟨5, 0, a, 0, 0, off, size, 0, mem⟩
def liesD (d : Dk) (i : In) : Ky × Dk := (kyL (valueD d i.a).1 i.off i.size (valueD d i.a).2.mm, (valueD d i.a).2)
def kyU (fn a : Int) : Ky := ⟨4, fn, a, 0, 0, 0, 0, 0, 0⟩
def kyP (op obj off : Int) : Ky := ⟨op, 0, 0, 0, obj, off, 0, 0, 0⟩
def unD (d : Dk) (fn a : Int) : Int × Dk := match d.num a with
 | some n => constD d (fnF fn n 0)
 | none => namedD d (kyU fn a)
def toldD (d : Dk) (i : In) : Int × Dk :=
 if i.op = 1 then constD d i.num
 else if i.op = 2 then valueD d i.a
 else if i.op = 3 then twoD (valueD (valueD d i.a).2 i.b).2 i.fn (valueD d i.a).1 (valueD (valueD d i.a).2 i.b).1
 else if i.op = 4 then unD (valueD d i.a).2 i.fn (valueD d i.a).1
 else if i.op = 7 ∨ i.op = 8 then namedD d (kyP i.op i.obj i.off)
 else if i.op = 5 then namedD (liesD d i).2 (liesD d i).1
 else (0, d)
def readL (d : Dk) : List Int → List Int × Dk
 | [] => ([], d)
 | r :: l => ((readD d r).1 :: (readL (readD d r).2 l).1, (readL (readD d r).2 l).2)
def readsD (d : Dk) (i : In) : In × Dk :=
 (⟨i.op, i.d, (readD d i.a).1, (readD (readD d i.a).2 i.b).1, i.fn, i.obj, i.off, i.size, i.num, (readL (readD (readD d i.a).2 i.b).2 i.args).1, i.log⟩, (readL (readD (readD d i.a).2 i.b).2 i.args).2)
/-- memory is changed -/
def turnD (d : Dk) (op : Int) : Dk := if op = 6 ∨ op = 9 then ⟨d.of, d.ky, d.num, d.fs, d.vs, d.mm + 1⟩ else d
/-- what was put lies there now -/
def putD (d : Dk) (i : In) : Dk := if i.op = 6 ∧ i.size = 4 then setKy (valueD (liesD d i).2 i.b).2 (liesD d i).1 (valueD (liesD d i).2 i.b).1 else d
def copyI (d a : Int) : In := ⟨2, d, a, -1, 0, 0, 0, 0, 0, [], false⟩
/-- what sets a register to a value that has this number, or that this instruction sets -/
def outD (d : Dk) (i : In) (v : Int) : In := match d.num v with
 | some n => constI (defI i) n
 | none => if holderD d v ≠ -1 then copyI (defI i) (holderD d v) else i
/-- behind what is read and put: an instruction that sets a register -/
def setsD (d : Dk) (i : In) : (In × Bool) × Dk :=
 if (toldD d i).1 = 0 then ((i, true), haveD (freshD (toldD d i).2) (defI i) ((toldD d i).2.vs + 1))
 else if ((toldD d i).2.of (defI i)).getD 0 = (toldD d i).1 then ((i, false), (toldD d i).2)
 else ((outD (toldD d i).2 i (toldD d i).1, true), haveD (toldD d i).2 (defI i) (toldD d i).1)
def insD (d : Dk) (i : In) : (In × Bool) × Dk :=
 if defI i = -1 then (((readsD d i).1, true), putD (turnD (readsD d i).2 i.op) (readsD d i).1)
 else setsD (putD (turnD (readsD d i).2 i.op) (readsD d i).1) (readsD d i).1
def vlsL : Dk → List In → List In
 | _, [] => []
 | d, i :: l => if (insD d i).1.2 = true then (insD d i).1.1 :: vlsL (insD d i).2 l else vlsL (insD d i).2 l
def dskL : Dk → List In → Dk
 | d, [] => d
 | d, i :: l => dskL (insD d i).2 l
def vlsE (d : Dk) (b : Bk) : Bk :=
 if b.a = -1 then b
 else if b.fin = 2 then (match (valueD d b.a).2.num (valueD d b.a).1 with
  | some n => jmpB b n
  | none => ⟨b.ins, b.fin, holderD (valueD d b.a).2 (valueD d b.a).1, b.to, b.els⟩)
 else ⟨b.ins, b.fin, holderD (valueD d b.a).2 (valueD d b.a).1, b.to, b.els⟩
def vlsB (b : Bk) : Bk := vlsE (dskL Dk0 b.ins) ⟨vlsL Dk0 b.ins, b.fin, b.a, b.to, b.els⟩
def vlsP (p : Pr) : Pr := ⟨p.void, p.params, p.regs, p.objs, p.blks.map vlsB⟩
end Go.Proofs.YtkhfddodmjnecaaDoor
