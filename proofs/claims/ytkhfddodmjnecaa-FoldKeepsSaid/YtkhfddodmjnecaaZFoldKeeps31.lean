/-
 What is told in any order is what the document's rounds come to, plain.; What is told in any order is what the document's rounds come to: the two are the same, plain.; What is not reached hears nothing, plain.; A procedure in the place of another one: what it owes, and what is right then. Plain.; What is known stands as numbers: the procedure, and why it does the same. Plain.; Nothing is reckoned twice (fold.Values): as plain data.
-/
import Derived.Test.YtkhfddodmjnecaaZFoldKeeps29
import Derived.Test.YtkhfddodmjnecaaZFoldKeeps30
import Derived.Test.YtkhfddodmjnecaaZFoldKeeps25

set_option linter.all false
namespace Go.Proofs.Ytkhfddodmjnecaa
set_option linter.unusedVariables false

end Go.Proofs.Ytkhfddodmjnecaa

set_option linter.all false
namespace Go.Proofs.Ytkhfddodmjnecaa
set_option linter.unusedVariables false

section
variable {p : Pr} {R : Nat} (h0 : 0 < p.blks.length) (hL : ∀ n, n < p.blks.length → ∀ q ∈ outsB (p.blks.getD n default), 0 ≤ q ∧ q < (p.blks.length : Int))
include h0 hL
end
end Go.Proofs.Ytkhfddodmjnecaa

set_option linter.all false
namespace Go.Proofs.Ytkhfddodmjnecaa
set_option linter.unusedVariables false

end Go.Proofs.Ytkhfddodmjnecaa

set_option linter.all false
namespace Go.Proofs.Ytkhfddodmjnecaa
set_option linter.unusedVariables false

theorem rg_set (l : List Int) (d r v : Int) (hd : 0 ≤ d) (hr : 0 ≤ r) : rg (l.set d.toNat v) r = if r = d ∧ d.toNat < l.length then v else rg l r := by
 unfold rg
 simp only [List.getD, List.getElem?_set]
 by_cases e : d.toNat = r.toNat
 ·have e2 : r = d := by omega
  rw [if_pos e]
  by_cases h : d.toNat < l.length
  ·rw [if_pos h, if_pos ⟨e2, h⟩]; rfl
  ·rw [if_neg h, if_neg (fun q => h q.2), e2]; simp [Nat.le_of_not_lt h]
 ·rw [if_neg e, if_neg (fun q => e (by omega))]
theorem rg_set_ne (l : List Int) {d r : Int} (v : Int) (hd : 0 ≤ d) (hr : 0 ≤ r) (h : r ≠ d) : rg (l.set d.toNat v) r = rg l r := by rw [rg_set _ _ _ _ hd hr, if_neg (fun q => h q.1)]
/-- what others ask of a procedure -/
structure Like (p q : Pr) : Prop where
 params : q.params = p.params
 void : q.void = p.void
/-- a procedure in the place of another one does the same -/
structure Good (m : Md) (inp : List Int) (n : Nat) (q : Pr) : Prop where
 like : Like (pk m n) q
 objs : q.objs = (pk m n).objs
 ok : okP m q = true
 pr : PrOk q
 sz : SzP q
 same : ∀ f F, f ≤ F → (playM m inp f).e = 0 → SameO (playM m inp f) (playM (withM m n q) inp F)
theorem MdOk.with {m : Md} {n : Nat} {q : Pr} (h : MdOk m) (hq : PrOk q) : MdOk (withM m n q) := by
 obtain ⟨h1, h2, h3, h4⟩ := h
 refine ⟨h1, h2, fun p hp => ?_, h4⟩
 unfold withM at hp
 rcases List.mem_or_eq_of_mem_set hp with hp | rfl
 ·exact h3 p hp
 ·exact hq
theorem SzM.with {m : Md} {n : Nat} {q : Pr} (h : SzM m) (hq : SzP q) : SzM (withM m n q) := ⟨fun p hp => by
 unfold withM at hp
 rcases List.mem_or_eq_of_mem_set hp with hp | rfl
 ·exact h.procs p hp
 ·exact hq⟩
theorem Good.refl {m : Md} {inp : List Int} {n : Nat} (hok : okM m = true) (hmd : MdOk m) (hs : SzM m) (hn : n < m.procs.length) : Good m inp n (pk m n) := by
 have hm : pk m n ∈ m.procs := by unfold pk; simp [List.getD, hn]
 have e : withM m n (pk m n) = m := by
  unfold withM pk
  have : m.procs.set n (m.procs.getD n default) = m.procs := by
   apply List.ext_getElem
   ·simp
   ·intro i h1 h2
    rw [List.getElem_set]
    split
    ·rename_i h; subst h; simp [List.getD, hn]
    ·rfl
  rw [this]
 refine ⟨⟨rfl, rfl⟩, rfl, okM_proc hok hn, hmd.procs _ hm, hs.procs _ hm, fun f F hF he => ?_⟩
 rw [e]
 unfold playM at he ⊢
 have n1 : ¬ okM m = false := by rw [hok]; decide
 rw [if_neg n1] at he ⊢
 rw [if_neg n1]
 by_cases hen : 65536 < enM m
 ·rw [if_pos hen] at he; cases he
 ·rw [if_neg hen] at he ⊢
  rw [if_neg hen]
  generalize enterM m [] m.main.toNat [] 65536 ⟨mem0 m m.globs.length, [], 0, 0, 0⟩ = M at *
  rw [runM_it] at he ⊢
  rw [runM_it]
  unfold ocE at he ⊢
  cases hf : (itM m inp f M).fin
  ·rw [hf, if_neg (by decide)] at he; cases he
  ·obtain ⟨d, rfl⟩ := Nat.le.dest hF
   rw [if_pos rfl, itM_add, itM_fin _ hf, if_pos hf]
   exact SameO.refl _
end Go.Proofs.Ytkhfddodmjnecaa

set_option linter.all false
namespace Go.Proofs.Ytkhfddodmjnecaa
set_option linter.unusedVariables false

def constI (d n : Int) : In := ⟨1, d, -1, -1, 0, 0, 0, 0, n, [], false⟩
/-- what stands in the place of an instruction, behind which the row is t -/
def knwI (t : Ro) (i : In) : In := if i.op = 2 ∨ i.op = 3 ∨ i.op = 4 then (match cAt t i.d with | some n => constI i.d n | none => i) else i
def knwL : Ro → List In → List In
 | _, [] => []
 | t, i :: l => knwI (behC t i) i :: knwL (behC t i) l
def jmpB (b : Bk) (n : Int) : Bk := ⟨b.ins, 1, -1, if n = 0 then b.els else b.to, 0⟩
def knwE (t : Ro) (b : Bk) : Bk := if b.fin = 2 then (match cAt t b.a with | some n => jmpB b n | none => b) else b
def knwB (t : Ro) (b : Bk) : Bk := knwE (thrC t b.ins) ⟨knwL t b.ins, b.fin, b.a, b.to, b.els⟩
def knwP (p : Pr) (X : Nat → Ro) : Pr := ⟨p.void, p.params, p.regs, p.objs, (List.range p.blks.length).map fun n => knwB (X n) (p.blks.getD n default)⟩
theorem knwL_len : ∀ (l : List In) (t : Ro), (knwL t l).length = l.length
 | [], _ => rfl
 | i :: l, t => by simp [knwL, knwL_len l]
theorem knwL_at : ∀ (l : List In) (t : Ro) (k : Nat), k < l.length → (knwL t l).getD k default = knwI (thrC t (l.take (k + 1))) (l.getD k default)
 | [], _, _, h => absurd h (Nat.not_lt_zero _)
 | i :: l, t, 0, _ => rfl
 | i :: l, t, k + 1, h => by
  have := knwL_at l (behC t i) k (by simpa using h)
  rw [knwL, List.getD_cons_succ, this, List.take_succ_cons, List.getD_cons_succ]; rfl
theorem knwB_ins (t : Ro) (b : Bk) : (knwB t b).ins = knwL t b.ins := by
 unfold knwB knwE
 split
 ·split <;> rfl
 ·rfl
theorem knwB_end (t : Ro) (b : Bk) : ((knwB t b).fin = b.fin ∧ (knwB t b).a = b.a ∧ (knwB t b).to = b.to ∧ (knwB t b).els = b.els) ∧ (b.fin = 2 → cAt (thrC t b.ins) b.a = none) ∨ b.fin = 2 ∧ ∃ n, cAt (thrC t b.ins) b.a = some n ∧ (knwB t b).fin = 1 ∧ (knwB t b).a = -1 ∧ (knwB t b).to = (if n = 0 then b.els else b.to) ∧ (knwB t b).els = 0 := by
 unfold knwB knwE
 dsimp only
 by_cases h : b.fin = 2
 ·rw [if_pos h]
  cases hc : cAt (thrC t b.ins) b.a with
  | none => exact .inl ⟨⟨rfl, rfl, rfl, rfl⟩, fun _ => rfl⟩
  | some n => exact .inr ⟨h, n, rfl, rfl, rfl, rfl, rfl⟩
 ·rw [if_neg h]
  exact .inl ⟨⟨rfl, rfl, rfl, rfl⟩, fun e => absurd e h⟩
/-- registers have what a row says -/
def Kn (t : Ro) (regs : List Int) : Prop := ∀ (r : Nat) (x : Int), t.getD r none = some x → regs.getD r 0 = x
theorem Kn.at {t : Ro} {regs : List Int} (h : Kn t regs) {r x : Int} (e : cAt t r = some x) : rg regs r = x := by
 unfold cAt at e
 split at e
 ·exact h _ _ e
 ·cases e
theorem Kn.le {a b : Ro} {regs : List Int} (k : Kn b regs) (h : LeR a b) : Kn a regs := fun r x e => by
 rcases h.2 r with e2 | e2
 ·exact k r x (e2 ▸ e)
 ·rw [e2] at e; cases e
theorem Kn.set {t : Ro} {regs : List Int} (h : Kn t regs) (d : Nat) (o : Option Int) (v : Int) (hv : ∀ x, o = some x → v = x) (hl : t.length ≤ regs.length) : Kn (t.set d o) (regs.set d v) := fun r x e => by
 by_cases er : d = r
 ·subst er
  by_cases hl2 : d < t.length
  ·have e1 : (t.set d o).getD d none = o := by simp [List.getD, hl2]
   rw [e1] at e
   have e2 : (regs.set d v).getD d 0 = v := by simp [List.getD, Nat.lt_of_lt_of_le hl2 hl]
   rw [e2]; exact hv x e
  ·have e1 : (t.set d o)[d]? = none := List.getElem?_eq_none (by simp; omega)
   rw [List.getD_eq_getElem?_getD, e1] at e; cases e
 ·rw [show (t.set d o).getD r none = t.getD r none by simp [List.getD, List.getElem?_set, er]] at e
  rw [show (regs.set d v).getD r 0 = regs.getD r 0 by simp [List.getD, List.getElem?_set, er]]
  exact h r x e
theorem Kn.num {m : Md} {inp : List Int} {p : Pr} {low : Int} {i : In} {regs : List Int} {s : Oc} {r : List Int × Oc} {t : Ro} (hk : Kn t regs) {x : Int} (e : numC t i = some x) (h : insM m inp p low i regs s = some r) : r = (regs.set i.d.toNat x, s) := by
 unfold numC at e
 unfold insM at h
 by_cases h1 : i.op = 1
 ·rw [if_pos h1] at e h; cases e; cases h; rfl
 ·rw [if_neg h1] at e h
  by_cases h2 : i.op = 2
  ·rw [if_pos h2] at e h
   cases h
   rw [hk.at e]
  ·rw [if_neg h2] at e h
   by_cases h4 : i.op = 4
   ·rw [if_pos h4] at e
    rw [if_neg (by omega), if_pos h4] at h
    cases ha : cAt t i.a with
    | none => rw [ha] at e; cases e
    | some y =>
     rw [ha] at e
     simp only [Option.map_some, Option.some.injEq] at e
     cases h
     rw [hk.at ha, e]
   ·rw [if_neg h4] at e
    by_cases h3 : i.op = 3
    ·rw [if_pos h3] at e h
     cases ha : cAt t i.a with
     | none => rw [ha] at e; cases e
     | some y =>
      cases hb : cAt t i.b with
      | none => rw [ha, hb] at e; cases e
      | some z =>
       rw [ha, hb] at e
       simp only [Option.bind_some, Option.map_some, Option.some.injEq] at e
       cases h
       rw [hk.at ha, hk.at hb, e]
    ·rw [if_neg h3] at e; cases e
theorem Kn.ins {m : Md} {inp : List Int} {p p' : Pr} {low : Int} {i : In} {regs : List Int} {s : Oc} {r : List Int × Oc} {t : Ro} (hk : Kn t regs) (hl : t.length ≤ regs.length) (hok : okI m p' i = true) (h9 : i.op ≠ 9) (h : insM m inp p low i regs s = some r) : Kn (behC t i) r.1 := by
 have hop := ops12 hok
 unfold behC
 rcases (insM_shape ⟨hop.1, hop.2, h9⟩ h).1 with ⟨e1, e2⟩ | ⟨e1, n6, n10, n12, v, e2⟩
 ·rw [if_pos e1, e2]; exact hk
 ·have hd := okI_d hok ⟨n6, n10, n12, h9⟩
  rw [if_neg (by omega), e1]
  cases hN : numC t i with
  | none => rw [e2]; exact hk.set _ none v (fun x hx => by cases hx) hl
  | some x => rw [hk.num hN h]; exact hk.set _ _ _ (fun y hy => by cases hy; rfl) hl
section
variable {m : Md} {n : Nat} {X : Nat → Option Ro}
end
end Go.Proofs.Ytkhfddodmjnecaa

set_option linter.all false
namespace Go.Proofs.Ytkhfddodmjnecaa
set_option linter.unusedVariables false

/-- what an instruction tells -/
structure Ky where
 op : Int
 fn : Int
 a : Int
 b : Int
 obj : Int
 off : Int
 size : Int
 num : Int
 mem : Int
theorem Ky.eq_iff (x y : Ky) : (x.op = y.op ∧ x.fn = y.fn ∧ x.a = y.a ∧ x.b = y.b ∧ x.obj = y.obj ∧ x.off = y.off ∧ x.size = y.size ∧ x.num = y.num ∧ x.mem = y.mem) ↔ x = y := by
 constructor
 ·obtain ⟨a, b, c, d, e, f, g, h, i⟩ := x
  obtain ⟨a', b', c', d', e', f', g', h', i'⟩ := y
  rintro ⟨h1, h2, h3, h4, h5, h6, h7, h8, h9⟩
  dsimp only at h1 h2 h3 h4 h5 h6 h7 h8 h9
  subst h1 h2 h3 h4 h5 h6 h7 h8 h9
  rfl
 ·rintro rfl
  exact ⟨rfl, rfl, rfl, rfl, rfl, rfl, rfl, rfl, rfl⟩
instance : DecidableEq Ky := fun x y => decidable_of_iff _ (Ky.eq_iff x y)
/-- what is known within a block -/
structure Dk where
 of : Int → Option Int
 ky : Ky → Option Int
 num : Int → Option Int
 fs : Int → List Int
 vs : Int
 mm : Int
def updI {β : Type} (M : Int → β) (x : Int) (y : β) : Int → β := fun z => if z = x then y else M z
theorem updI_same {β : Type} (M : Int → β) (x : Int) (y : β) : updI M x y x = y := if_pos rfl
theorem updI_other {β : Type} (M : Int → β) {x z : Int} (y : β) (h : z ≠ x) : updI M x y z = M z := if_neg h
def Dk0 : Dk := ⟨fun _ => none, fun _ => none, fun _ => none, fun _ => [], 0, 0⟩
def haveD (d : Dk) (r v : Int) : Dk := ⟨updI d.of r (some v), d.ky, d.num, updI d.fs v (d.fs v ++ [r]), d.vs, d.mm⟩
def freshD (d : Dk) : Dk := ⟨d.of, d.ky, d.num, d.fs, d.vs + 1, d.mm⟩
def valueD (d : Dk) (r : Int) : Int × Dk := match d.of r with
 | some v => (v, d)
 | none => (d.vs + 1, haveD (freshD d) r (d.vs + 1))
def holderD (d : Dk) (v : Int) : Int := ((d.fs v).find? fun r => (d.of r).getD 0 == v).getD (-1)
def readD (d : Dk) (r : Int) : Int × Dk := if r = -1 then (r, d) else (holderD (valueD d r).2 (valueD d r).1, (valueD d r).2)
def setKy (d : Dk) (k : Ky) (v : Int) : Dk := ⟨d.of, fun x => if x = k then some v else d.ky x, d.num, d.fs, d.vs, d.mm⟩
def namedD (d : Dk) (k : Ky) : Int × Dk := match d.ky k with
 | some v => (v, d)
 | none => (d.vs + 1, setKy (freshD d) k (d.vs + 1))
def setNum (d : Dk) (v n : Int) : Dk := ⟨d.of, d.ky, updI d.num v (some n), d.fs, d.vs, d.mm⟩
def kyC (n : Int) : Ky := ⟨1, 0, 0, 0, 0, 0, 0, n, 0⟩
def constD (d : Dk) (n : Int) : Int × Dk := ((namedD d (kyC n)).1, setNum (namedD d (kyC n)).2 (namedD d (kyC n)).1 n)
def swapsF (fn : Int) : Bool := decide (fn = 1 ∨ fn = 3 ∨ fn = 6 ∨ fn = 7 ∨ fn = 8 ∨ fn = 11 ∨ fn = 12)
def sameD (d : Dk) (fn a b : Int) : Int :=
 if d.num b = some 0 ∧ (fn = 1 ∨ fn = 2 ∨ fn = 7 ∨ fn = 8 ∨ fn = 9 ∨ fn = 10) then a
 else if d.num b = some 1 ∧ (fn = 3 ∨ fn = 4) then a
 else if d.num a = some 0 ∧ (fn = 1 ∨ fn = 7 ∨ fn = 8) then b
 else if d.num a = some 1 ∧ fn = 3 then b
 else if a = b ∧ (fn = 6 ∨ fn = 7) then a
 else 0
def kyB (fn a b : Int) : Ky := ⟨3, fn, a, b, 0, 0, 0, 0, 0⟩
/-- the value of a function of two values, not both of which are numbers -/
def twoN (d : Dk) (fn a b : Int) : Int × Dk :=
 if 0 < sameD d fn a b then (sameD d fn a b, d)
 else if a = b ∧ (fn = 2 ∨ fn = 8) then constD d 0
 else if swapsF fn = true ∧ b < a then namedD d (kyB fn b a)
 else namedD d (kyB fn a b)
def twoD (d : Dk) (fn a b : Int) : Int × Dk := match d.num a with
 | some m => (match d.num b with
  | some n => constD d (fnF fn m n)
  | none => twoN d fn a b)
 | none => twoN d fn a b
def kyL (a off size mem : Int) : Ky := ⟨5, 0, a, 0, 0, off, size, 0, mem⟩
def liesD (d : Dk) (i : In) : Ky × Dk := (kyL (valueD d i.a).1 i.off i.size (valueD d i.a).2.mm, (valueD d i.a).2)
def kyU (fn a : Int) : Ky := ⟨4, fn, a, 0, 0, 0, 0, 0, 0⟩
def kyP (op obj off : Int) : Ky := ⟨op, 0, 0, 0, obj, off, 0, 0, 0⟩
def unD (d : Dk) (fn a : Int) : Int × Dk := match d.num a with
 | some n => constD d (fnF fn n 0)
 | none => namedD d (kyU fn a)
def toldD (d : Dk) (i : In) : Int × Dk :=
 if i.op = 1 then constD d i.num
 else if i.op = 2 then valueD d i.a
 else if i.op = 3 then twoD (valueD (valueD d i.a).2 i.b).2 i.fn (valueD d i.a).1 (valueD (valueD d i.a).2 i.b).1
 else if i.op = 4 then unD (valueD d i.a).2 i.fn (valueD d i.a).1
 else if i.op = 7 ∨ i.op = 8 then namedD d (kyP i.op i.obj i.off)
 else if i.op = 5 then namedD (liesD d i).2 (liesD d i).1
 else (0, d)
def readL (d : Dk) : List Int → List Int × Dk
 | [] => ([], d)
 | r :: l => ((readD d r).1 :: (readL (readD d r).2 l).1, (readL (readD d r).2 l).2)
def readsD (d : Dk) (i : In) : In × Dk :=
 (⟨i.op, i.d, (readD d i.a).1, (readD (readD d i.a).2 i.b).1, i.fn, i.obj, i.off, i.size, i.num, (readL (readD (readD d i.a).2 i.b).2 i.args).1, i.log⟩, (readL (readD (readD d i.a).2 i.b).2 i.args).2)
/-- memory is changed -/
def turnD (d : Dk) (op : Int) : Dk := if op = 6 ∨ op = 9 then ⟨d.of, d.ky, d.num, d.fs, d.vs, d.mm + 1⟩ else d
/-- what was put lies there now -/
def putD (d : Dk) (i : In) : Dk := if i.op = 6 ∧ i.size = 4 then setKy (valueD (liesD d i).2 i.b).2 (liesD d i).1 (valueD (liesD d i).2 i.b).1 else d
def copyI (d a : Int) : In := ⟨2, d, a, -1, 0, 0, 0, 0, 0, [], false⟩
/-- what sets a register to a value that has this number, or that this instruction sets -/
def outD (d : Dk) (i : In) (v : Int) : In := match d.num v with
 | some n => constI (defI i) n
 | none => if holderD d v ≠ -1 then copyI (defI i) (holderD d v) else i
/-- behind what is read and put: an instruction that sets a register -/
def setsD (d : Dk) (i : In) : (In × Bool) × Dk :=
 if (toldD d i).1 = 0 then ((i, true), haveD (freshD (toldD d i).2) (defI i) ((toldD d i).2.vs + 1))
 else if ((toldD d i).2.of (defI i)).getD 0 = (toldD d i).1 then ((i, false), (toldD d i).2)
 else ((outD (toldD d i).2 i (toldD d i).1, true), haveD (toldD d i).2 (defI i) (toldD d i).1)
def insD (d : Dk) (i : In) : (In × Bool) × Dk :=
 if defI i = -1 then (((readsD d i).1, true), putD (turnD (readsD d i).2 i.op) (readsD d i).1)
 else setsD (putD (turnD (readsD d i).2 i.op) (readsD d i).1) (readsD d i).1
def vlsL : Dk → List In → List In
 | _, [] => []
 | d, i :: l => if (insD d i).1.2 = true then (insD d i).1.1 :: vlsL (insD d i).2 l else vlsL (insD d i).2 l
def dskL : Dk → List In → Dk
 | d, [] => d
 | d, i :: l => dskL (insD d i).2 l
def vlsE (d : Dk) (b : Bk) : Bk :=
 if b.a = -1 then b
 else if b.fin = 2 then (match (valueD d b.a).2.num (valueD d b.a).1 with
  | some n => jmpB b n
  | none => ⟨b.ins, b.fin, holderD (valueD d b.a).2 (valueD d b.a).1, b.to, b.els⟩)
 else ⟨b.ins, b.fin, holderD (valueD d b.a).2 (valueD d b.a).1, b.to, b.els⟩
def vlsB (b : Bk) : Bk := vlsE (dskL Dk0 b.ins) ⟨vlsL Dk0 b.ins, b.fin, b.a, b.to, b.els⟩
def vlsP (p : Pr) : Pr := ⟨p.void, p.params, p.regs, p.objs, p.blks.map vlsB⟩
end Go.Proofs.Ytkhfddodmjnecaa
