/-
 A map of numbers to words, as a partial function with its size.; What registers have whenever a block begins, as maps (fold.Consts).; What is known less or more, plain (none, nothing heard yet, is the most).
-/
import Derived.Test.YtkhfddodmjnecaaGreatDoorZFoldKnown33
import Derived.Maps.Own
import Derived.Maps.OwnOps
import Derived.Maps.Views
import Derived.Maps.OwnSet
import Derived.Test.YtkhfddodmjnecaaGreatDoorZFoldKnown32
import Derived.Test.YtkhfddodmjnecaaGreatDoorZFoldKnown10

set_option linter.all false
namespace Go.Proofs.YtkhfddodmjnecaaGreatDoor
open Go.ChangeShapes Go.WideShapes Go.ChangeAt Go.RowKit Go.Maps
set_option maxHeartbeats 4000000
set_option maxRecDepth 100000
set_option linter.unusedVariables false

theorem lawC : Keyed Tryz.prog 3 := int_keyed Tryz.underlying3
def u32R : Value → Option (DataW Unit × List MemPlace)
 | .int .u32 z => some (.lit (.int .u32 z), [])
 | _ => none
theorem u32R_inv {v : Value} {z : Int} {ps : List MemPlace} (h : u32R v = some (.lit (.int .u32 z), ps)) : v = .int .u32 z := by
 unfold u32R at h
 split at h
 ·simp only [Option.some.injEq, Prod.mk.injEq, DataW.lit.injEq, Lit.int.injEq, true_and] at h
  rw [h.1]
 ·cases h
/-- block b is a map of numbers to words, of c entries -/
def MapU (w : World) (b c : Nat) (M : Int → Option Int) : Prop :=
 ∃ D, w.ownsMap Tryz.prog 3 u32R b c D ∧ Tidy D ∧ size D = c ∧ ∀ x, Maps.has D (.int .i64 x) = (M x).isSome ∧ D.atKey (.int .i64 x) (.lit (.int .u32 0)) = .lit (.int .u32 ((M x).getD 0))
theorem zeroU (w : World) : (zeroValue 45).run Tryz.prog w = .ok (.int .u32 0) w := by kernel_rfl
theorem MapU.made (w : World) : MapU (w.alloc (.map #[] 0)) w.heap.size 0 (fun _ => none) :=
 ⟨.map [], World.ownsMap_made _ _ _ _, tidy_empty, rfl, fun _ => ⟨rfl, rfl⟩⟩
theorem MapU.kept {w w' : World} {b c : Nat} {M : Int → Option Int} {row : Option Nat} (h : MapU w b c M) (hg : w.grownBy w' row) (hr : some b ≠ row) : MapU w' b c M := by
 obtain ⟨D, h1, h2⟩ := h
 exact ⟨D, h1.kept hg hr, h2⟩
theorem MapU.grow {w w' : World} {b c : Nat} {M : Int → Option Int} (h : MapU w b c M) (hb : Below w.heap.size w w') : MapU w' b c M :=
 h.kept (row := none) ⟨hb.os, hb.tape, hb.output, hb.size, fun k hk _ => hb.block k hk⟩ (by simp)
theorem MapU.lt {w : World} {b c : Nat} {M : Int → Option Int} (h : MapU w b c M) : b < w.heap.size := by
 obtain ⟨D, h1, -⟩ := h
 exact h1.lt
theorem MapU.look {w : World} {b c : Nat} {M : Int → Option Int} (h : MapU w b c M) (x : Int) (hx : (Lit.int .i64 x).wf = true) : (Instr.lookup 125 (.map (some b)) (.int .i64 x) true).run Tryz.prog w = .ok (.tuple #[.int .u32 ((M x).getD 0), .bool (M x).isSome]) w := by
 obtain ⟨D, h1, h2, -, h3⟩ := h
 obtain ⟨v, ps, hr, hv⟩ := h1.look_ok lawC Tryz.underlying125 (zeroU w) (zd := .lit (.int .u32 0)) (zp := []) rfl (keyOf_int_mk Tryz.underlying3 hx)
 rw [(h3 x).2] at hv
 rw [hr, (h3 x).1, u32R_inv hv]
theorem MapU.len {w : World} {b c : Nat} {M : Int → Option Int} (h : MapU w b c M) (ty : TypeId) : (Builtin.len_ #[125] ty #[.map (some b)]).run Tryz.prog w = .ok (.int .i64 c) w := by
 obtain ⟨D, h1, -, h2, -⟩ := h
 rw [h1.len Tryz.underlying125 ty, h2]
theorem MapU.put {ops : Array Oper} {rest : List Oper} {o : Oper} {a : Act} {Q : Exit → Act → World → Prop} {w : World} {b c : Nat} {M : Int → Option Int} (h : MapU w b c M) (x z : Int) (hx : (Lit.int .i64 x).wf = true) (hn : c < maxLen) (hno : M x = none)
  (hg : o.guard = none) (m k v : Operand) (hop : o.op = Op.mapUpdate 125 m k v) (hm : a.eval m = .map (some b)) (hk : a.eval k = .int .i64 x) (hv : a.eval v = .int .u32 z)
  (hK : ∀ w', MapU w' b (c + 1) (fun y => if y = x then some z else M y) → w.grownBy w' (some b) → wpList Tryz.prog ops Q rest (a.put o.dst undef) w') : wpList Tryz.prog ops Q (o :: rest) a w := by
 obtain ⟨D, h1, h2, hs, h3⟩ := h
 refine wpList_mapUpdate_own w hg m k v 125 hop 3 45 lawC Tryz.underlying125 u32R b c D hm h1 hn _ _ (.int .i64 x) hk hv (keyOf_int_mk Tryz.underlying3 hx) (.lit (.int .u32 z)) [] rfl ?_
 intro w' h1' hgr
 refine hK w' ⟨_, h1', h2.put (by trivial) _, ?_, fun y => ?_⟩ hgr
 ·rw [size_put h2, (h3 x).1, hno, hs]; rfl
 ·by_cases e : y = x
  ·subst e
   dsimp only
   rw [if_pos rfl, atKey_put_same h2.isMap (by trivial), has_put_same h2.isMap (by trivial)]
   exact ⟨rfl, rfl⟩
  ·have hne : (Lit.int .i64 y) ≠ Lit.int .i64 x := by intro e2; simp only [Lit.int.injEq] at e2; exact e e2.2
   dsimp only
   rw [if_neg e, atKey_put_other hne, has_put_other hne]
   exact h3 y
def cntC (t : Ro) (k : Nat) : Nat := (t.take k).countP Option.isSome
end Go.Proofs.YtkhfddodmjnecaaGreatDoor

set_option linter.all false
namespace Go.Proofs.YtkhfddodmjnecaaGreatDoor
open Go.ChangeShapes Go.WideShapes Go.ChangeAt Go.RowKit Go.Maps
set_option maxHeartbeats 4000000
set_option maxRecDepth 100000
set_option linter.unusedVariables false

theorem MapU.ne {w : World} {b c B m s : Nat} {e : TypeId} {M : Int → Option Int} {v : Value} {xs : List Value} (h : MapU w b c M) (ho : w.ownsRow B e s v m xs) : some b ≠ v.ownBlock := by
 obtain ⟨D, h1, -⟩ := h
 intro e2
 obtain ⟨-, ⟨rfl, -⟩ | ⟨g', cap, cur, rfl, hb, hg, -⟩⟩ := ho
 ·cases e2
 ·simp only [Value.ownBlock, Option.some.injEq] at e2
  subst e2
  obtain ⟨es, ck, hes, -⟩ := h1
  rw [hg] at hes
  cases hes
def OwnM (w : World) (B : Nat) (v : Value) (bs : List Nat) : Prop := w.ownsRow B 125 1 v bs.length (bs.map fun b => .map (some b))
theorem OwnM.base {w : World} {B : Nat} {v : Value} {bs : List Nat} (h : OwnM w B v bs) : OwnM w 0 v bs := by
 obtain ⟨hl, h | ⟨g, cap, cur, e1, e2, r⟩⟩ := h
 ·exact ⟨hl, .inl h⟩
 ·exact ⟨hl, .inr ⟨g, cap, cur, e1, Nat.zero_le _, r⟩⟩
/-- the row of a block, at its beginning -/
def atB (R : Nat) (X : Tb) (i : Nat) : Ro := (X.getD i none).getD (roNo R)
end Go.Proofs.YtkhfddodmjnecaaGreatDoor

set_option linter.all false
namespace Go.Proofs.YtkhfddodmjnecaaGreatDoor
set_option linter.unusedVariables false

def LeR (a b : Ro) : Prop := a.length = b.length ∧ ∀ i, a.getD i none = b.getD i none ∨ a.getD i none = none
def LeC : Option Ro → Option Ro → Prop
 | _, none => True
 | none, some _ => False
 | some a, some b => LeR a b
theorem LeR.refl (a : Ro) : LeR a a := ⟨rfl, fun _ => .inl rfl⟩
theorem LeR.trans {a b c : Ro} (h : LeR a b) (k : LeR b c) : LeR a c := ⟨h.1.trans k.1, fun i => by
 rcases h.2 i with e | e
 ·rcases k.2 i with e2 | e2
  ·exact .inl (e.trans e2)
  ·exact .inr (e.trans e2)
 ·exact .inr e⟩
theorem ro_ext {a b : Ro} (hl : a.length = b.length) (h : ∀ i, a.getD i none = b.getD i none) : a = b := by
 refine List.ext_getElem hl fun i h1 h2 => ?_
 have := h i
 simpa [List.getD, h1, h2] using this
theorem LeR.anti {a b : Ro} (h : LeR a b) (k : LeR b a) : a = b := ro_ext h.1 fun i => by
 rcases h.2 i with e | e
 ·exact e
 ·rcases k.2 i with e2 | e2
  ·exact e2.symm
  ·rw [e, e2]
theorem LeC.refl : ∀ a : Option Ro, LeC a a
 | none => True.intro
 | some a => LeR.refl a
theorem LeC.trans : ∀ {a b c : Option Ro}, LeC a b → LeC b c → LeC a c
 | _, _, none, _, _ => True.intro
 | none, some _, some _, h, _ => h.elim
 | some _, none, some _, _, k => k.elim
 | none, none, some _, _, k => k.elim
 | some _, some _, some _, h, k => LeR.trans h k
theorem LeC.anti : ∀ {a b : Option Ro}, LeC a b → LeC b a → a = b
 | none, none, _, _ => rfl
 | none, some _, h, _ => h.elim
 | some _, none, _, k => k.elim
 | some _, some _, h, k => by rw [LeR.anti h k]
theorem meetC_get (a b : Ro) (i : Nat) : (meetC a b).getD i none = if a.getD i none = b.getD i none then a.getD i none else none := by
 by_cases h : i < a.length
 ·exact meetC_at a b i h
 ·have h1 : (meetC a b)[i]? = none := List.getElem?_eq_none (by rw [meetC_len]; omega)
  have h2 : a[i]? = none := List.getElem?_eq_none (by omega)
  rw [List.getD_eq_getElem?_getD, h1, List.getD_eq_getElem?_getD (l := a), h2]
  split <;> rfl
theorem meetC_left (a b : Ro) : LeR (meetC a b) a := ⟨meetC_len a b, fun i => by
 rw [meetC_get]
 split
 ·exact .inl rfl
 ·exact .inr rfl⟩
theorem meetC_right (a b : Ro) (h : a.length = b.length) : LeR (meetC a b) b := ⟨(meetC_len a b).trans h, fun i => by
 rw [meetC_get]
 split
 ·exact .inl ‹_›
 ·exact .inr rfl⟩
theorem le_meetC {g a b : Ro} (h : LeR g a) (k : LeR g b) : LeR g (meetC a b) := ⟨by rw [meetC_len]; exact h.1, fun i => by
 rw [meetC_get]
 rcases h.2 i with e | e
 ·rcases k.2 i with e2 | e2
  ·rw [if_pos (e.symm.trans e2)]; exact .inl e
  ·exact .inr e2
 ·exact .inr e⟩
theorem cAt_le {a b : Ro} (h : LeR a b) (r : Int) : cAt a r = cAt b r ∨ cAt a r = none := by
 unfold cAt
 rw [h.1]
 split
 ·exact h.2 _
 ·exact .inr rfl
theorem numC_le {a b : Ro} (h : LeR a b) (i : In) : numC a i = numC b i ∨ numC a i = none := by
 unfold numC
 split
 ·exact .inl rfl
 ·split
  ·exact cAt_le h _
  ·split
   ·rcases cAt_le h i.a with e | e
    ·exact .inl (by rw [e])
    ·exact .inr (by rw [e]; rfl)
   ·split
    ·rcases cAt_le h i.a with e | e
     ·rcases cAt_le h i.b with e2 | e2
      ·exact .inl (by rw [e, e2])
      ·refine .inr ?_
       rw [e2]
       cases cAt a i.a <;> rfl
     ·exact .inr (by rw [e]; rfl)
    ·exact .inr rfl
theorem behC_le {a b : Ro} (h : LeR a b) (i : In) : LeR (behC a i) (behC b i) := by
 unfold behC
 split
 ·exact h
 ·refine ⟨by simpa using h.1, fun r => ?_⟩
  by_cases e : (defI i).toNat = r
  ·subst e
   by_cases hl : (defI i).toNat < a.length
   ·have hl2 : (defI i).toNat < b.length := by rw [← h.1]; exact hl
    have e1 : (a.set (defI i).toNat (numC a i)).getD (defI i).toNat none = numC a i := by simp [List.getD, hl]
    have e2 : (b.set (defI i).toNat (numC b i)).getD (defI i).toNat none = numC b i := by simp [List.getD, hl2]
    rw [e1, e2]
    exact numC_le h i
   ·have e1 : (a.set (defI i).toNat (numC a i))[(defI i).toNat]? = none := List.getElem?_eq_none (by simp; omega)
    right
    rw [List.getD_eq_getElem?_getD, e1]; rfl
  ·have e1 : (a.set (defI i).toNat (numC a i)).getD r none = a.getD r none := by simp [List.getD, List.getElem?_set, e]
   have e2 : (b.set (defI i).toNat (numC b i)).getD r none = b.getD r none := by simp [List.getD, List.getElem?_set, e]
   rw [e1, e2]
   exact h.2 r
theorem thrC_le (l : List In) : ∀ {a b : Ro}, LeR a b → LeR (thrC a l) (thrC b l) := by
 induction l with
 | nil => intro a b h; exact h
 | cons i l ih => intro a b h; exact ih (behC_le h i)
/-- one more told -/
def hearC (x : Option Ro) (o : Option Ro) (l : List In) : Option Ro := match o with
 | none => x
 | some t => match x with
  | none => some (thrC t l)
  | some a => some (meetC a (thrC t l))
theorem hearC_le {R : Nat} {x y o q : Option Ro} (l : List In) (hx : ∀ a, x = some a → a.length = R) (ho : ∀ a, o = some a → a.length = R) (h : LeC x y) (k : LeC o q) : LeC (hearC x o l) (hearC y q l) := by
 cases q with
 | none =>
  cases o with
  | none => exact h
  | some t =>
   cases y with
   | none => exact True.intro
   | some b =>
    cases x with
    | none => exact h.elim
    | some a => exact LeR.trans (meetC_left a _) h
 | some u =>
  cases o with
  | none => exact k.elim
  | some t =>
   have ht := thrC_le l k
   cases y with
   | none =>
    cases x with
    | none => exact ht
    | some a => exact (meetC_right a _ (by rw [thrC_len, hx a rfl, ho t rfl])).trans ht
   | some b =>
    cases x with
    | none => exact h.elim
    | some a => exact le_meetC ((meetC_left a _).trans h) ((meetC_right a _ (by rw [thrC_len, hx a rfl, ho t rfl])).trans ht)
def LenC (R : Nat) (X : Tb) : Prop := ∀ i t, X.getD i none = some t → t.length = R
theorem hearC_len {R : Nat} {x o : Option Ro} (l : List In) (hx : ∀ a, x = some a → a.length = R) (ho : ∀ a, o = some a → a.length = R) : ∀ a, hearC x o l = some a → a.length = R := by
 intro a e
 unfold hearC at e
 cases o with
 | none => exact hx a e
 | some t =>
  cases x with
  | none => cases e; rw [thrC_len]; exact ho t rfl
  | some b => cases e; rw [meetC_len]; exact hx b rfl
/-- a round of the document, at one block -/
def rdB (p : Pr) (R : Nat) (X : Tb) (n : Nat) : Option Ro :=
 if n = 0 then some (roNo R) else (predsP p n).foldl (fun x k => if (reachP p).getD k.toNat false = true then hearC x (X.getD k.toNat none) (p.blks.getD k.toNat default).ins else x) none
def rdC (p : Pr) (R : Nat) (X : Tb) : Tb := (List.range p.blks.length).map (rdB p R X)
/-- after so many rounds -/
def rdN (p : Pr) (R : Nat) : Nat → Tb
 | 0 => List.replicate p.blks.length none
 | k + 1 => rdC p R (rdN p R k)
end Go.Proofs.YtkhfddodmjnecaaGreatDoor
