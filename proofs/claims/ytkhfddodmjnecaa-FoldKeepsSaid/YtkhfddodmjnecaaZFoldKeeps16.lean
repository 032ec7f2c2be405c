/-
 Instructions, blocks, procedures and modules written out in the text: how they lie in memory.; Which numbers registers have: rows as plain data and in memory; what a register has (row.at).; The document's answer for alias: rows of bools that are made anew (join, with).; The document's answer for alias: the struct All in memory while it is reckoned.; The document's answer for alias: how many things all lists have.; The document's answer for alias: what an instruction adds.; The document's answer for alias: what a call adds.; The document's answer for alias: instructions that add nothing; any instruction.; The document's exact places: the walk of Exact.; The document's Exact, whatever the register.; The document's answer for alias: Of.
-/
import Derived.Test.YtkhfddodmjnecaaZFoldKeeps00
import Derived.Test.YtkhfddodmjnecaaZFoldKeeps12
import Derived.Test.YtkhfddodmjnecaaZFoldKeeps15
import Derived.Test.YtkhfddodmjnecaaZFoldKeeps01
import Derived.Test.YtkhfddodmjnecaaZFoldKeeps09
import Derived.Test.YtkhfddodmjnecaaZFoldKeeps03
import Derived.Test.YtkhfddodmjnecaaZFoldKeeps10

set_option linter.all false
namespace Go.Proofs.Ytkhfddodmjnecaa
open Go.ChangeShapes Go.WideShapes Go.ChangeAt Go.RowKit
set_option maxHeartbeats 1000000
set_option linter.unusedVariables false
set_option maxRecDepth 20000

def vNil : Value := .slice none 0 0
def rowOf' (b n : Nat) : Value := .slice (some ⟨b, 0, none⟩) n n
/-- a row of structs that is known whole -/
theorem own_lit {w : World} {g : Nat} {e : TypeId} {s : Nat} {α : Type} {P : List α} {f : α → List Value} (hf : ∀ a, (f a).length = s) (hp : P.length ≤ 1000000) (h : w.heap[g]? = some (.cells (P.flatMap f).toArray e (0, 0))) : w.ownsRow 0 e s (rowOf' g P.length) P.length (P.flatMap f) := by
 have hl := flat_len f s hf P
 refine ⟨hl, .inr ⟨g, P.length, _, rfl, Nat.zero_le _, h, Nat.le_refl _, by unfold maxLen; omega, by simpa using hl, ?_⟩⟩
 rw [List.toList_toArray]; exact List.take_of_length_le (by omega)
theorem RdI.nil (w : World) : RdI w vNil [] := ⟨none, 0, rfl, Nat.le_refl _, by decide, fun i hi => absurd hi (Nat.not_lt_zero i)⟩
theorem RdW.nil (w : World) : RdW w vNil [] := ⟨none, 0, rfl, Nat.le_refl _, by decide, fun i hi => absurd hi (Nat.not_lt_zero i)⟩
theorem RdSls.nil (w : World) : RdSls w vNil [] := ⟨none, 0, rfl, Nat.le_refl _, by decide, fun i hi => absurd hi (Nat.not_lt_zero i)⟩
theorem RdYs.nil (w : World) : RdYs w vNil [] := ⟨none, 0, rfl, Nat.le_refl _, by decide, fun i hi => absurd hi (Nat.not_lt_zero i)⟩
theorem RdPrs.nil (w : World) : RdPrs w vNil [] := ⟨none, 0, rfl, Nat.le_refl _, by decide, fun i hi => absurd hi (Nat.not_lt_zero i)⟩
def inCells (x : In × Value) : List Value := [.int .i64 x.1.op, .int .i64 x.1.d, .int .i64 x.1.a, .int .i64 x.1.b, .int .i64 x.1.fn, .int .i64 x.1.obj, .int .i64 x.1.off, .int .i64 x.1.size, .int .u32 x.1.num, x.2, .bool x.1.log]
theorem RdIns.lit {w : World} {g : Nat} {e : TypeId} (L : List (In × Value)) (hp : L.length ≤ 1000000) (h : w.heap[g]? = some (.cells (L.flatMap inCells).toArray e (0, 0))) (ha : ∀ x ∈ L, RdI w x.2 x.1.args) : RdIns w (rowOf' g L.length) (L.map Prod.fst) := by
 have H := own_flat (α := In × Value) (f := inCells) (by decide : 0 < 11) (fun _ => rfl) (own_lit (fun _ => rfl) hp h)
 have hl : L.length = (L.map Prod.fst).length := by simp
 unfold RdIns
 rw [← hl]
 obtain ⟨a, c, h1, h2, h3, h4⟩ := H
 refine ⟨a, c, h1, h2, h3, fun i hi => ?_⟩
 obtain ⟨b, o, e1, r⟩ := h4 i hi
 have eg : L.getD i default = L[i] := by simp [List.getD, hi]
 have eg2 : (L.map Prod.fst).getD i default = L[i].1 := by simp [List.getD, hi]
 rw [eg] at r
 refine ⟨b, o, e1, ?_⟩
 dsimp only
 rw [eg2]
 exact ⟨r 0 _ rfl, r 1 _ rfl, r 2 _ rfl, r 3 _ rfl, r 4 _ rfl, r 5 _ rfl, r 6 _ rfl, r 7 _ rfl, r 8 _ rfl, ⟨_, r 9 _ rfl, ha _ (List.getElem_mem hi)⟩, r 10 _ rfl⟩
def bkCells (x : Bk × Value) : List Value := [x.2, .int .i64 x.1.fin, .int .i64 x.1.a, .int .i64 x.1.to, .int .i64 x.1.els]
theorem RdBks.lit {w : World} {g : Nat} {e : TypeId} (L : List (Bk × Value)) (hp : L.length ≤ 1000000) (h : w.heap[g]? = some (.cells (L.flatMap bkCells).toArray e (0, 0))) (ha : ∀ x ∈ L, RdIns w x.2 x.1.ins) : RdBks w (rowOf' g L.length) (L.map Prod.fst) := by
 have H := own_flat (α := Bk × Value) (f := bkCells) (by decide : 0 < 5) (fun _ => rfl) (own_lit (fun _ => rfl) hp h)
 have hl : L.length = (L.map Prod.fst).length := by simp
 unfold RdBks
 rw [← hl]
 obtain ⟨a, c, h1, h2, h3, h4⟩ := H
 refine ⟨a, c, h1, h2, h3, fun i hi => ?_⟩
 obtain ⟨b, o, e1, r⟩ := h4 i hi
 have eg : L.getD i default = L[i] := by simp [List.getD, hi]
 have eg2 : (L.map Prod.fst).getD i default = L[i].1 := by simp [List.getD, hi]
 rw [eg] at r
 refine ⟨b, o, e1, ?_⟩
 dsimp only
 rw [eg2]
 exact ⟨⟨_, r 0 _ rfl, ha _ (List.getElem_mem hi)⟩, r 1 _ rfl, r 2 _ rfl, r 3 _ rfl, r 4 _ rfl⟩
def slCells (x : Sl × ByteArray) : List Value := [.string x.2, .int .i64 x.1.size, .int .i64 x.1.align, .int .i64 x.1.cell]
theorem RdSls.lit {w : World} {g : Nat} {e : TypeId} (L : List (Sl × ByteArray)) (hp : L.length ≤ 1000000) (h : w.heap[g]? = some (.cells (L.flatMap slCells).toArray e (0, 0))) : RdSls w (rowOf' g L.length) (L.map Prod.fst) := by
 haveI : Inhabited (Sl × ByteArray) := ⟨(default, ⟨#[]⟩)⟩
 have H := own_flat (α := Sl × ByteArray) (f := slCells) (by decide : 0 < 4) (fun _ => rfl) (own_lit (fun _ => rfl) hp h)
 have hl : L.length = (L.map Prod.fst).length := by simp
 unfold RdSls
 rw [← hl]
 obtain ⟨a, c, h1, h2, h3, h4⟩ := H
 refine ⟨a, c, h1, h2, h3, fun i hi => ?_⟩
 obtain ⟨b, o, e1, r⟩ := h4 i hi
 have eg : L.getD i default = L[i] := by simp [List.getD, hi]
 have eg2 : (L.map Prod.fst).getD i default = L[i].1 := by simp [List.getD, hi]
 rw [eg] at r
 refine ⟨b, o, e1, ?_⟩
 dsimp only
 rw [eg2]
 exact ⟨⟨_, r 0 _ rfl⟩, r 1 _ rfl, r 2 _ rfl, r 3 _ rfl⟩
def prCells (x : Pr × ByteArray × Value × Value) : List Value := [.string x.2.1, .bool x.1.void, .int .i64 x.1.params, .int .i64 x.1.regs, x.2.2.1, x.2.2.2]
theorem RdPrs.lit {w : World} {g : Nat} {e : TypeId} (L : List (Pr × ByteArray × Value × Value)) (hp : L.length ≤ 1000000) (h : w.heap[g]? = some (.cells (L.flatMap prCells).toArray e (0, 0))) (ha : ∀ x ∈ L, RdSls w x.2.2.1 x.1.objs ∧ RdBks w x.2.2.2 x.1.blks) : RdPrs w (rowOf' g L.length) (L.map Prod.fst) := by
 haveI : Inhabited (Pr × ByteArray × Value × Value) := ⟨(default, ⟨#[]⟩, vNil, vNil)⟩
 have H := own_flat (α := Pr × ByteArray × Value × Value) (f := prCells) (by decide : 0 < 6) (fun _ => rfl) (own_lit (fun _ => rfl) hp h)
 have hl : L.length = (L.map Prod.fst).length := by simp
 unfold RdPrs
 rw [← hl]
 obtain ⟨a, c, h1, h2, h3, h4⟩ := H
 refine ⟨a, c, h1, h2, h3, fun i hi => ?_⟩
 obtain ⟨b, o, e1, r⟩ := h4 i hi
 have eg : L.getD i default = L[i] := by simp [List.getD, hi]
 have eg2 : (L.map Prod.fst).getD i default = L[i].1 := by simp [List.getD, hi]
 rw [eg] at r
 have := ha _ (List.getElem_mem hi)
 refine ⟨b, o, e1, ?_⟩
 dsimp only
 rw [eg2]
 exact ⟨⟨_, r 0 _ rfl⟩, r 1 _ rfl, r 2 _ rfl, r 3 _ rfl, ⟨_, r 4 _ rfl, this.1⟩, ⟨_, r 5 _ rfl, this.2⟩⟩
theorem RdW.lit {w : World} {g : Nat} {e : TypeId} (L : List Int) (hp : L.length ≤ 1000000) (h : w.heap[g]? = some (.cells (L.map (Value.int .u32)).toArray e (0, 0))) : RdW w (rowOf' g L.length) L := by
 refine own_rows (B := 0) (e := e) 0 ⟨by simp, .inr ⟨g, L.length, _, rfl, Nat.zero_le _, h, Nat.le_refl _, by unfold maxLen; omega, by simp, ?_⟩⟩
 rw [Nat.mul_one, List.toList_toArray]; exact List.take_of_length_le (by simp)
theorem RdI.lit {w : World} {g : Nat} {e : TypeId} (L : List Int) (hp : L.length ≤ 1000000) (h : w.heap[g]? = some (.cells (L.map (Value.int .i64)).toArray e (0, 0))) : RdI w (rowOf' g L.length) L := by
 refine own_rows (B := 0) (e := e) 0 ⟨by simp, .inr ⟨g, L.length, _, rfl, Nat.zero_le _, h, Nat.le_refl _, by unfold maxLen; omega, by simp, ?_⟩⟩
 rw [Nat.mul_one, List.toList_toArray]; exact List.take_of_length_le (by simp)
theorem RdY.lit {w : World} {g : Nat} {e : TypeId} (L : List Int) (hp : L.length ≤ 1000000) (h : w.heap[g]? = some (.cells (L.map (Value.int .u8)).toArray e (0, 0))) : RdY w (rowOf' g L.length) L := by
 refine own_rows (B := 0) (e := e) 0 ⟨by simp, .inr ⟨g, L.length, _, rfl, Nat.zero_le _, h, Nat.le_refl _, by unfold maxLen; omega, by simp, ?_⟩⟩
 rw [Nat.mul_one, List.toList_toArray]; exact List.take_of_length_le (by simp)
theorem heap_of_alloc (w : World) (c : Array Value) (t : TypeId) {W0 : World} (h : W0 = w.alloc (.cells c t)) : W0.heap[w.heap.size]? = some (.cells c t (0, 0)) := by subst h; exact heap_alloc_new w _
/-- blocks made one behind the other -/
def allocs (w : World) (l : List Obj) : World := l.foldl World.alloc w
theorem allocs_below : ∀ (l : List Obj) (w : World), Below w.heap.size w (allocs w l)
 | [], w => Below.refl _ _
 | o :: l, w => ((Below.refl _ _).alloc (Nat.le_refl _) o).trans ((allocs_below l (w.alloc o)).mono (by simp))
theorem allocs_size : ∀ (l : List Obj) (w : World), (allocs w l).heap.size = w.heap.size + l.length
 | [], w => rfl
 | o :: l, w => by
  show (allocs (w.alloc o) l).heap.size = _
  rw [allocs_size l (w.alloc o)]; simp; omega
theorem allocs_heap : ∀ (l : List Obj) (w : World) (i : Nat), i < l.length → (allocs w l).heap[w.heap.size + i]? = l[i]?
 | [], _, _, h => absurd h (Nat.not_lt_zero _)
 | o :: l, w, 0, _ => by
  show (allocs (w.alloc o) l).heap[w.heap.size]? = some o
  rw [(allocs_below l (w.alloc o)).block w.heap.size (by simp)]
  exact heap_alloc_new w o
 | o :: l, w, i + 1, h => by
  have := allocs_heap l (w.alloc o) i (by simpa using h)
  show (allocs (w.alloc o) l).heap[w.heap.size + (i + 1)]? = l[i]?
  rw [← this]
  congr 1
  simp; omega
end Go.Proofs.Ytkhfddodmjnecaa

set_option linter.all false
namespace Go.Proofs.Ytkhfddodmjnecaa
open Go.ChangeShapes Go.WideShapes Go.ChangeAt Go.RowKit
set_option maxHeartbeats 4000000
set_option maxRecDepth 100000
set_option linter.unusedVariables false

/-- a register has a number, or it is not known; of all registers -/
abbrev Ro := List (Option Int)
def cAt (t : Ro) (r : Int) : Option Int := if 0 ≤ r ∧ r < (t.length : Int) then t.getD r.toNat none else none
def numC (t : Ro) (i : In) : Option Int :=
 if i.op = 1 then some i.num else if i.op = 2 then cAt t i.a
 else if i.op = 4 then (cAt t i.a).map fun x => fnF i.fn x 0
 else if i.op = 3 then (cAt t i.a).bind fun x => (cAt t i.b).map fun y => fnF i.fn x y
 else none
def behC (t : Ro) (i : In) : Ro := if defI i = -1 then t else t.set (defI i).toNat (numC t i)
def thrC (t : Ro) (l : List In) : Ro := l.foldl behC t
def meetC (a b : Ro) : Ro := (List.range a.length).map fun i => if a.getD i none = b.getD i none then a.getD i none else none
/-- numbers are words -/
def RoOk (t : Ro) : Prop := ∀ r x, t.getD r none = some x → 0 ≤ x ∧ x < 4294967296
theorem RoOk.at {t : Ro} (h : RoOk t) (r x : Int) (e : cAt t r = some x) : 0 ≤ x ∧ x < 4294967296 := by
 unfold cAt at e
 split at e
 ·exact h _ _ e
 ·cases e
theorem behC_len (t : Ro) (i : In) : (behC t i).length = t.length := by unfold behC; split <;> simp
theorem thrC_len (l : List In) : ∀ t : Ro, (thrC t l).length = t.length := by
 induction l with
 | nil => intro t; rfl
 | cons i l ih => intro t; show (thrC (behC t i) l).length = _; rw [ih, behC_len]
theorem numC_ok {t : Ro} (h : RoOk t) {i : In} (hn : 0 ≤ i.num ∧ i.num < 4294967296) (x : Int) (e : numC t i = some x) : 0 ≤ x ∧ x < 4294967296 := by
 unfold numC at e
 split at e
 ·cases e; exact hn
 ·split at e
  ·exact h.at _ _ e
  ·split at e
   ·cases ha : cAt t i.a with
    | none => rw [ha] at e; cases e
    | some y =>
     rw [ha] at e
     simp only [Option.map_some, Option.some.injEq] at e
     rw [← e]
     have := h.at _ _ ha
     exact fnF_bd _ _ _ this.1 this.2 (by decide) (by decide)
   ·split at e
    ·cases ha : cAt t i.a with
     | none => rw [ha] at e; cases e
     | some y =>
      cases hb : cAt t i.b with
      | none => rw [ha, hb] at e; cases e
      | some z =>
       rw [ha, hb] at e
       simp only [Option.bind_some, Option.map_some, Option.some.injEq] at e
       rw [← e]
       have h1 := h.at _ _ ha
       have h2 := h.at _ _ hb
       exact fnF_bd _ _ _ h1.1 h1.2 h2.1 h2.2
    ·cases e
theorem behC_ok {t : Ro} (h : RoOk t) {i : In} (hn : 0 ≤ i.num ∧ i.num < 4294967296) : RoOk (behC t i) := by
 unfold behC
 split
 ·exact h
 ·intro r x e
  by_cases er : (defI i).toNat = r
  ·subst er
   by_cases hl : (defI i).toNat < t.length
   ·simp only [List.getD, List.getElem?_set, hl, if_true, Option.getD_some] at e
    exact numC_ok h hn x e
   ·have : (t.set (defI i).toNat (numC t i))[(defI i).toNat]? = none := List.getElem?_eq_none (by simp; omega)
    rw [List.getD_eq_getElem?_getD, this] at e
    cases e
  ·simp only [List.getD, List.getElem?_set, if_neg er] at e
   exact h r x (by simpa [List.getD] using e)

def cellC (o : Option Int) : List Value := [.bool o.isSome, .int .u32 (o.getD 0)]
def cellV (o : Option Int) : Value := .agg #[.bool o.isSome, .int .u32 (o.getD 0)]
/-- a row in memory -/
def RowQ (w : World) (g c : Nat) (t : Ro) : Prop := w.ownsRow 0 145 2 (.slice (some ⟨g, 0, none⟩) t.length c) t.length (t.flatMap cellC)
theorem RowQ.below {w w' : World} {g c : Nat} {t : Ro} (h : RowQ w g c t) (hb : Below w.heap.size w w') : RowQ w' g c t := own_below h hb
theorem RowQ.at {w : World} {g c : Nat} {t : Ro} (h : RowQ w g c t) : t.length ≤ c ∧ c ≤ maxLen ∧ (∀ r, r < t.length → w.cell? ⟨g, r * 2, none⟩ = some (.bool (t.getD r none).isSome) ∧ w.cell? ⟨g, r * 2 + 1, none⟩ = some (.int .u32 ((t.getD r none).getD 0))) ∧ (0 < t.length → (∀ o, w.frozen? ⟨g, o, none⟩ = false) ∧ g < w.heap.size) := by
 have h' := h
 unfold RowQ at h
 obtain ⟨h1, ⟨h2, h3⟩ | ⟨g', cap, cur, h2, hb, hg, hn, hc, hcs, ht⟩⟩ := h
 ·simp at h2
 ·simp only [Value.slice.injEq, Option.some.injEq, Addr.mk.injEq, and_true, true_and] at h2
  obtain ⟨rfl, rfl⟩ := h2
  refine ⟨hn, hc, fun r hr => ?_, fun _ => ⟨fun o => frozen_of_heap hg o, (Array.getElem?_eq_some_iff.1 hg).1⟩⟩
  have f0 := flat_at cellC 2 (fun _ => rfl) t r 0 hr (by decide)
  have f1 := flat_at cellC 2 (fun _ => rfl) t r 1 hr (by decide)
  have hd : t.getD r default = t.getD r none := rfl
  rw [hd] at f0 f1
  exact ⟨(World.ownsRow.cellAt h' (r * 2 + 0) (by omega)).trans f0, (World.ownsRow.cellAt h' (r * 2 + 1) (by omega)).trans f1⟩
/-- a row as it can be read -/
structure RdRo (w : World) (g c : Nat) (t : Ro) : Prop where
 le : t.length ≤ c
 mx : c ≤ maxLen
 cell : ∀ r, r < t.length → w.cell? ⟨g, r * 2, none⟩ = some (.bool (t.getD r none).isSome) ∧ w.cell? ⟨g, r * 2 + 1, none⟩ = some (.int .u32 ((t.getD r none).getD 0))
theorem RdRo.ext {w w' : World} {g c : Nat} {t : Ro} (h : RdRo w g c t) (he : Ext w w') : RdRo w' g c t := ⟨h.le, h.mx, fun r hr => ⟨he _ _ (h.cell r hr).1, he _ _ (h.cell r hr).2⟩⟩
theorem RowQ.rd {w : World} {g c : Nat} {t : Ro} (h : RowQ w g c t) : RdRo w g c t := ⟨h.at.1, h.at.2.1, h.at.2.2.1⟩
theorem atC_c (g c : Nat) (t : Ro) (r : Int) (w : World) (h : RdRo w g c t) :
  Calls Try.prog 119 #[.slice (some ⟨g, 0, none⟩) t.length c, .int .i64 r] w fun e w' => e = .returned (cellV (cAt t r)) ∧ Below w.heap.size w w' := by
 obtain ⟨h1, h2, h3⟩ := h
 unfold maxLen at h2
 by_cases hr : 0 ≤ r ∧ r < (t.length : Int)
 ·obtain ⟨q, rfl⟩ := Int.eq_ofNat_of_zero_le hr.1
  have hq : q < t.length := by omega
  obtain ⟨c0, c1⟩ := h3 q hq
  have HC : Hid (cAt t (q : Int) = t.getD q none) := by
   show _ = _
   unfold cAt; rw [if_pos hr]; rfl
  have lg := World.block_lt_of_cell? _ _ c0
  have g1 : decide ((q : Int) < 0) = false := decide_eq_false (by omega)
  have g2 : decide ((q : Int) ≥ (t.length : Int)) = false := decide_eq_false (by omega)
  have g3 : decide ((t.length : Int) ≤ (q : Int)) = false := decide_eq_false (by omega)
  have g4 : decide (t.length ≤ q) = false := decide_eq_false (by omega)
  have g5 : decide (q < t.length) = true := decide_eq_true hq
  have g6 : decide ((q : Int) < (t.length : Int)) = true := decide_eq_true (by omega)
  rw [HC.out]
  clear HC h3 hr
  generalize t.getD q none = o at *
  generalize t.length = n at *
  obtain ⟨S, hS⟩ : ∃ S, o.isSome = S := ⟨_, rfl⟩
  obtain ⟨X, hX⟩ : ∃ X, o.getD 0 = X := ⟨_, rfl⟩
  unfold cellV
  rw [hS] at c0 ⊢
  rw [hX] at c1 ⊢
  clear hS hX
  go_enter Try.func119, Try.ntmps119
  go_wp2_with fail
  refine bodyPost_ret (v := .agg #[.bool S, .int .u32 X]) (by simp [results, Try.results119, go_sem]) rfl ?_
  exact ⟨rfl, below_alloc _ _⟩
 ·have HC : Hid (cAt t r = none) := by
   show _ = _
   unfold cAt; rw [if_neg hr]
  rw [HC.out]
  clear HC h3
  unfold cellV
  generalize t.length = n at *
  by_cases h0 : r < 0
  ·have g1 : decide (r < 0) = true := decide_eq_true h0
   go_enter Try.func119, Try.ntmps119
   go_wp2_with fail
   refine bodyPost_ret (v := .agg #[.bool false, .int .u32 0]) (by simp [results, Try.results119, go_sem]) rfl ?_
   exact ⟨rfl, below_alloc _ _⟩
  ·have g1 : decide (r < 0) = false := decide_eq_false h0
   have g2 : decide (r ≥ (n : Int)) = true := decide_eq_true (by omega)
   have g3 : decide ((n : Int) ≤ r) = true := decide_eq_true (by omega)
   go_enter Try.func119, Try.ntmps119
   go_wp2_with fail
   refine bodyPost_ret (v := .agg #[.bool false, .int .u32 0]) (by simp [results, Try.results119, go_sem]) rfl ?_
   exact ⟨rfl, below_alloc _ _⟩
end Go.Proofs.Ytkhfddodmjnecaa

set_option linter.all false
namespace Go.Proofs.Ytkhfddodmjnecaa
open Go.ChangeShapes Go.WideShapes Go.ChangeAt Go.RowKit
set_option maxHeartbeats 4000000
set_option maxRecDepth 100000
set_option linter.unusedVariables false

end Go.Proofs.Ytkhfddodmjnecaa

set_option linter.all false
namespace Go.Proofs.Ytkhfddodmjnecaa
open Go.ChangeShapes Go.WideShapes Go.ChangeAt Go.RowKit
set_option maxHeartbeats 4000000
set_option maxRecDepth 100000
set_option linter.unusedVariables false

structure AlK where
 bx : Nat
 vr : Value
 rs : List (Nat × Nat)
 ro : Nat × Nat
 T : Nat
 n : Nat
def AlK.setO (k : AlK) (g c : Nat) : AlK := ⟨k.bx, k.vr, k.rs, (g, c), k.T, k.n⟩
structure AlM (w0 w : World) (k : AlK) (x : AR) : Prop where
 bx : w0.heap.size ≤ k.bx
 hv : w.heap[k.bx]? = some (.cells #[k.vr, rowV k.ro.1 k.T k.ro.2] 47)
 tab : TabV w w0.heap.size k.vr (k.rs.map fun r => rowV r.1 k.T r.2)
 rl : k.rs.length = k.n
 row : ∀ r, r < k.n → RowB w (k.rs.getD r (0, 0)).1 k.T (k.rs.getD r (0, 0)).2 (x.regs.getD r [])
 out : RowB w k.ro.1 k.T k.ro.2 x.out
 ok : x.Ok k.n k.T
 below : Below w0.heap.size w0 w
theorem AlM.grow {w0 w w' : World} {k : AlK} {x : AR} (h : AlM w0 w k x) (hb : Below w.heap.size w w') : AlM w0 w' k x :=
 ⟨h.bx, (hb.block _ (Array.getElem?_eq_some_iff.1 h.hv).1).trans h.hv, h.tab.below hb, h.rl, fun r hr => (h.row r hr).below hb, h.out.below hb, h.ok, h.below.trans (hb.mono h.below.size)⟩
theorem AlM.lt {w0 w : World} {k : AlK} {x : AR} (h : AlM w0 w k x) : k.bx < w.heap.size := (Array.getElem?_eq_some_iff.1 h.hv).1
theorem RowB.set_other {w : World} {g n c : Nat} {l : List Bool} (h : RowB w g n c l) {b i : Nat} (v : Value) (hb : b ≠ g) : RowB (w.setCell ⟨b, i, none⟩ v) g n c l := by
 obtain ⟨h1, h2 | ⟨g', cap, cur, h3, h4, h5, r⟩⟩ := h
 ·exact ⟨h1, .inl h2⟩
 ·refine ⟨h1, .inr ⟨g', cap, cur, h3, h4, (Below.heap_setCell w ⟨b, i, none⟩ v g' ?_).trans h5, r⟩⟩
  simp only [Value.slice.injEq, Option.some.injEq, Addr.mk.injEq] at h3
  intro e
  have : g' = b := e
  omega
theorem TabV.set_other {w : World} {B : Nat} {tv : Value} {L : List Value} (h : TabV w B tv L) {b i : Nat} (v : Value) (hb : tv.ownBlock ≠ some b) : TabV (w.setCell ⟨b, i, none⟩ v) B tv L := by
 obtain ⟨h1, h2 | ⟨g', cap, cur, rfl, h4, h5, r⟩⟩ := h
 ·exact ⟨h1, .inl h2⟩
 ·refine ⟨h1, .inr ⟨g', cap, cur, rfl, h4, (Below.heap_setCell w ⟨b, i, none⟩ v g' ?_).trans h5, r⟩⟩
  intro e
  exact hb (by simp only [Value.ownBlock, Option.some.injEq]; exact e)
theorem AlM.bx_ne_row {w0 w : World} {k : AlK} {x : AR} (h : AlM w0 w k x) {g n c : Nat} {l : List Bool} (hr : RowB w g n c l) : k.bx ≠ g := by
 intro e
 obtain ⟨cur, h2⟩ := hr.heap
 have := h.hv
 rw [e, h2] at this
 simp at this
theorem AlM.bx_ne_tab {w0 w : World} {k : AlK} {x : AR} (h : AlM w0 w k x) : k.vr.ownBlock ≠ some k.bx := by
 intro e
 obtain ⟨cur, h2⟩ := h.tab.heap e
 have := h.hv
 rw [h2] at this
 simp at this
theorem AlM.setO {w0 w : World} {k : AlK} {x : AR} (h : AlM w0 w k x) {g c : Nat} {l : List Bool} (hr : RowB w g k.T c l) (hl : l.length = k.T) : AlM w0 (w.setCell ⟨k.bx, 1, none⟩ (rowV g k.T c)) (k.setO g c) ⟨x.regs, l⟩ := by
 refine ⟨h.bx, ?_, h.tab.set_other _ h.bx_ne_tab, h.rl, fun r hr' => (h.row r hr').set_other _ (h.bx_ne_row (h.row r hr')), hr.set_other _ (h.bx_ne_row hr), ⟨h.ok.rows, h.ok.row, hl⟩, ?_⟩
 ·exact heap_setCell_same _ _ 1 _ _ _ h.hv
 ·exact ⟨h.below.os, h.below.tape, h.below.output, by simpa [World.setCell] using h.below.size, fun j hj => (Below.heap_setCell w ⟨k.bx, 1, none⟩ _ j (by have := h.bx; show j ≠ k.bx; omega)).trans (h.below.block j hj)⟩
/-- the table's cells -/
theorem AlM.at {w0 w : World} {k : AlK} {x : AR} (h : AlM w0 w k x) {d : Nat} (hd : d < k.n) : ∃ br cp, k.vr = .slice (some ⟨br, 0, none⟩) k.n cp ∧ k.n ≤ cp ∧ cp ≤ maxLen ∧ br < w.heap.size ∧ w0.heap.size ≤ br ∧ (∀ r, r < k.n → w.cell? ⟨br, r, none⟩ = some (rowV (k.rs.getD r (0, 0)).1 k.T (k.rs.getD r (0, 0)).2)) ∧ (∀ r, w.frozen? ⟨br, r, none⟩ = false) := by
 have hT := h.tab
 obtain ⟨-, ⟨hv, h0⟩ | ⟨g, cap, cur, hv, hb, hh, hn, hc, -⟩⟩ := h.tab
 ·rw [List.length_map, h.rl] at h0; omega
 ·have hT2 := hT
  rw [List.length_map, h.rl] at hv hn
  unfold TabV at hT2
  rw [hv, List.length_map] at hT2
  have R := own_rows (f := fun r : Nat × Nat => rowV r.1 k.T r.2) (0, 0) hT2
  rw [h.rl] at hT2
  have hf := World.ownsRow.frozenAt hT2
  obtain ⟨a', c', e, -, -, R⟩ := R
  simp only [Value.slice.injEq] at e
  obtain ⟨e, -, -⟩ := e
  refine ⟨g, cap, hv, hn, hc, (Array.getElem?_eq_some_iff.1 hh).1, hb, fun r hr => ?_, hf⟩
  obtain ⟨b, o, e2, hcell⟩ := R r (by rw [h.rl]; exact hr)
  rw [← e] at e2
  simp only [Option.some.injEq, Addr.mk.injEq] at e2
  obtain ⟨rfl, rfl, -⟩ := e2
  simpa using hcell
end Go.Proofs.Ytkhfddodmjnecaa

set_option linter.all false
namespace Go.Proofs.Ytkhfddodmjnecaa
open Go.ChangeShapes Go.WideShapes Go.ChangeAt Go.RowKit
set_option maxHeartbeats 4000000
set_option maxRecDepth 100000
set_option linter.unusedVariables false

end Go.Proofs.Ytkhfddodmjnecaa

set_option linter.all false
namespace Go.Proofs.Ytkhfddodmjnecaa
open Go.ChangeShapes Go.WideShapes Go.ChangeAt Go.RowKit
set_option maxHeartbeats 4000000
set_option maxRecDepth 100000
set_option linter.unusedVariables false

end Go.Proofs.Ytkhfddodmjnecaa

set_option linter.all false
namespace Go.Proofs.Ytkhfddodmjnecaa
open Go.ChangeShapes Go.WideShapes Go.ChangeAt Go.RowKit
set_option maxHeartbeats 4000000
set_option maxRecDepth 100000
set_option linter.unusedVariables false

end Go.Proofs.Ytkhfddodmjnecaa

set_option linter.all false
namespace Go.Proofs.Ytkhfddodmjnecaa
open Go.ChangeShapes Go.WideShapes Go.ChangeAt Go.RowKit
set_option maxHeartbeats 4000000
set_option maxRecDepth 100000
set_option linter.unusedVariables false

end Go.Proofs.Ytkhfddodmjnecaa

set_option linter.all false
namespace Go.Proofs.Ytkhfddodmjnecaa
open Go.ChangeShapes Go.WideShapes Go.ChangeAt Go.RowKit
set_option maxHeartbeats 4000000
set_option maxRecDepth 100000
set_option linter.unusedVariables false

end Go.Proofs.Ytkhfddodmjnecaa

set_option linter.all false
namespace Go.Proofs.Ytkhfddodmjnecaa
open Go.ChangeShapes Go.WideShapes Go.ChangeAt Go.RowKit
set_option linter.unusedVariables false

/-- one more register's row in the table (ref21.Of's second loop) -/
theorem AlM.push {w0 w w1 : World} {k : AlK} {x : AR} (h : AlM w0 w k x) {g c : Nat} {l : List Bool} (hr : RowB w g k.T c l) (hl : l.length = k.T) {v' : Value} (ht : TabV w1 w0.heap.size v' (k.rs.map (fun r => rowV r.1 k.T r.2) ++ [rowV g k.T c])) (hg : w.grownBy w1 k.vr.ownBlock) :
  AlM w0 (w1.setCell ⟨k.bx, 0, none⟩ v') ⟨k.bx, v', k.rs ++ [(g, c)], k.ro, k.T, k.n + 1⟩ ⟨x.regs ++ [l], x.out⟩ := by
 have hv1 : w1.heap[k.bx]? = some (.cells #[k.vr, rowV k.ro.1 k.T k.ro.2] 47) := (hg.block k.bx h.lt (fun e => h.bx_ne_tab e.symm)).trans h.hv
 have keep : ∀ {g c : Nat} {l : List Bool}, RowB w g k.T c l → RowB (w1.setCell ⟨k.bx, 0, none⟩ v') g k.T c l := fun hr => (hr.grown hg (tab_ne_row h.tab hr)).set_other _ (h.bx_ne_row hr)
 refine ⟨h.bx, heap_setCell_same _ _ 0 _ _ _ hv1, ?_, by simp [h.rl], fun r hr' => ?_, keep h.out, ⟨by simp [h.ok.rows], ?_, h.ok.out⟩, ?_⟩
 ·have hne : v'.ownBlock ≠ some k.bx := by
   intro e
   obtain ⟨cur, h2⟩ := ht.heap e
   rw [h2] at hv1
   simp at hv1
  have := ht.set_other (b := k.bx) (i := 0) v' hne
  simpa using this
 ·show RowB _ ((k.rs ++ [(g, c)]).getD r (0, 0)).1 k.T ((k.rs ++ [(g, c)]).getD r (0, 0)).2 ((x.regs ++ [l]).getD r [])
  have hr' : r < k.n + 1 := hr'
  by_cases e : r < k.n
  ·have e1 : (k.rs ++ [(g, c)]).getD r (0, 0) = k.rs.getD r (0, 0) := by simp [List.getD, List.getElem?_append, h.rl, e]
   have e2 : (x.regs ++ [l]).getD r [] = x.regs.getD r [] := by simp [List.getD, List.getElem?_append, h.ok.rows, e]
   rw [e1, e2]
   exact keep (h.row r e)
  ·obtain rfl : r = k.n := by omega
   have e1 : (k.rs ++ [(g, c)]).getD k.n (0, 0) = (g, c) := by simp [List.getD, List.getElem?_append, h.rl]
   have e2 : (x.regs ++ [l]).getD k.n [] = l := by simp [List.getD, List.getElem?_append, h.ok.rows]
   rw [e1, e2]
   exact keep hr
 ·intro l' hl'
  rcases List.mem_append.1 hl' with h1 | h1
  ·exact h.ok.row l' h1
  ·rw [List.mem_singleton] at h1
   rw [h1]; exact hl
 ·have hb := below_grown h.below hg h.below.size fun b hb => (World.ownsRow.lt h.tab b hb).1
  exact ⟨hb.os, hb.tape, hb.output, by simpa [World.setCell] using hb.size, fun j hj => (Below.heap_setCell w1 ⟨k.bx, 0, none⟩ _ j (by have := h.bx; show j ≠ k.bx; omega)).trans (hb.block j hj)⟩
end Go.Proofs.Ytkhfddodmjnecaa

set_option linter.all false
namespace Go.Proofs.Ytkhfddodmjnecaa
open Go.ChangeShapes Go.WideShapes Go.ChangeAt Go.RowKit
set_option maxHeartbeats 4000000
set_option maxRecDepth 100000
set_option linter.unusedVariables false

end Go.Proofs.Ytkhfddodmjnecaa
