/-
 Rows told on, plain: what is still to go; states that the telling comes by.; Rows and their table, just made.; What is known less or more, plain (none, nothing heard yet, is the most).; The document's rounds come to the end that the telling comes to, plain.
-/
import Derived.Test.YtkhfddodmjnecaaDoorZFoldTwice25
import Derived.Test.YtkhfddodmjnecaaDoorZFoldTwice07

set_option linter.all false
namespace Go.Proofs.YtkhfddodmjnecaaDoor
set_option linter.unusedVariables false

def muR (R : Nat) : Option Ro → Nat
 | none => R + 1
 | some t => t.countP Option.isSome
def muC (R : Nat) (X : Tb) : Nat := (X.map (muR R)).sum
theorem sum_set (f : Option Ro → Nat) : ∀ (X : Tb) (i : Nat) (a : Option Ro), i < X.length → ((X.set i a).map f).sum + f (X.getD i none) = (X.map f).sum + f a
 | [], _, _, h => absurd h (Nat.not_lt_zero _)
 | x :: X, 0, a, _ => by simp [List.getD]; omega
 | x :: X, i + 1, a, h => by
  have ih := sum_set f X i a (by simpa using h)
  simp only [List.set_cons_succ, List.map_cons, List.sum_cons, List.getD_cons_succ]
  omega
theorem meetC_cons (x y : Option Int) (a b : Ro) : meetC (x :: a) (y :: b) = (if x = y then x else none) :: meetC a b := by
 unfold meetC
 rw [List.length_cons, List.range_succ_eq_map, List.map_cons, List.map_map]
 rfl
theorem meetC_fewer : ∀ (a b : Ro), a.length ≤ b.length → (meetC a b).countP Option.isSome ≤ a.countP Option.isSome ∧ ((meetC a b).countP Option.isSome = a.countP Option.isSome → meetC a b = a)
 | [], b, _ => ⟨Nat.le_refl _, fun _ => rfl⟩
 | x :: a, [], h => by simp at h
 | x :: a, y :: b, h => by
  have ih := meetC_fewer a b (by simpa using h)
  rw [meetC_cons]
  simp only [List.countP_cons]
  by_cases e : x = y
  ·rw [if_pos e]
   exact ⟨by omega, fun h => by rw [ih.2 (by omega)]⟩
  ·rw [if_neg e]
   simp only [Option.isSome_none, Bool.false_eq_true, if_false, Nat.add_zero]
   cases x with
   | none =>
    simp only [Option.isSome_none, Bool.false_eq_true, if_false, Nat.add_zero]
    exact ⟨ih.1, fun h => by rw [ih.2 h]⟩
   | some v =>
    simp only [Option.isSome_some, if_true]
    exact ⟨by omega, fun h => by have := ih.1; omega⟩
theorem wentC_no {a b : Ro} (h : wentC a b a.length = false) : meetC a b = a := by
 apply Classical.byContradiction
 intro hn
 have := (wentC_iff a b).2 hn
 rw [h] at this
 cases this
/-- told once: nothing turns, or what is to go gets less -/
theorem spC1_mu (R : Nat) (T : Ro) (X : Tb) (nb : Bool) (q : Nat) (hq : q < X.length) (hT : T.length = R) (hX : ∀ i t, X.getD i none = some t → t.length = R) :
  (spC1 T (X, nb) (q : Int) = (X, nb) ∨ ((spC1 T (X, nb) (q : Int)).2 = true ∧ muC R (spC1 T (X, nb) (q : Int)).1 < muC R X)) ∧ (∀ i t, (spC1 T (X, nb) (q : Int)).1.getD i none = some t → t.length = R) := by
 unfold spC1
 by_cases h0 : (q : Int) = 0
 ·rw [if_pos h0]
  exact ⟨.inl rfl, hX⟩
 ·rw [if_neg h0, Int.toNat_natCast]
  have hs := fun a => sum_set (muR R) X q a hq
  have hset : ∀ (a : Option Ro) i t, (∀ u, a = some u → u.length = R) → (X.set q a).getD i none = some t → t.length = R := fun a i t ha hi => by
   by_cases e : i = q
   ·subst e
    have : (X.set i a).getD i none = a := by simp [List.getD, hq]
    rw [this] at hi
    exact ha t hi
   ·have : (X.set q a).getD i none = X.getD i none := by simp [List.getD, List.getElem?_set, Ne.symm e]
    rw [this] at hi
    exact hX i t hi
  cases ho : X.getD q none with
  | none =>
   dsimp only
   refine ⟨.inr ⟨rfl, ?_⟩, fun i t hi => hset _ i t (fun u hu => by cases hu; exact hT) hi⟩
   have := hs (some T)
   rw [ho] at this
   have h2 : T.countP Option.isSome ≤ T.length := List.countP_le_length
   unfold muC
   simp only [muR] at this
   omega
  | some o =>
   dsimp only
   have hol := hX q o ho
   refine ⟨?_, fun i t hi => hset _ i t (fun u hu => by cases hu; rw [meetC_len]; exact hol) hi⟩
   cases hw : wentC o T o.length
   ·left
    have hm := wentC_no hw
    rw [hm, Bool.false_or]
    have : X.set q (some o) = X := by
     refine List.ext_getElem (by simp) fun i h1 h2 => ?_
     rw [List.getElem_set]
     by_cases e : q = i
     ·rw [if_pos e]
      subst e
      have : X.getD q none = X[q] := by simp [List.getD, hq]
      rw [← this, ho]
     ·rw [if_neg e]
    rw [this]
   ·right
    refine ⟨rfl, ?_⟩
    have := hs (some (meetC o T))
    rw [ho] at this
    have hf := meetC_fewer o T (by rw [hol, hT]; exact Nat.le_refl _)
    have hne := (wentC_iff o T).1 hw
    unfold muC
    simp only [muR] at this
    have : (meetC o T).countP Option.isSome ≠ o.countP Option.isSome := fun e => hne (hf.2 e)
    omega
/-- told to all to which a block leads -/
theorem spC_mu (R : Nat) (T : Ro) (L : List Int) (X : Tb) (hL : ∀ q ∈ L, 0 ≤ q ∧ q < (X.length : Int)) (hT : T.length = R) (hX : ∀ i t, X.getD i none = some t → t.length = R) :
  ∀ k, ((spC T (L.take k) X) = (X, false) ∨ ((spC T (L.take k) X).2 = true ∧ muC R (spC T (L.take k) X).1 < muC R X)) ∧ (∀ i t, (spC T (L.take k) X).1.getD i none = some t → t.length = R)
 | 0 => ⟨.inl rfl, hX⟩
 | k + 1 => by
  have ih := spC_mu R T L X hL hT hX k
  by_cases h : k < L.length
  ·rw [spC_take T L X k h]
   have hl := spC_len T L X k
   obtain ⟨q0, q1⟩ := hL (L.getD k 0) (by simp [List.getD, h])
   generalize spC T (L.take k) X = S at *
   obtain ⟨Xk, Nk⟩ := S
   obtain ⟨q, hq⟩ := Int.eq_ofNat_of_zero_le q0
   rw [hq]
   dsimp only at hl ih
   have h1 := spC1_mu R T Xk Nk q (by omega) hT ih.2
   refine ⟨?_, h1.2⟩
   rcases ih.1 with e | ⟨e1, e2⟩
   ·cases e
    exact h1.1
   ·rcases h1.1 with e3 | ⟨e3, e4⟩
    ·rw [e3]; exact .inr ⟨e1, e2⟩
    ·exact .inr ⟨e3, Nat.lt_trans e4 e2⟩
  ·have : L.take (k + 1) = L.take k := by rw [List.take_of_length_le (by omega), List.take_of_length_le (by omega)]
   rw [this]; exact ih
/-- the states by which the telling comes -/
inductive RunC (p : Pr) (od : List Int) (X0 : Tb) : Tb → Prop
 | start : RunC p od X0 X0
 | step (X : Tb) (n : Nat) (t : Ro) (h : RunC p od X0 X) (hn : (n : Int) ∈ od) (ht : X.getD n none = some t) : RunC p od X0 (spC (thrC t (p.blks.getD n default).ins) (outsB (p.blks.getD n default)) X).1
/-- nothing is news any more -/
def StillC (p : Pr) (X : Tb) (n : Nat) : Prop := ∀ t, X.getD n none = some t → spC (thrC t (p.blks.getD n default).ins) (outsB (p.blks.getD n default)) X = (X, false)
end Go.Proofs.YtkhfddodmjnecaaDoor

set_option linter.all false
namespace Go.Proofs.YtkhfddodmjnecaaDoor
open Go.ChangeShapes Go.WideShapes Go.ChangeAt Go.RowKit
set_option maxHeartbeats 4000000
set_option maxRecDepth 100000
set_option linter.unusedVariables false

theorem info_row : (Tryd.prog.info? 50).map (fun i => (i.zero, i.size, i.bytes)) = some (some (.slice none 0 0), 1, 24) := by kernel_rfl
theorem info_cell : (Tryd.prog.info? 54).map (fun i => (i.zero, i.size, i.bytes)) = some (some (.agg #[.bool false, .int .u32 0]), 2, 8) := by kernel_rfl
theorem run_rows (N : Nat) (hN : N ≤ 1000000) (w : World) : (Instr.makeSlice 46 (.int .i64 (N : Int)) (.int .i64 (N : Int))).run Tryd.prog w = .ok (.slice (some ⟨w.heap.size, 0, none⟩) N N) (w.alloc (.cells (madeCells #[.slice none 0 0] (N * 1)) 50)) := by
 have hi := info_row
 cases hx : Tryd.prog.info? 50 with
 | none => rw [hx] at hi; cases hi
 | some i =>
  rw [hx] at hi
  simp only [Option.map_some, Option.some.injEq, Prod.mk.injEq] at hi
  obtain ⟨h1, h2, h3⟩ := hi
  have := run_make (P := Tryd.prog) w 46 50 i _ Tryd.underlying46 hx h1 .i64 .i64 (N : Int) (N : Int) (by omega) (by omega) (by rw [h3]; omega) (by omega)
  simp only [Int.toNat_natCast, h2] at this
  exact this
theorem run_row (N : Nat) (hN : N ≤ 1000000) (w : World) : (Instr.makeSlice 50 (.int .i64 (N : Int)) (.int .i64 (N : Int))).run Tryd.prog w = .ok (.slice (some ⟨w.heap.size, 0, none⟩) N N) (w.alloc (.cells (madeCells #[.bool false, .int .u32 0] (N * 2)) 54)) := by
 have hi := info_cell
 cases hx : Tryd.prog.info? 54 with
 | none => rw [hx] at hi; cases hi
 | some i =>
  rw [hx] at hi
  simp only [Option.map_some, Option.some.injEq, Prod.mk.injEq] at hi
  obtain ⟨h1, h2, h3⟩ := hi
  have := run_make (P := Tryd.prog) w 50 54 i _ Tryd.underlying50 hx h1 .i64 .i64 (N : Int) (N : Int) (by omega) (by omega) (by rw [h3]; omega) (by omega)
  simp only [Int.toNat_natCast, h2] at this
  exact this
def roNo (R : Nat) : Ro := List.replicate R none
theorem roNo_len (R : Nat) : (roNo R).length = R := by simp [roNo]
theorem roNo_at (R i : Nat) : (roNo R).getD i none = none := by simp only [roNo, List.getD, List.getElem?_replicate]; split <;> rfl
theorem roNo_ok (R : Nat) : RoOk (roNo R) := fun r x e => by rw [roNo_at] at e; cases e
theorem made_cell (n : Nat) : (madeCells #[.bool false, .int .u32 0] (n * 2)).toList = (roNo n).flatMap cellC := by
 apply List.ext_getElem?
 intro j
 by_cases hj : j < n * 2
 ·have e := flat_at cellC 2 (fun _ => rfl) (roNo n) (j / 2) (j % 2) (by rw [roNo_len]; omega) (Nat.mod_lt _ (by decide))
  rw [show j / 2 * 2 + j % 2 = j by omega] at e
  rw [e]
  have h2 : j % 2 < 2 := Nat.mod_lt _ (by decide)
  simp only [madeCells, Array.toList_map, List.getElem?_map, Array.toList_range, List.getElem?_range hj, Option.map_some]
  have hd : (roNo n).getD (j / 2) default = none := roNo_at n (j / 2)
  rw [hd]
  show some ((#[.bool false, .int .u32 0] : Array Value)[j % 2]!) = (cellC none)[j % 2]?
  have : ∀ r, r < 2 → some ((#[.bool false, .int .u32 0] : Array Value)[r]!) = (cellC none)[r]? := by
   intro r hr
   match r, hr with
   | 0, _ => rfl
   | 1, _ => rfl
  exact this _ h2
 ·rw [List.getElem?_eq_none (by simp [size_madeCells]; omega), List.getElem?_eq_none (by rw [flat_len cellC 2 (fun _ => rfl), roNo_len]; omega)]
theorem RowQ.made (w : World) (n : Nat) (hn : n ≤ 1000000) : RowQ (w.alloc (.cells (madeCells #[.bool false, .int .u32 0] (n * 2)) 54)) w.heap.size n (roNo n) := by
 unfold RowQ
 rw [roNo_len]
 refine ⟨by rw [flat_len cellC 2 (fun _ => rfl), roNo_len], .inr ⟨w.heap.size, n, _, rfl, Nat.zero_le _, heap_alloc_new w _, Nat.le_refl _, by unfold maxLen; omega, size_madeCells _ _, ?_⟩⟩
 rw [← made_cell n]
 exact List.take_of_length_le (by simp [size_madeCells])
def tbNo (n : Nat) : Tb := List.replicate n none
theorem tbNo_len (n : Nat) : (tbNo n).length = n := by simp [tbNo]
theorem tbNo_at (n i : Nat) : (tbNo n).getD i none = none := by simp only [tbNo, List.getD, List.getElem?_replicate]; split <;> rfl
theorem TbC.made (w : World) (n B R : Nat) (hn : n ≤ 1000000) (hB : B ≤ w.heap.size) : TbC B (w.alloc (.cells (madeCells #[.slice none 0 0] (n * 1)) 50)) w.heap.size n (List.replicate n none) (tbNo n) R := by
 have hr : ∀ i, (List.replicate n (none : Option (Nat × Nat))).getD i none = none := fun i => by simp only [List.getD, List.getElem?_replicate]; split <;> rfl
 refine ⟨by simp [tbNo], ?_, (fun i hi => by rw [hr, tbNo_at]; exact True.intro), (fun i j x y _ h => by rw [hr] at h; cases h), hB⟩
 rw [tbNo_len]
 refine ⟨by simp, .inr ⟨w.heap.size, n, _, rfl, Nat.zero_le _, heap_alloc_new w _, Nat.le_refl _, by unfold maxLen; omega, size_madeCells _ _, ?_⟩⟩
 have : (madeCells #[.slice none 0 0] (n * 1)).toList = (List.replicate n (none : Option (Nat × Nat))).map (rowVC R) := by
  apply List.ext_getElem?
  intro j
  by_cases hj : j < n * 1
  ·simp only [madeCells, Array.toList_map, List.getElem?_map, Array.toList_range, List.getElem?_range hj, Option.map_some]
   have hz : j % (#[Value.slice none 0 0] : Array Value).size = 0 := by
    show j % 1 = 0; omega
   rw [hz]
   simp [List.getElem?_replicate, show j < n by omega, rowVC]
  ·rw [List.getElem?_eq_none (by simp [size_madeCells]; omega), List.getElem?_eq_none (by simp; omega)]
 rw [← this]
 exact List.take_of_length_le (by simp [size_madeCells])
end Go.Proofs.YtkhfddodmjnecaaDoor

set_option linter.all false
namespace Go.Proofs.YtkhfddodmjnecaaDoor
set_option linter.unusedVariables false

def LeR (a b : Ro) : Prop := a.length = b.length ∧ ∀ i, a.getD i none = b.getD i none ∨ a.getD i none = none
def LeC : Option Ro → Option Ro → Prop
 | _, none => True
 | none, some _ => False
 | some a, some b => LeR a b
theorem LeR.refl (a : Ro) : LeR a a := ⟨rfl, fun _ => .inl rfl⟩
theorem LeR.trans {a b c : Ro} (h : LeR a b) (k : LeR b c) : LeR a c := ⟨h.1.trans k.1, fun i => by
 rcases h.2 i with e | e
 ·rcases k.2 i with e2 | e2
  ·exact .inl (e.trans e2)
  ·exact .inr (e.trans e2)
 ·exact .inr e⟩
theorem ro_ext {a b : Ro} (hl : a.length = b.length) (h : ∀ i, a.getD i none = b.getD i none) : a = b := by
 refine List.ext_getElem hl fun i h1 h2 => ?_
 have := h i
 simpa [List.getD, h1, h2] using this
theorem LeR.anti {a b : Ro} (h : LeR a b) (k : LeR b a) : a = b := ro_ext h.1 fun i => by
 rcases h.2 i with e | e
 ·exact e
 ·rcases k.2 i with e2 | e2
  ·exact e2.symm
  ·rw [e, e2]
theorem LeC.refl : ∀ a : Option Ro, LeC a a
 | none => True.intro
 | some a => LeR.refl a
theorem LeC.trans : ∀ {a b c : Option Ro}, LeC a b → LeC b c → LeC a c
 | _, _, none, _, _ => True.intro
 | none, some _, some _, h, _ => h.elim
 | some _, none, some _, _, k => k.elim
 | none, none, some _, _, k => k.elim
 | some _, some _, some _, h, k => LeR.trans h k
theorem LeC.anti : ∀ {a b : Option Ro}, LeC a b → LeC b a → a = b
 | none, none, _, _ => rfl
 | none, some _, h, _ => h.elim
 | some _, none, _, k => k.elim
 | some _, some _, h, k => by rw [LeR.anti h k]
theorem meetC_get (a b : Ro) (i : Nat) : (meetC a b).getD i none = if a.getD i none = b.getD i none then a.getD i none else none := by
 by_cases h : i < a.length
 ·exact meetC_at a b i h
 ·have h1 : (meetC a b)[i]? = none := List.getElem?_eq_none (by rw [meetC_len]; omega)
  have h2 : a[i]? = none := List.getElem?_eq_none (by omega)
  rw [List.getD_eq_getElem?_getD, h1, List.getD_eq_getElem?_getD (l := a), h2]
  split <;> rfl
theorem meetC_left (a b : Ro) : LeR (meetC a b) a := ⟨meetC_len a b, fun i => by
 rw [meetC_get]
 split
 ·exact .inl rfl
 ·exact .inr rfl⟩
theorem meetC_right (a b : Ro) (h : a.length = b.length) : LeR (meetC a b) b := ⟨(meetC_len a b).trans h, fun i => by
 rw [meetC_get]
 split
 ·exact .inl ‹_›
 ·exact .inr rfl⟩
theorem le_meetC {g a b : Ro} (h : LeR g a) (k : LeR g b) : LeR g (meetC a b) := ⟨by rw [meetC_len]; exact h.1, fun i => by
 rw [meetC_get]
 rcases h.2 i with e | e
 ·rcases k.2 i with e2 | e2
  ·rw [if_pos (e.symm.trans e2)]; exact .inl e
  ·exact .inr e2
 ·exact .inr e⟩
theorem cAt_le {a b : Ro} (h : LeR a b) (r : Int) : cAt a r = cAt b r ∨ cAt a r = none := by
 unfold cAt
 rw [h.1]
 split
 ·exact h.2 _
 ·exact .inr rfl
theorem numC_le {a b : Ro} (h : LeR a b) (i : In) : numC a i = numC b i ∨ numC a i = none := by
 unfold numC
 split
 ·exact .inl rfl
 ·split
  ·exact cAt_le h _
  ·split
   ·rcases cAt_le h i.a with e | e
    ·exact .inl (by rw [e])
    ·exact .inr (by rw [e]; rfl)
   ·split
    ·rcases cAt_le h i.a with e | e
     ·rcases cAt_le h i.b with e2 | e2
      ·exact .inl (by rw [e, e2])
      ·refine .inr ?_
       rw [e2]
       cases cAt a i.a <;> rfl
     ·exact .inr (by rw [e]; rfl)
    ·exact .inr rfl
theorem behC_le {a b : Ro} (h : LeR a b) (i : In) : LeR (behC a i) (behC b i) := by
 unfold behC
 split
 ·exact h
 ·refine ⟨by simpa using h.1, fun r => ?_⟩
  by_cases e : (defI i).toNat = r
  ·subst e
   by_cases hl : (defI i).toNat < a.length
   ·have hl2 : (defI i).toNat < b.length := by rw [← h.1]; exact hl
    have e1 : (a.set (defI i).toNat (numC a i)).getD (defI i).toNat none = numC a i := by simp [List.getD, hl]
    have e2 : (b.set (defI i).toNat (numC b i)).getD (defI i).toNat none = numC b i := by simp [List.getD, hl2]
    rw [e1, e2]
    exact numC_le h i
   ·have e1 : (a.set (defI i).toNat (numC a i))[(defI i).toNat]? = none := List.getElem?_eq_none (by simp; omega)
    right
    rw [List.getD_eq_getElem?_getD, e1]; rfl
  ·have e1 : (a.set (defI i).toNat (numC a i)).getD r none = a.getD r none := by simp [List.getD, List.getElem?_set, e]
   have e2 : (b.set (defI i).toNat (numC b i)).getD r none = b.getD r none := by simp [List.getD, List.getElem?_set, e]
   rw [e1, e2]
   exact h.2 r
theorem thrC_le (l : List In) : ∀ {a b : Ro}, LeR a b → LeR (thrC a l) (thrC b l) := by
 induction l with
 | nil => intro a b h; exact h
 | cons i l ih => intro a b h; exact ih (behC_le h i)
/-- one more told -/
def hearC (x : Option Ro) (o : Option Ro) (l : List In) : Option Ro := match o with
 | none => x
 | some t => match x with
  | none => some (thrC t l)
  | some a => some (meetC a (thrC t l))
theorem hearC_le {R : Nat} {x y o q : Option Ro} (l : List In) (hx : ∀ a, x = some a → a.length = R) (ho : ∀ a, o = some a → a.length = R) (h : LeC x y) (k : LeC o q) : LeC (hearC x o l) (hearC y q l) := by
 cases q with
 | none =>
  cases o with
  | none => exact h
  | some t =>
   cases y with
   | none => exact True.intro
   | some b =>
    cases x with
    | none => exact h.elim
    | some a => exact LeR.trans (meetC_left a _) h
 | some u =>
  cases o with
  | none => exact k.elim
  | some t =>
   have ht := thrC_le l k
   cases y with
   | none =>
    cases x with
    | none => exact ht
    | some a => exact (meetC_right a _ (by rw [thrC_len, hx a rfl, ho t rfl])).trans ht
   | some b =>
    cases x with
    | none => exact h.elim
    | some a => exact le_meetC ((meetC_left a _).trans h) ((meetC_right a _ (by rw [thrC_len, hx a rfl, ho t rfl])).trans ht)
def LenC (R : Nat) (X : Tb) : Prop := ∀ i t, X.getD i none = some t → t.length = R
theorem hearC_len {R : Nat} {x o : Option Ro} (l : List In) (hx : ∀ a, x = some a → a.length = R) (ho : ∀ a, o = some a → a.length = R) : ∀ a, hearC x o l = some a → a.length = R := by
 intro a e
 unfold hearC at e
 cases o with
 | none => exact hx a e
 | some t =>
  cases x with
  | none => cases e; rw [thrC_len]; exact ho t rfl
  | some b => cases e; rw [meetC_len]; exact hx b rfl
/-- a round of the document, at one block -/
def rdB (p : Pr) (R : Nat) (X : Tb) (n : Nat) : Option Ro :=
 if n = 0 then some (roNo R) else (predsP p n).foldl (fun x k => if (reachP p).getD k.toNat false = true then hearC x (X.getD k.toNat none) (p.blks.getD k.toNat default).ins else x) none
def rdC (p : Pr) (R : Nat) (X : Tb) : Tb := (List.range p.blks.length).map (rdB p R X)
/-- after so many rounds -/
def rdN (p : Pr) (R : Nat) : Nat → Tb
 | 0 => List.replicate p.blks.length none
 | k + 1 => rdC p R (rdN p R k)
end Go.Proofs.YtkhfddodmjnecaaDoor

set_option linter.all false
namespace Go.Proofs.YtkhfddodmjnecaaDoor
set_option linter.unusedVariables false

def LeT (X Y : Tb) : Prop := ∀ i, LeC (X.getD i none) (Y.getD i none)
theorem fold_le {p : Pr} {R : Nat} {X Y : Tb} (h : LeT X Y) (hX : LenC R X) : ∀ (l : List Int) (x y : Option Ro), (∀ a, x = some a → a.length = R) → LeC x y →
  LeC (l.foldl (fun x k => if (reachP p).getD k.toNat false = true then hearC x (X.getD k.toNat none) (p.blks.getD k.toNat default).ins else x) x) (l.foldl (fun x k => if (reachP p).getD k.toNat false = true then hearC x (Y.getD k.toNat none) (p.blks.getD k.toNat default).ins else x) y) ∧ (∀ a, l.foldl (fun x k => if (reachP p).getD k.toNat false = true then hearC x (X.getD k.toNat none) (p.blks.getD k.toNat default).ins else x) x = some a → a.length = R)
 | [], x, y, hx, hl => ⟨hl, hx⟩
 | k :: l, x, y, hx, hl => by
  rw [List.foldl_cons, List.foldl_cons]
  by_cases hr : (reachP p).getD k.toNat false = true
  ·rw [if_pos hr, if_pos hr]
   exact fold_le h hX l _ _ (hearC_len _ hx (hX k.toNat)) (hearC_le _ hx (hX k.toNat) hl (h k.toNat))
  ·rw [if_neg hr, if_neg hr]
   exact fold_le h hX l x y hx hl
theorem rdB_le {p : Pr} {R : Nat} {X Y : Tb} (h : LeT X Y) (hX : LenC R X) (n : Nat) : LeC (rdB p R X n) (rdB p R Y n) ∧ ∀ a, rdB p R X n = some a → a.length = R := by
 unfold rdB
 by_cases e : n = 0
 ·rw [if_pos e, if_pos e]
  exact ⟨LeC.refl _, fun a ha => by cases ha; exact roNo_len R⟩
 ·rw [if_neg e, if_neg e]
  exact fold_le h hX _ none none (fun a ha => by cases ha) True.intro
theorem rdC_at (p : Pr) (R : Nat) (X : Tb) (n : Nat) : (rdC p R X).getD n none = if n < p.blks.length then rdB p R X n else none := by
 unfold rdC
 by_cases h : n < p.blks.length
 ·rw [if_pos h]; simp [List.getD, h]
 ·rw [if_neg h]
  have : ((List.range p.blks.length).map (rdB p R X))[n]? = none := List.getElem?_eq_none (by simp; omega)
  rw [List.getD_eq_getElem?_getD, this]; rfl
theorem rdC_le {p : Pr} {R : Nat} {X Y : Tb} (h : LeT X Y) (hX : LenC R X) : LeT (rdC p R X) (rdC p R Y) ∧ LenC R (rdC p R X) := by
 constructor
 ·intro i
  rw [rdC_at, rdC_at]
  split
  ·exact (rdB_le h hX i).1
  ·exact True.intro
 ·intro i t ht
  rw [rdC_at] at ht
  split at ht
  ·exact (rdB_le h hX i).2 t ht
  ·cases ht
theorem rdN_len (p : Pr) (R : Nat) : ∀ k, (rdN p R k).length = p.blks.length
 | 0 => by simp [rdN]
 | k + 1 => by simp [rdN, rdC]
theorem rdN_zero (p : Pr) (R i : Nat) : (rdN p R 0).getD i none = none := by
 simp only [rdN, List.getD, List.getElem?_replicate]; split <;> rfl
theorem rdN_down (p : Pr) (R : Nat) : ∀ k, LeT (rdN p R (k + 1)) (rdN p R k) ∧ LenC R (rdN p R k)
 | 0 => ⟨fun i => by rw [rdN_zero]; exact True.intro, fun i t ht => by rw [rdN_zero] at ht; cases ht⟩
 | k + 1 => by
  have ih := rdN_down p R k
  have h2 := (rdC_le (p := p) (fun i => LeC.refl ((rdN p R k).getD i none)) ih.2).2
  exact ⟨(rdC_le (p := p) ih.1 h2).1, h2⟩
theorem LeR.few : ∀ {a b : Ro}, LeR a b → a.countP Option.isSome ≤ b.countP Option.isSome ∧ (a.countP Option.isSome = b.countP Option.isSome → a = b)
 | [], [], _ => ⟨Nat.le_refl _, fun _ => rfl⟩
 | [], _ :: _, h => by have := h.1; simp at this
 | _ :: _, [], h => by have := h.1; simp at this
 | x :: a, y :: b, h => by
  have ih := LeR.few (a := a) (b := b) ⟨by have := h.1; simpa using this, fun i => by have := h.2 (i + 1); simpa [List.getD] using this⟩
  have h0 := h.2 0
  simp only [List.getD_cons_zero] at h0
  simp only [List.countP_cons]
  rcases h0 with e | e
  ·subst e
   exact ⟨by omega, fun hh => by rw [ih.2 (by omega)]⟩
  ·subst e
   cases y with
   | none => exact ⟨by simp; omega, fun hh => by rw [ih.2 (by simpa using hh)]⟩
   | some v =>
    simp only [Option.isSome_none, Bool.false_eq_true, if_false, Option.isSome_some, if_true]
    exact ⟨by omega, fun hh => by omega⟩
theorem mu_le1 {R : Nat} {o q : Option Ro} (ho : ∀ t, o = some t → t.length = R) (h : LeC o q) : muR R o ≤ muR R q ∧ (muR R o = muR R q → o = q) := by
 cases q with
 | none =>
  cases o with
  | none => exact ⟨Nat.le_refl _, fun _ => rfl⟩
  | some t =>
   have h2 : t.countP Option.isSome ≤ t.length := List.countP_le_length
   have := ho t rfl
   simp only [muR]
   exact ⟨by omega, fun e => by omega⟩
 | some u =>
  cases o with
  | none => exact h.elim
  | some t =>
   have := LeR.few h
   simp only [muR]
   exact ⟨this.1, fun e => by rw [this.2 e]⟩
theorem mu_le {R : Nat} : ∀ {X Y : Tb}, X.length = Y.length → LenC R X → LeT X Y → muC R X ≤ muC R Y ∧ (muC R X = muC R Y → X = Y)
 | [], [], _, _, _ => ⟨Nat.le_refl _, fun _ => rfl⟩
 | [], _ :: _, h, _, _ => by simp at h
 | _ :: _, [], h, _, _ => by simp at h
 | x :: X, y :: Y, hl, hX, h => by
  have ih := mu_le (R := R) (X := X) (Y := Y) (by simpa using hl) (fun i t ht => hX (i + 1) t (by simpa [List.getD] using ht)) (fun i => by have := h (i + 1); simpa [List.getD] using this)
  have h0 := mu_le1 (R := R) (o := x) (q := y) (fun t ht => hX 0 t (by simpa [List.getD] using ht)) (by have := h 0; simpa [List.getD] using this)
  simp only [muC, List.map_cons, List.sum_cons] at ih ⊢
  exact ⟨by omega, fun e => by rw [h0.2 (by omega), ih.2 (by omega)]⟩
theorem rdN_stop (p : Pr) (R : Nat) : ∀ k, rdN p R (k + 1) = rdN p R k ∨ muC R (rdN p R (k + 1)) + k + 1 ≤ muC R (rdN p R 0)
 | 0 => by
  have h := mu_le (R := R) (by rw [rdN_len, rdN_len]) (rdN_down p R 1).2 (rdN_down p R 0).1
  by_cases e : muC R (rdN p R 1) = muC R (rdN p R 0)
  ·exact .inl (h.2 e)
  ·exact .inr (by have := h.1; show muC R (rdN p R 1) + 0 + 1 ≤ _; omega)
 | k + 1 => by
  have h := mu_le (R := R) (by rw [rdN_len, rdN_len]) (rdN_down p R (k + 2)).2 (rdN_down p R (k + 1)).1
  rcases rdN_stop p R k with e | e
  ·left
   show rdC p R (rdN p R (k + 1)) = rdC p R (rdN p R k)
   rw [e]
  ·by_cases e2 : muC R (rdN p R (k + 2)) = muC R (rdN p R (k + 1))
   ·exact .inl (h.2 e2)
   ·exact .inr (by have := h.1; show muC R (rdN p R (k + 2)) + (k + 1) + 1 ≤ _; omega)
theorem mu_zero (p : Pr) (R : Nat) : muC R (rdN p R 0) = p.blks.length * (R + 1) := by
 simp [muC, rdN, muR]
theorem rdN_still (p : Pr) (R k : Nat) (h : p.blks.length * (R + 1) ≤ k) : rdN p R (k + 1) = rdN p R k := by
 rcases rdN_stop p R k with e | e
 ·exact e
 ·rw [mu_zero] at e; omega
/-- who hears of a block -/
theorem fold_hears {p : Pr} {R : Nat} {X : Tb} (hX : LenC R X) {k : Int} {t : Ro} (hr : (reachP p).getD k.toNat false = true) (ht : X.getD k.toNat none = some t) : ∀ (l : List Int) (x : Option Ro), (∀ a, x = some a → a.length = R) → (k ∈ l ∨ LeC x (some (thrC t (p.blks.getD k.toNat default).ins))) →
  LeC (l.foldl (fun x k => if (reachP p).getD k.toNat false = true then hearC x (X.getD k.toNat none) (p.blks.getD k.toNat default).ins else x) x) (some (thrC t (p.blks.getD k.toNat default).ins))
 | [], x, hx, h => by
  rcases h with h | h
  ·cases h
  ·exact h
 | q :: l, x, hx, h => by
  rw [List.foldl_cons]
  have hlen : ∀ a, (if (reachP p).getD q.toNat false = true then hearC x (X.getD q.toNat none) (p.blks.getD q.toNat default).ins else x) = some a → a.length = R := by
   split
   ·exact hearC_len _ hx (hX q.toNat)
   ·exact hx
  refine fold_hears hX hr ht l _ hlen ?_
  by_cases hq : q = k
  ·right
   subst hq
   rw [if_pos hr, ht]
   cases x with
   | none => exact LeR.refl _
   | some a => exact meetC_right a _ (by rw [thrC_len, hx a rfl, hX _ t ht])
  ·rcases h with h | h
   ·left
    rcases List.mem_cons.1 h with e | e
    ·exact absurd e.symm hq
    ·exact e
   ·right
    split
    ·cases x with
     | none => exact h.elim
     | some a =>
      cases X.getD q.toNat none with
      | none => exact h
      | some u => exact LeR.trans (meetC_left a _) h
    ·exact h
end Go.Proofs.YtkhfddodmjnecaaDoor
