/-
 What is known less or more, plain (none, nothing heard yet, is the most).; The document's rounds come to the end that the telling comes to, plain.; What is told in any order is what the document's rounds come to, plain.
-/
import Derived.Test.YtkhfddodmjnecaaZFoldConsts35
import Derived.Test.YtkhfddodmjnecaaZFoldConsts25
import Derived.Test.YtkhfddodmjnecaaZFoldConsts36

set_option linter.all false
namespace Go.Proofs.Ytkhfddodmjnecaa
set_option linter.unusedVariables false

def LeR (a b : Ro) : Prop := a.length = b.length ∧ ∀ i, a.getD i none = b.getD i none ∨ a.getD i none = none
def LeC : Option Ro → Option Ro → Prop
 | _, none => True
 | none, some _ => False
 | some a, some b => LeR a b
theorem LeR.refl (a : Ro) : LeR a a := ⟨rfl, fun _ => .inl rfl⟩
theorem LeR.trans {a b c : Ro} (h : LeR a b) (k : LeR b c) : LeR a c := ⟨h.1.trans k.1, fun i => by
 rcases h.2 i with e | e
 ·rcases k.2 i with e2 | e2
  ·exact .inl (e.trans e2)
  ·exact .inr (e.trans e2)
 ·exact .inr e⟩
theorem ro_ext {a b : Ro} (hl : a.length = b.length) (h : ∀ i, a.getD i none = b.getD i none) : a = b := by
 refine List.ext_getElem hl fun i h1 h2 => ?_
 have := h i
 simpa [List.getD, h1, h2] using this
theorem LeR.anti {a b : Ro} (h : LeR a b) (k : LeR b a) : a = b := ro_ext h.1 fun i => by
 rcases h.2 i with e | e
 ·exact e
 ·rcases k.2 i with e2 | e2
  ·exact e2.symm
  ·rw [e, e2]
theorem LeC.refl : ∀ a : Option Ro, LeC a a
 | none => True.intro
 | some a => LeR.refl a
theorem LeC.trans : ∀ {a b c : Option Ro}, LeC a b → LeC b c → LeC a c
 | _, _, none, _, _ => True.intro
 | none, some _, some _, h, _ => h.elim
 | some _, none, some _, _, k => k.elim
 | none, none, some _, _, k => k.elim
 | some _, some _, some _, h, k => LeR.trans h k
theorem LeC.anti : ∀ {a b : Option Ro}, LeC a b → LeC b a → a = b
 | none, none, _, _ => rfl
 | none, some _, h, _ => h.elim
 | some _, none, _, k => k.elim
 | some _, some _, h, k => by rw [LeR.anti h k]
theorem meetC_get (a b : Ro) (i : Nat) : (meetC a b).getD i none = if a.getD i none = b.getD i none then a.getD i none else none := by
 by_cases h : i < a.length
 ·exact meetC_at a b i h
 ·have h1 : (meetC a b)[i]? = none := List.getElem?_eq_none (by rw [meetC_len]; omega)
  have h2 : a[i]? = none := List.getElem?_eq_none (by omega)
  rw [List.getD_eq_getElem?_getD, h1, List.getD_eq_getElem?_getD (l := a), h2]
  split <;> rfl
theorem meetC_left (a b : Ro) : LeR (meetC a b) a := ⟨meetC_len a b, fun i => by
 rw [meetC_get]
 split
 ·exact .inl rfl
 ·exact .inr rfl⟩
theorem meetC_right (a b : Ro) (h : a.length = b.length) : LeR (meetC a b) b := ⟨(meetC_len a b).trans h, fun i => by
 rw [meetC_get]
 split
 ·exact .inl ‹_›
 ·exact .inr rfl⟩
theorem le_meetC {g a b : Ro} (h : LeR g a) (k : LeR g b) : LeR g (meetC a b) := ⟨by rw [meetC_len]; exact h.1, fun i => by
 rw [meetC_get]
 rcases h.2 i with e | e
 ·rcases k.2 i with e2 | e2
  ·rw [if_pos (e.symm.trans e2)]; exact .inl e
  ·exact .inr e2
 ·exact .inr e⟩
theorem cAt_le {a b : Ro} (h : LeR a b) (r : Int) : cAt a r = cAt b r ∨ cAt a r = none := by
 unfold cAt
 rw [h.1]
 split
 ·exact h.2 _
 ·exact .inr rfl
theorem numC_le {a b : Ro} (h : LeR a b) (i : In) : numC a i = numC b i ∨ numC a i = none := by
 unfold numC
 split
 ·exact .inl rfl
 ·split
  ·exact cAt_le h _
  ·split
   ·rcases cAt_le h i.a with e | e
    ·exact .inl (by rw [e])
    ·exact .inr (by rw [e]; rfl)
   ·split
    ·rcases cAt_le h i.a with e | e
     ·rcases cAt_le h i.b with e2 | e2
      ·exact .inl (by rw [e, e2])
      ·refine .inr ?_
       rw [e2]
       cases cAt a i.a <;> rfl
     ·exact .inr (by rw [e]; rfl)
    ·exact .inr rfl
theorem behC_le {a b : Ro} (h : LeR a b) (i : In) : LeR (behC a i) (behC b i) := by
 unfold behC
 split
 ·exact h
 ·refine ⟨by simpa using h.1, fun r => ?_⟩
  by_cases e : (defI i).toNat = r
  ·subst e
   by_cases hl : (defI i).toNat < a.length
   ·have hl2 : (defI i).toNat < b.length := by rw [← h.1]; exact hl
    have e1 : (a.set (defI i).toNat (numC a i)).getD (defI i).toNat none = numC a i := by simp [List.getD, hl]
    have e2 : (b.set (defI i).toNat (numC b i)).getD (defI i).toNat none = numC b i := by simp [List.getD, hl2]
    rw [e1, e2]
    exact numC_le h i
   ·have e1 : (a.set (defI i).toNat (numC a i))[(defI i).toNat]? = none := List.getElem?_eq_none (by simp; omega)
    right
    rw [List.getD_eq_getElem?_getD, e1]; rfl
  ·have e1 : (a.set (defI i).toNat (numC a i)).getD r none = a.getD r none := by simp [List.getD, List.getElem?_set, e]
   have e2 : (b.set (defI i).toNat (numC b i)).getD r none = b.getD r none := by simp [List.getD, List.getElem?_set, e]
   rw [e1, e2]
   exact h.2 r
theorem thrC_le (l : List In) : ∀ {a b : Ro}, LeR a b → LeR (thrC a l) (thrC b l) := by
 induction l with
 | nil => intro a b h; exact h
 | cons i l ih => intro a b h; exact ih (behC_le h i)
/-- one more told -/
def hearC (x : Option Ro) (o : Option Ro) (l : List In) : Option Ro := match o with
 | none => x
 | some t => match x with
  | none => some (thrC t l)
  | some a => some (meetC a (thrC t l))
theorem hearC_le {R : Nat} {x y o q : Option Ro} (l : List In) (hx : ∀ a, x = some a → a.length = R) (ho : ∀ a, o = some a → a.length = R) (h : LeC x y) (k : LeC o q) : LeC (hearC x o l) (hearC y q l) := by
 cases q with
 | none =>
  cases o with
  | none => exact h
  | some t =>
   cases y with
   | none => exact True.intro
   | some b =>
    cases x with
    | none => exact h.elim
    | some a => exact LeR.trans (meetC_left a _) h
 | some u =>
  cases o with
  | none => exact k.elim
  | some t =>
   have ht := thrC_le l k
   cases y with
   | none =>
    cases x with
    | none => exact ht
    | some a => exact (meetC_right a _ (by rw [thrC_len, hx a rfl, ho t rfl])).trans ht
   | some b =>
    cases x with
    | none => exact h.elim
    | some a => exact le_meetC ((meetC_left a _).trans h) ((meetC_right a _ (by rw [thrC_len, hx a rfl, ho t rfl])).trans ht)
def LenC (R : Nat) (X : Tb) : Prop := ∀ i t, X.getD i none = some t → t.length = R
theorem hearC_len {R : Nat} {x o : Option Ro} (l : List In) (hx : ∀ a, x = some a → a.length = R) (ho : ∀ a, o = some a → a.length = R) : ∀ a, hearC x o l = some a → a.length = R := by
 intro a e
 unfold hearC at e
 cases o with
 | none => exact hx a e
 | some t =>
  cases x with
  | none => cases e; rw [thrC_len]; exact ho t rfl
  | some b => cases e; rw [meetC_len]; exact hx b rfl
/-- a round of the document, at one block -/
def rdB (p : Pr) (R : Nat) (X : Tb) (n : Nat) : Option Ro :=
 if n = 0 then some (roNo R) else (predsP p n).foldl (fun x k => if (reachP p).getD k.toNat false = true then hearC x (X.getD k.toNat none) (p.blks.getD k.toNat default).ins else x) none
def rdC (p : Pr) (R : Nat) (X : Tb) : Tb := (List.range p.blks.length).map (rdB p R X)
/-- after so many rounds -/
def rdN (p : Pr) (R : Nat) : Nat → Tb
 | 0 => List.replicate p.blks.length none
 | k + 1 => rdC p R (rdN p R k)
end Go.Proofs.Ytkhfddodmjnecaa

set_option linter.all false
namespace Go.Proofs.Ytkhfddodmjnecaa
set_option linter.unusedVariables false

def LeT (X Y : Tb) : Prop := ∀ i, LeC (X.getD i none) (Y.getD i none)
theorem fold_le {p : Pr} {R : Nat} {X Y : Tb} (h : LeT X Y) (hX : LenC R X) : ∀ (l : List Int) (x y : Option Ro), (∀ a, x = some a → a.length = R) → LeC x y →
  LeC (l.foldl (fun x k => if (reachP p).getD k.toNat false = true then hearC x (X.getD k.toNat none) (p.blks.getD k.toNat default).ins else x) x) (l.foldl (fun x k => if (reachP p).getD k.toNat false = true then hearC x (Y.getD k.toNat none) (p.blks.getD k.toNat default).ins else x) y) ∧ (∀ a, l.foldl (fun x k => if (reachP p).getD k.toNat false = true then hearC x (X.getD k.toNat none) (p.blks.getD k.toNat default).ins else x) x = some a → a.length = R)
 | [], x, y, hx, hl => ⟨hl, hx⟩
 | k :: l, x, y, hx, hl => by
  rw [List.foldl_cons, List.foldl_cons]
  by_cases hr : (reachP p).getD k.toNat false = true
  ·rw [if_pos hr, if_pos hr]
   exact fold_le h hX l _ _ (hearC_len _ hx (hX k.toNat)) (hearC_le _ hx (hX k.toNat) hl (h k.toNat))
  ·rw [if_neg hr, if_neg hr]
   exact fold_le h hX l x y hx hl
theorem rdB_le {p : Pr} {R : Nat} {X Y : Tb} (h : LeT X Y) (hX : LenC R X) (n : Nat) : LeC (rdB p R X n) (rdB p R Y n) ∧ ∀ a, rdB p R X n = some a → a.length = R := by
 unfold rdB
 by_cases e : n = 0
 ·rw [if_pos e, if_pos e]
  exact ⟨LeC.refl _, fun a ha => by cases ha; exact roNo_len R⟩
 ·rw [if_neg e, if_neg e]
  exact fold_le h hX _ none none (fun a ha => by cases ha) True.intro
theorem rdC_at (p : Pr) (R : Nat) (X : Tb) (n : Nat) : (rdC p R X).getD n none = if n < p.blks.length then rdB p R X n else none := by
 unfold rdC
 by_cases h : n < p.blks.length
 ·rw [if_pos h]; simp [List.getD, h]
 ·rw [if_neg h]
  have : ((List.range p.blks.length).map (rdB p R X))[n]? = none := List.getElem?_eq_none (by simp; omega)
  rw [List.getD_eq_getElem?_getD, this]; rfl
theorem rdC_le {p : Pr} {R : Nat} {X Y : Tb} (h : LeT X Y) (hX : LenC R X) : LeT (rdC p R X) (rdC p R Y) ∧ LenC R (rdC p R X) := by
 constructor
 ·intro i
  rw [rdC_at, rdC_at]
  split
  ·exact (rdB_le h hX i).1
  ·exact True.intro
 ·intro i t ht
  rw [rdC_at] at ht
  split at ht
  ·exact (rdB_le h hX i).2 t ht
  ·cases ht
theorem rdN_len (p : Pr) (R : Nat) : ∀ k, (rdN p R k).length = p.blks.length
 | 0 => by simp [rdN]
 | k + 1 => by simp [rdN, rdC]
theorem rdN_zero (p : Pr) (R i : Nat) : (rdN p R 0).getD i none = none := by
 simp only [rdN, List.getD, List.getElem?_replicate]; split <;> rfl
theorem rdN_down (p : Pr) (R : Nat) : ∀ k, LeT (rdN p R (k + 1)) (rdN p R k) ∧ LenC R (rdN p R k)
 | 0 => ⟨fun i => by rw [rdN_zero]; exact True.intro, fun i t ht => by rw [rdN_zero] at ht; cases ht⟩
 | k + 1 => by
  have ih := rdN_down p R k
  have h2 := (rdC_le (p := p) (fun i => LeC.refl ((rdN p R k).getD i none)) ih.2).2
  exact ⟨(rdC_le (p := p) ih.1 h2).1, h2⟩
theorem LeR.few : ∀ {a b : Ro}, LeR a b → a.countP Option.isSome ≤ b.countP Option.isSome ∧ (a.countP Option.isSome = b.countP Option.isSome → a = b)
 | [], [], _ => ⟨Nat.le_refl _, fun _ => rfl⟩
 | [], _ :: _, h => by have := h.1; simp at this
 | _ :: _, [], h => by have := h.1; simp at this
 | x :: a, y :: b, h => by
  have ih := LeR.few (a := a) (b := b) ⟨by have := h.1; simpa using this, fun i => by have := h.2 (i + 1); simpa [List.getD] using this⟩
  have h0 := h.2 0
  simp only [List.getD_cons_zero] at h0
  simp only [List.countP_cons]
  rcases h0 with e | e
  ·subst e
   exact ⟨by omega, fun hh => by rw [ih.2 (by omega)]⟩
  ·subst e
   cases y with
   | none => exact ⟨by simp; omega, fun hh => by rw [ih.2 (by simpa using hh)]⟩
   | some v =>
    simp only [Option.isSome_none, Bool.false_eq_true, if_false, Option.isSome_some, if_true]
    exact ⟨by omega, fun hh => by omega⟩
theorem mu_le1 {R : Nat} {o q : Option Ro} (ho : ∀ t, o = some t → t.length = R) (h : LeC o q) : muR R o ≤ muR R q ∧ (muR R o = muR R q → o = q) := by
 cases q with
 | none =>
  cases o with
  | none => exact ⟨Nat.le_refl _, fun _ => rfl⟩
  | some t =>
   have h2 : t.countP Option.isSome ≤ t.length := List.countP_le_length
   have := ho t rfl
   simp only [muR]
   exact ⟨by omega, fun e => by omega⟩
 | some u =>
  cases o with
  | none => exact h.elim
  | some t =>
   have := LeR.few h
   simp only [muR]
   exact ⟨this.1, fun e => by rw [this.2 e]⟩
theorem mu_le {R : Nat} : ∀ {X Y : Tb}, X.length = Y.length → LenC R X → LeT X Y → muC R X ≤ muC R Y ∧ (muC R X = muC R Y → X = Y)
 | [], [], _, _, _ => ⟨Nat.le_refl _, fun _ => rfl⟩
 | [], _ :: _, h, _, _ => by simp at h
 | _ :: _, [], h, _, _ => by simp at h
 | x :: X, y :: Y, hl, hX, h => by
  have ih := mu_le (R := R) (X := X) (Y := Y) (by simpa using hl) (fun i t ht => hX (i + 1) t (by simpa [List.getD] using ht)) (fun i => by have := h (i + 1); simpa [List.getD] using this)
  have h0 := mu_le1 (R := R) (o := x) (q := y) (fun t ht => hX 0 t (by simpa [List.getD] using ht)) (by have := h 0; simpa [List.getD] using this)
  simp only [muC, List.map_cons, List.sum_cons] at ih ⊢
  exact ⟨by omega, fun e => by rw [h0.2 (by omega), ih.2 (by omega)]⟩
theorem rdN_stop (p : Pr) (R : Nat) : ∀ k, rdN p R (k + 1) = rdN p R k ∨ muC R (rdN p R (k + 1)) + k + 1 ≤ muC R (rdN p R 0)
 | 0 => by
  have h := mu_le (R := R) (by rw [rdN_len, rdN_len]) (rdN_down p R 1).2 (rdN_down p R 0).1
  by_cases e : muC R (rdN p R 1) = muC R (rdN p R 0)
  ·exact .inl (h.2 e)
  ·exact .inr (by have := h.1; show muC R (rdN p R 1) + 0 + 1 ≤ _; omega)
 | k + 1 => by
  have h := mu_le (R := R) (by rw [rdN_len, rdN_len]) (rdN_down p R (k + 2)).2 (rdN_down p R (k + 1)).1
  rcases rdN_stop p R k with e | e
  ·left
   show rdC p R (rdN p R (k + 1)) = rdC p R (rdN p R k)
   rw [e]
  ·by_cases e2 : muC R (rdN p R (k + 2)) = muC R (rdN p R (k + 1))
   ·exact .inl (h.2 e2)
   ·exact .inr (by have := h.1; show muC R (rdN p R (k + 2)) + (k + 1) + 1 ≤ _; omega)
theorem mu_zero (p : Pr) (R : Nat) : muC R (rdN p R 0) = p.blks.length * (R + 1) := by
 simp [muC, rdN, muR]
theorem rdN_still (p : Pr) (R k : Nat) (h : p.blks.length * (R + 1) ≤ k) : rdN p R (k + 1) = rdN p R k := by
 rcases rdN_stop p R k with e | e
 ·exact e
 ·rw [mu_zero] at e; omega
/-- who hears of a block -/
theorem fold_hears {p : Pr} {R : Nat} {X : Tb} (hX : LenC R X) {k : Int} {t : Ro} (hr : (reachP p).getD k.toNat false = true) (ht : X.getD k.toNat none = some t) : ∀ (l : List Int) (x : Option Ro), (∀ a, x = some a → a.length = R) → (k ∈ l ∨ LeC x (some (thrC t (p.blks.getD k.toNat default).ins))) →
  LeC (l.foldl (fun x k => if (reachP p).getD k.toNat false = true then hearC x (X.getD k.toNat none) (p.blks.getD k.toNat default).ins else x) x) (some (thrC t (p.blks.getD k.toNat default).ins))
 | [], x, hx, h => by
  rcases h with h | h
  ·cases h
  ·exact h
 | q :: l, x, hx, h => by
  rw [List.foldl_cons]
  have hlen : ∀ a, (if (reachP p).getD q.toNat false = true then hearC x (X.getD q.toNat none) (p.blks.getD q.toNat default).ins else x) = some a → a.length = R := by
   split
   ·exact hearC_len _ hx (hX q.toNat)
   ·exact hx
  refine fold_hears hX hr ht l _ hlen ?_
  by_cases hq : q = k
  ·right
   subst hq
   rw [if_pos hr, ht]
   cases x with
   | none => exact LeR.refl _
   | some a => exact meetC_right a _ (by rw [thrC_len, hx a rfl, hX _ t ht])
  ·rcases h with h | h
   ·left
    rcases List.mem_cons.1 h with e | e
    ·exact absurd e.symm hq
    ·exact e
   ·right
    split
    ·cases x with
     | none => exact h.elim
     | some a =>
      cases X.getD q.toNat none with
      | none => exact h
      | some u => exact LeR.trans (meetC_left a _) h
    ·exact h
end Go.Proofs.Ytkhfddodmjnecaa

set_option linter.all false
namespace Go.Proofs.Ytkhfddodmjnecaa
set_option linter.unusedVariables false

theorem fold_above {p : Pr} {X : Tb} {g : Option Ro} : ∀ (l : List Int) (x : Option Ro), LeC g x → (∀ k ∈ l, (reachP p).getD k.toNat false = true → ∀ t, X.getD k.toNat none = some t → LeC g (some (thrC t (p.blks.getD k.toNat default).ins))) →
  LeC g (l.foldl (fun x k => if (reachP p).getD k.toNat false = true then hearC x (X.getD k.toNat none) (p.blks.getD k.toNat default).ins else x) x)
 | [], x, hx, _ => hx
 | q :: l, x, hx, h => by
  rw [List.foldl_cons]
  refine fold_above l _ ?_ fun k hk => h k (List.mem_cons_of_mem _ hk)
  split
  ·have hq := h q List.mem_cons_self ‹_›
   cases ht : X.getD q.toNat none with
   | none => exact hx
   | some t =>
    have h1 := hq t ht
    cases x with
    | none => exact h1
    | some a =>
     cases g with
     | none => exact h1.elim
     | some g => exact le_meetC hx h1
  ·exact hx
theorem spC1_news (T : Ro) (s : Tb × Bool) (q : Int) (h : (spC1 T s q).2 = false) : s.2 = false := by
 unfold spC1 at h
 split at h
 ·exact h
 ·split at h
  ·cases h
  ·exact (Bool.or_eq_false_iff.1 h).2
theorem spC_news (T : Ro) (L : List Int) (X : Tb) : ∀ j k, (spC T (L.take (k + j)) X).2 = false → (spC T (L.take k) X).2 = false
 | 0, _, h => h
 | j + 1, k, h => by
  refine spC_news T L X j k ?_
  by_cases e : k + j < L.length
  ·rw [← Nat.add_assoc, spC_take T L X (k + j) e] at h
   exact spC1_news _ _ _ h
  ·rw [List.take_of_length_le (by omega)] at h ⊢
   exact h
theorem still_le {R : Nat} {T : Ro} {L : List Int} {X : Tb} (hL : ∀ q ∈ L, 0 ≤ q ∧ q < (X.length : Int)) (hT : T.length = R) (hX : LenC R X) (h : spC T L X = (X, false)) {q : Int} (hq : q ∈ L) (h0 : q ≠ 0) : LeC (X.getD q.toNat none) (some T) := by
 obtain ⟨k, hk, rfl⟩ := List.getElem_of_mem hq
 have pre : ∀ j, j ≤ L.length → spC T (L.take j) X = (X, false) := fun j hj => by
  rcases (spC_mu R T L X hL hT hX j).1 with e | ⟨e, -⟩
  ·exact e
  ·have := spC_news T L X (L.length - j) j (by rw [show j + (L.length - j) = L.length by omega, List.take_length, h])
   rw [this] at e; cases e
 have h1 := pre (k + 1) (by omega)
 rw [spC_take T L X k hk, pre k (by omega)] at h1
 have hg : L.getD k 0 = L[k] := by simp [List.getD, hk]
 rw [hg] at h1
 unfold spC1 at h1
 rw [if_neg h0] at h1
 dsimp only at h1
 cases ho : X.getD (L[k]).toNat none with
 | none => rw [ho] at h1; simp at h1
 | some o =>
  rw [ho] at h1
  simp only [Prod.mk.injEq, Bool.or_false] at h1
  have := wentC_no h1.2
  have h2 := meetC_right o T ((hX _ o ho).trans hT.symm)
  rw [this] at h2
  exact h2
theorem spC1_zero (T : Ro) (s : Tb × Bool) (q : Int) (hq : 0 ≤ q) : (spC1 T s q).1.getD 0 none = s.1.getD 0 none := by
 unfold spC1
 split
 ·rfl
 ·have : q.toNat ≠ 0 := by omega
  split <;> simp [List.getD, List.getElem?_set, this]
theorem spC_ind (T : Ro) (L : List Int) (X : Tb) (S : Tb → Prop) (h0 : S X) (h : ∀ s q, q ∈ L → S s.1 → S (spC1 T s q).1) : ∀ k, S (spC T (L.take k) X).1
 | 0 => h0
 | k + 1 => by
  have ih := spC_ind T L X S h0 h k
  by_cases e : k < L.length
  ·rw [spC_take T L X k e]
   exact h _ _ (by simp [List.getD, e]) ih
  ·rw [List.take_of_length_le (by omega)] at ih ⊢
   exact ih
theorem spC_all (T : Ro) (L : List Int) (X : Tb) (S : Tb → Prop) (h0 : S X) (h : ∀ s q, q ∈ L → S s.1 → S (spC1 T s q).1) : S (spC T L X).1 := by
 have := spC_ind T L X S h0 h L.length
 rwa [List.take_length] at this
theorem X0C_at (n R i : Nat) (hn : 0 < n) : (X0C n R).getD i none = if i = 0 then some (roNo R) else none := by
 unfold X0C
 by_cases e : i = 0
 ·subst e; rw [if_pos rfl]; simp [List.getD, tbNo, hn]
 ·rw [if_neg e]
  have : ((tbNo n).set 0 (some (roNo R))).getD i none = (tbNo n).getD i none := by simp [List.getD, List.getElem?_set, Ne.symm e]
  rw [this, tbNo_at]
theorem run_zero {p : Pr} {R : Nat} (h0 : 0 < p.blks.length) (hL : ∀ n, n < p.blks.length → ∀ q ∈ outsB (p.blks.getD n default), 0 ≤ q ∧ q < (p.blks.length : Int)) {od : List Int} (hod : ∀ n : Nat, (n : Int) ∈ od → n < p.blks.length) {X : Tb} (h : RunC p od (X0C p.blks.length R) X) : X.getD 0 none = some (roNo R) := by
 induction h with
 | start => rw [X0C_at _ _ _ h0, if_pos rfl]
 | step X n t _ hn ht ih =>
  refine spC_all _ _ X (fun Y => Y.getD 0 none = some (roNo R)) ih fun s q hq hs => ?_
  rw [spC1_zero _ _ _ (hL n (hod n hn) q hq).1]; exact hs
end Go.Proofs.Ytkhfddodmjnecaa
