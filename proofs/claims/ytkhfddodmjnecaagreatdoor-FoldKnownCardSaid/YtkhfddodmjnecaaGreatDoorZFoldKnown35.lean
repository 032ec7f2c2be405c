/-
 The document's rounds come to the end that the telling comes to, plain.; What is told in any order is what the document's rounds come to, plain.; What is told in any order is what the document's rounds come to: the two are the same, plain.; What is not reached hears nothing, plain.; Rows of the document (rushlightref17.Row) in memory.
-/
import Derived.Test.YtkhfddodmjnecaaGreatDoorZFoldKnown34
import Derived.Test.YtkhfddodmjnecaaGreatDoorZFoldKnown33

set_option linter.all false
namespace Go.Proofs.YtkhfddodmjnecaaGreatDoor
set_option linter.unusedVariables false

def LeT (X Y : Tb) : Prop := ∀ i, LeC (X.getD i none) (Y.getD i none)
theorem fold_le {p : Pr} {R : Nat} {X Y : Tb} (h : LeT X Y) (hX : LenC R X) : ∀ (l : List Int) (x y : Option Ro), (∀ a, x = some a → a.length = R) → LeC x y →
  LeC (l.foldl (fun x k => if (reachP p).getD k.toNat false = true then hearC x (X.getD k.toNat none) (p.blks.getD k.toNat default).ins else x) x) (l.foldl (fun x k => if (reachP p).getD k.toNat false = true then hearC x (Y.getD k.toNat none) (p.blks.getD k.toNat default).ins else x) y) ∧ (∀ a, l.foldl (fun x k => if (reachP p).getD k.toNat false = true then hearC x (X.getD k.toNat none) (p.blks.getD k.toNat default).ins else x) x = some a → a.length = R)
 | [], x, y, hx, hl => ⟨hl, hx⟩
 | k :: l, x, y, hx, hl => by
  rw [List.foldl_cons, List.foldl_cons]
  by_cases hr : (reachP p).getD k.toNat false = true
  ·rw [if_pos hr, if_pos hr]
   exact fold_le h hX l _ _ (hearC_len _ hx (hX k.toNat)) (hearC_le _ hx (hX k.toNat) hl (h k.toNat))
  ·rw [if_neg hr, if_neg hr]
   exact fold_le h hX l x y hx hl
theorem rdB_le {p : Pr} {R : Nat} {X Y : Tb} (h : LeT X Y) (hX : LenC R X) (n : Nat) : LeC (rdB p R X n) (rdB p R Y n) ∧ ∀ a, rdB p R X n = some a → a.length = R := by
 unfold rdB
 by_cases e : n = 0
 ·rw [if_pos e, if_pos e]
  exact ⟨LeC.refl _, fun a ha => by cases ha; exact roNo_len R⟩
 ·rw [if_neg e, if_neg e]
  exact fold_le h hX _ none none (fun a ha => by cases ha) True.intro
theorem rdC_at (p : Pr) (R : Nat) (X : Tb) (n : Nat) : (rdC p R X).getD n none = if n < p.blks.length then rdB p R X n else none := by
 unfold rdC
 by_cases h : n < p.blks.length
 ·rw [if_pos h]; simp [List.getD, h]
 ·rw [if_neg h]
  have : ((List.range p.blks.length).map (rdB p R X))[n]? = none := List.getElem?_eq_none (by simp; omega)
  rw [List.getD_eq_getElem?_getD, this]; rfl
theorem rdC_le {p : Pr} {R : Nat} {X Y : Tb} (h : LeT X Y) (hX : LenC R X) : LeT (rdC p R X) (rdC p R Y) ∧ LenC R (rdC p R X) := by
 constructor
 ·intro i
  rw [rdC_at, rdC_at]
  split
  ·exact (rdB_le h hX i).1
  ·exact True.intro
 ·intro i t ht
  rw [rdC_at] at ht
  split at ht
  ·exact (rdB_le h hX i).2 t ht
  ·cases ht
theorem rdN_len (p : Pr) (R : Nat) : ∀ k, (rdN p R k).length = p.blks.length
 | 0 => by simp [rdN]
 | k + 1 => by simp [rdN, rdC]
theorem rdN_zero (p : Pr) (R i : Nat) : (rdN p R 0).getD i none = none := by
 simp only [rdN, List.getD, List.getElem?_replicate]; split <;> rfl
theorem rdN_down (p : Pr) (R : Nat) : ∀ k, LeT (rdN p R (k + 1)) (rdN p R k) ∧ LenC R (rdN p R k)
 | 0 => ⟨fun i => by rw [rdN_zero]; exact True.intro, fun i t ht => by rw [rdN_zero] at ht; cases ht⟩
 | k + 1 => by
  have ih := rdN_down p R k
  have h2 := (rdC_le (p := p) (fun i => LeC.refl ((rdN p R k).getD i none)) ih.2).2
  exact ⟨(rdC_le (p := p) ih.1 h2).1, h2⟩
theorem LeR.few : ∀ {a b : Ro}, LeR a b → a.countP Option.isSome ≤ b.countP Option.isSome ∧ (a.countP Option.isSome = b.countP Option.isSome → a = b)
 | [], [], _ => ⟨Nat.le_refl _, fun _ => rfl⟩
 | [], _ :: _, h => by have := h.1; simp at this
 | _ :: _, [], h => by have := h.1; simp at this
 | x :: a, y :: b, h => by
  have ih := LeR.few (a := a) (b := b) ⟨by have := h.1; simpa using this, fun i => by have := h.2 (i + 1); simpa [List.getD] using this⟩
  have h0 := h.2 0
  simp only [List.getD_cons_zero] at h0
  simp only [List.countP_cons]
  rcases h0 with e | e
  ·subst e
   exact ⟨by omega, fun hh => by rw [ih.2 (by omega)]⟩
  ·subst e
   cases y with
   | none => exact ⟨by simp; omega, fun hh => by rw [ih.2 (by simpa using hh)]⟩
   | some v =>
    simp only [Option.isSome_none, Bool.false_eq_true, if_false, Option.isSome_some, if_true]
    exact ⟨by omega, fun hh => by omega⟩
theorem mu_le1 {R : Nat} {o q : Option Ro} (ho : ∀ t, o = some t → t.length = R) (h : LeC o q) : muR R o ≤ muR R q ∧ (muR R o = muR R q → o = q) := by
 cases q with
 | none =>
  cases o with
  | none => exact ⟨Nat.le_refl _, fun _ => rfl⟩
  | some t =>
   have h2 : t.countP Option.isSome ≤ t.length := List.countP_le_length
   have := ho t rfl
   simp only [muR]
   exact ⟨by omega, fun e => by omega⟩
 | some u =>
  cases o with
  | none => exact h.elim
  | some t =>
   have := LeR.few h
   simp only [muR]
   exact ⟨this.1, fun e => by rw [this.2 e]⟩
theorem mu_le {R : Nat} : ∀ {X Y : Tb}, X.length = Y.length → LenC R X → LeT X Y → muC R X ≤ muC R Y ∧ (muC R X = muC R Y → X = Y)
 | [], [], _, _, _ => ⟨Nat.le_refl _, fun _ => rfl⟩
 | [], _ :: _, h, _, _ => by simp at h
 | _ :: _, [], h, _, _ => by simp at h
 | x :: X, y :: Y, hl, hX, h => by
  have ih := mu_le (R := R) (X := X) (Y := Y) (by simpa using hl) (fun i t ht => hX (i + 1) t (by simpa [List.getD] using ht)) (fun i => by have := h (i + 1); simpa [List.getD] using this)
  have h0 := mu_le1 (R := R) (o := x) (q := y) (fun t ht => hX 0 t (by simpa [List.getD] using ht)) (by have := h 0; simpa [List.getD] using this)
  simp only [muC, List.map_cons, List.sum_cons] at ih ⊢
  exact ⟨by omega, fun e => by rw [h0.2 (by omega), ih.2 (by omega)]⟩
theorem rdN_stop (p : Pr) (R : Nat) : ∀ k, rdN p R (k + 1) = rdN p R k ∨ muC R (rdN p R (k + 1)) + k + 1 ≤ muC R (rdN p R 0)
 | 0 => by
  have h := mu_le (R := R) (by rw [rdN_len, rdN_len]) (rdN_down p R 1).2 (rdN_down p R 0).1
  by_cases e : muC R (rdN p R 1) = muC R (rdN p R 0)
  ·exact .inl (h.2 e)
  ·exact .inr (by have := h.1; show muC R (rdN p R 1) + 0 + 1 ≤ _; omega)
 | k + 1 => by
  have h := mu_le (R := R) (by rw [rdN_len, rdN_len]) (rdN_down p R (k + 2)).2 (rdN_down p R (k + 1)).1
  rcases rdN_stop p R k with e | e
  ·left
   show rdC p R (rdN p R (k + 1)) = rdC p R (rdN p R k)
   rw [e]
  ·by_cases e2 : muC R (rdN p R (k + 2)) = muC R (rdN p R (k + 1))
   ·exact .inl (h.2 e2)
   ·exact .inr (by have := h.1; show muC R (rdN p R (k + 2)) + (k + 1) + 1 ≤ _; omega)
theorem mu_zero (p : Pr) (R : Nat) : muC R (rdN p R 0) = p.blks.length * (R + 1) := by
 simp [muC, rdN, muR]
theorem rdN_still (p : Pr) (R k : Nat) (h : p.blks.length * (R + 1) ≤ k) : rdN p R (k + 1) = rdN p R k := by
 rcases rdN_stop p R k with e | e
 ·exact e
 ·rw [mu_zero] at e; omega
/-- who hears of a block -/
theorem fold_hears {p : Pr} {R : Nat} {X : Tb} (hX : LenC R X) {k : Int} {t : Ro} (hr : (reachP p).getD k.toNat false = true) (ht : X.getD k.toNat none = some t) : ∀ (l : List Int) (x : Option Ro), (∀ a, x = some a → a.length = R) → (k ∈ l ∨ LeC x (some (thrC t (p.blks.getD k.toNat default).ins))) →
  LeC (l.foldl (fun x k => if (reachP p).getD k.toNat false = true then hearC x (X.getD k.toNat none) (p.blks.getD k.toNat default).ins else x) x) (some (thrC t (p.blks.getD k.toNat default).ins))
 | [], x, hx, h => by
  rcases h with h | h
  ·cases h
  ·exact h
 | q :: l, x, hx, h => by
  rw [List.foldl_cons]
  have hlen : ∀ a, (if (reachP p).getD q.toNat false = true then hearC x (X.getD q.toNat none) (p.blks.getD q.toNat default).ins else x) = some a → a.length = R := by
   split
   ·exact hearC_len _ hx (hX q.toNat)
   ·exact hx
  refine fold_hears hX hr ht l _ hlen ?_
  by_cases hq : q = k
  ·right
   subst hq
   rw [if_pos hr, ht]
   cases x with
   | none => exact LeR.refl _
   | some a => exact meetC_right a _ (by rw [thrC_len, hx a rfl, hX _ t ht])
  ·rcases h with h | h
   ·left
    rcases List.mem_cons.1 h with e | e
    ·exact absurd e.symm hq
    ·exact e
   ·right
    split
    ·cases x with
     | none => exact h.elim
     | some a =>
      cases X.getD q.toNat none with
      | none => exact h
      | some u => exact LeR.trans (meetC_left a _) h
    ·exact h
end Go.Proofs.YtkhfddodmjnecaaGreatDoor

set_option linter.all false
namespace Go.Proofs.YtkhfddodmjnecaaGreatDoor
set_option linter.unusedVariables false

theorem fold_above {p : Pr} {X : Tb} {g : Option Ro} : ∀ (l : List Int) (x : Option Ro), LeC g x → (∀ k ∈ l, (reachP p).getD k.toNat false = true → ∀ t, X.getD k.toNat none = some t → LeC g (some (thrC t (p.blks.getD k.toNat default).ins))) →
  LeC g (l.foldl (fun x k => if (reachP p).getD k.toNat false = true then hearC x (X.getD k.toNat none) (p.blks.getD k.toNat default).ins else x) x)
 | [], x, hx, _ => hx
 | q :: l, x, hx, h => by
  rw [List.foldl_cons]
  refine fold_above l _ ?_ fun k hk => h k (List.mem_cons_of_mem _ hk)
  split
  ·have hq := h q List.mem_cons_self ‹_›
   cases ht : X.getD q.toNat none with
   | none => exact hx
   | some t =>
    have h1 := hq t ht
    cases x with
    | none => exact h1
    | some a =>
     cases g with
     | none => exact h1.elim
     | some g => exact le_meetC hx h1
  ·exact hx
theorem spC1_news (T : Ro) (s : Tb × Bool) (q : Int) (h : (spC1 T s q).2 = false) : s.2 = false := by
 unfold spC1 at h
 split at h
 ·exact h
 ·split at h
  ·cases h
  ·exact (Bool.or_eq_false_iff.1 h).2
theorem spC_news (T : Ro) (L : List Int) (X : Tb) : ∀ j k, (spC T (L.take (k + j)) X).2 = false → (spC T (L.take k) X).2 = false
 | 0, _, h => h
 | j + 1, k, h => by
  refine spC_news T L X j k ?_
  by_cases e : k + j < L.length
  ·rw [← Nat.add_assoc, spC_take T L X (k + j) e] at h
   exact spC1_news _ _ _ h
  ·rw [List.take_of_length_le (by omega)] at h ⊢
   exact h
theorem still_le {R : Nat} {T : Ro} {L : List Int} {X : Tb} (hL : ∀ q ∈ L, 0 ≤ q ∧ q < (X.length : Int)) (hT : T.length = R) (hX : LenC R X) (h : spC T L X = (X, false)) {q : Int} (hq : q ∈ L) (h0 : q ≠ 0) : LeC (X.getD q.toNat none) (some T) := by
 obtain ⟨k, hk, rfl⟩ := List.getElem_of_mem hq
 have pre : ∀ j, j ≤ L.length → spC T (L.take j) X = (X, false) := fun j hj => by
  rcases (spC_mu R T L X hL hT hX j).1 with e | ⟨e, -⟩
  ·exact e
  ·have := spC_news T L X (L.length - j) j (by rw [show j + (L.length - j) = L.length by omega, List.take_length, h])
   rw [this] at e; cases e
 have h1 := pre (k + 1) (by omega)
 rw [spC_take T L X k hk, pre k (by omega)] at h1
 have hg : L.getD k 0 = L[k] := by simp [List.getD, hk]
 rw [hg] at h1
 unfold spC1 at h1
 rw [if_neg h0] at h1
 dsimp only at h1
 cases ho : X.getD (L[k]).toNat none with
 | none => rw [ho] at h1; simp at h1
 | some o =>
  rw [ho] at h1
  simp only [Prod.mk.injEq, Bool.or_false] at h1
  have := wentC_no h1.2
  have h2 := meetC_right o T ((hX _ o ho).trans hT.symm)
  rw [this] at h2
  exact h2
theorem spC1_zero (T : Ro) (s : Tb × Bool) (q : Int) (hq : 0 ≤ q) : (spC1 T s q).1.getD 0 none = s.1.getD 0 none := by
 unfold spC1
 split
 ·rfl
 ·have : q.toNat ≠ 0 := by omega
  split <;> simp [List.getD, List.getElem?_set, this]
theorem spC_ind (T : Ro) (L : List Int) (X : Tb) (S : Tb → Prop) (h0 : S X) (h : ∀ s q, q ∈ L → S s.1 → S (spC1 T s q).1) : ∀ k, S (spC T (L.take k) X).1
 | 0 => h0
 | k + 1 => by
  have ih := spC_ind T L X S h0 h k
  by_cases e : k < L.length
  ·rw [spC_take T L X k e]
   exact h _ _ (by simp [List.getD, e]) ih
  ·rw [List.take_of_length_le (by omega)] at ih ⊢
   exact ih
theorem spC_all (T : Ro) (L : List Int) (X : Tb) (S : Tb → Prop) (h0 : S X) (h : ∀ s q, q ∈ L → S s.1 → S (spC1 T s q).1) : S (spC T L X).1 := by
 have := spC_ind T L X S h0 h L.length
 rwa [List.take_length] at this
theorem X0C_at (n R i : Nat) (hn : 0 < n) : (X0C n R).getD i none = if i = 0 then some (roNo R) else none := by
 unfold X0C
 by_cases e : i = 0
 ·subst e; rw [if_pos rfl]; simp [List.getD, tbNo, hn]
 ·rw [if_neg e]
  have : ((tbNo n).set 0 (some (roNo R))).getD i none = (tbNo n).getD i none := by simp [List.getD, List.getElem?_set, Ne.symm e]
  rw [this, tbNo_at]
theorem run_zero {p : Pr} {R : Nat} (h0 : 0 < p.blks.length) (hL : ∀ n, n < p.blks.length → ∀ q ∈ outsB (p.blks.getD n default), 0 ≤ q ∧ q < (p.blks.length : Int)) {od : List Int} (hod : ∀ n : Nat, (n : Int) ∈ od → n < p.blks.length) {X : Tb} (h : RunC p od (X0C p.blks.length R) X) : X.getD 0 none = some (roNo R) := by
 induction h with
 | start => rw [X0C_at _ _ _ h0, if_pos rfl]
 | step X n t _ hn ht ih =>
  refine spC_all _ _ X (fun Y => Y.getD 0 none = some (roNo R)) ih fun s q hq hs => ?_
  rw [spC1_zero _ _ _ (hL n (hod n hn) q hq).1]; exact hs
end Go.Proofs.YtkhfddodmjnecaaGreatDoor

set_option linter.all false
namespace Go.Proofs.YtkhfddodmjnecaaGreatDoor
set_option linter.unusedVariables false

theorem preds_mem {p : Pr} {q k : Int} (h : k ∈ predsP p q) : ∃ n : Nat, k = (n : Int) ∧ n < p.blks.length ∧ q ∈ outsB (p.blks.getD n default) := by
 unfold predsP at h
 rw [List.mem_map] at h
 obtain ⟨n, hn, rfl⟩ := h
 rw [List.mem_filter, List.mem_range, hasL_iff] at hn
 refine ⟨n, rfl, hn.1, ?_⟩
 have := hn.2
 unfold outsP at this
 exact (List.mem_filter.1 this).1
theorem mem_preds {p : Pr} {q : Int} {n : Nat} (hn : n < p.blks.length) (hq : q ∈ outsB (p.blks.getD n default)) (h0 : 0 ≤ q) (h1 : q < (p.blks.length : Int)) : (n : Int) ∈ predsP p q := by
 unfold predsP
 rw [List.mem_map]
 refine ⟨n, ?_, rfl⟩
 rw [List.mem_filter, List.mem_range, hasL_iff]
 refine ⟨hn, ?_⟩
 unfold outsP
 rw [List.mem_filter]
 exact ⟨hq, by simp [h0, h1]⟩
section
variable {p : Pr} {R : Nat} (h0 : 0 < p.blks.length) (hL : ∀ n, n < p.blks.length → ∀ q ∈ outsB (p.blks.getD n default), 0 ≤ q ∧ q < (p.blks.length : Int))
include h0 hL
theorem run_down {G : Tb} (hG : rdC p R G = G) (hGl : LenC R G) {X : Tb} (h : RunC p (wkD p).ord.reverse (X0C p.blks.length R) X) : LeT G X := by
 have hat : ∀ i, i < p.blks.length → G.getD i none = rdB p R G i := fun i hi => by
  have := rdC_at p R G i
  rw [hG, if_pos hi] at this
  exact this
 induction h with
 | start =>
  intro i
  rw [X0C_at _ _ _ h0]
  by_cases e : i = 0
  ·subst e
   rw [if_pos rfl, hat 0 h0]
   unfold rdB
   rw [if_pos rfl]
   exact LeC.refl _
  ·rw [if_neg e]; exact True.intro
 | step X n t _ hn ht ih =>
  have hm : (n : Int) ∈ (wkD p).ord := List.mem_reverse.1 hn
  have hnl : n < p.blks.length := by have := wkD_ord p _ hm; omega
  have hr : (reachP p).getD n false = true := by rw [reachP_get p n hnl, hasL_iff]; exact hm
  have hgn := ih n
  rw [ht] at hgn
  obtain ⟨g, hg⟩ : ∃ g, G.getD n none = some g := by
   cases hx : G.getD n none with
   | none => rw [hx] at hgn; exact hgn.elim
   | some g => exact ⟨g, rfl⟩
  rw [hg] at hgn
  have key : ∀ q ∈ outsB (p.blks.getD n default), q ≠ 0 → LeC (G.getD q.toNat none) (some (thrC t (p.blks.getD n default).ins)) := fun q hq hq0 => by
   obtain ⟨a0, a1⟩ := hL n hnl q hq
   obtain ⟨m, rfl⟩ := Int.eq_ofNat_of_zero_le a0
   have hm0 : m ≠ 0 := by omega
   rw [Int.toNat_natCast, hat m (by omega)]
   unfold rdB
   rw [if_neg hm0]
   refine LeC.trans (fold_hears (p := p) (R := R) hGl (k := (n : Int)) (t := g) (by rw [Int.toNat_natCast]; exact hr) (by rw [Int.toNat_natCast]; exact hg) _ none (fun a ha => by cases ha) (.inl (mem_preds hnl hq a0 a1))) ?_
   rw [Int.toNat_natCast]
   exact thrC_le _ hgn
  refine spC_all _ _ X (fun Y => LeT G Y) ih fun s q hq hs => ?_
  unfold spC1
  split
  ·exact hs
  ·rename_i hq0
   have hk := key q hq hq0
   split
   ·intro i
    by_cases e : i = q.toNat
    ·subst e
     by_cases hl : q.toNat < s.1.length
     ·rw [show (s.1.set q.toNat (some (thrC t (p.blks.getD n default).ins))).getD q.toNat none = some (thrC t (p.blks.getD n default).ins) by simp [List.getD, hl]]
      exact hk
     ·have : (s.1.set q.toNat (some (thrC t (p.blks.getD n default).ins)))[q.toNat]? = none := List.getElem?_eq_none (by simp; omega)
      rw [List.getD_eq_getElem?_getD (l := s.1.set _ _), this]
      exact True.intro
    ·rw [show (s.1.set q.toNat (some (thrC t (p.blks.getD n default).ins))).getD i none = s.1.getD i none by simp [List.getD, List.getElem?_set, Ne.symm e]]
     exact hs i
   ·rename_i o ho
    intro i
    by_cases e : i = q.toNat
    ·subst e
     have hso := hs q.toNat
     rw [ho] at hso
     by_cases hl : q.toNat < s.1.length
     ·rw [show (s.1.set q.toNat (some (meetC o (thrC t (p.blks.getD n default).ins)))).getD q.toNat none = some (meetC o (thrC t (p.blks.getD n default).ins)) by simp [List.getD, hl]]
      cases hx : G.getD q.toNat none with
      | none => rw [hx] at hso; exact hso.elim
      | some y =>
       rw [hx] at hso hk
       exact le_meetC hso hk
     ·have : (s.1.set q.toNat (some (meetC o (thrC t (p.blks.getD n default).ins))))[q.toNat]? = none := List.getElem?_eq_none (by simp; omega)
      rw [List.getD_eq_getElem?_getD (l := s.1.set _ _), this]
      exact True.intro
    ·rw [show (s.1.set q.toNat (some (meetC o (thrC t (p.blks.getD n default).ins)))).getD i none = s.1.getD i none by simp [List.getD, List.getElem?_set, Ne.symm e]]
     exact hs i
theorem run_up {X : Tb} (hl : X.length = p.blks.length) (hX : LenC R X) (h : RunC p (wkD p).ord.reverse (X0C p.blks.length R) X) (hs : ∀ n : Nat, (n : Int) ∈ (wkD p).ord.reverse → StillC p X n) : ∀ k, LeT X (rdN p R k)
 | 0 => fun i => by rw [rdN_zero]; exact True.intro
 | k + 1 => by
  have ih := run_up hl hX h hs k
  have h1 : LeT X (rdC p R X) := fun i => by
   rw [rdC_at]
   split
   ·rename_i hi
    unfold rdB
    split
    ·rename_i e
     subst e
     rw [run_zero h0 hL (fun n hn => by have := wkD_ord p _ (List.mem_reverse.1 hn); omega) h]
     exact LeC.refl _
    ·rename_i e
     refine fold_above _ none True.intro fun q hq hr t ht => ?_
     obtain ⟨n, rfl, hn, hqo⟩ := preds_mem hq
     rw [Int.toNat_natCast] at hr ht ⊢
     rw [reachP_get p n hn, hasL_iff] at hr
     have hst := hs n (List.mem_reverse.2 hr) t ht
     have := still_le (R := R) (by rw [hl]; exact hL n hn) (by rw [thrC_len]; exact hX n t ht) hX hst hqo (by omega)
     rw [Int.toNat_natCast] at this
     exact this
   ·rename_i hi
    exact True.intro
  intro i
  exact (h1 i).trans ((rdC_le (p := p) ih hX).1 i)
theorem run_rounds {X : Tb} (hl : X.length = p.blks.length) (hX : LenC R X) (h : RunC p (wkD p).ord.reverse (X0C p.blks.length R) X) (hs : ∀ n : Nat, (n : Int) ∈ (wkD p).ord.reverse → StillC p X n) {k : Nat} (hk : p.blks.length * (R + 1) ≤ k) : X = rdN p R k := by
 have hG : rdC p R (rdN p R k) = rdN p R k := rdN_still p R k hk
 have a := run_down h0 hL hG (rdN_down p R k).2 h
 have b := run_up h0 hL hl hX h hs k
 refine List.ext_getElem (by rw [hl, rdN_len]) fun i h1 h2 => ?_
 have := LeC.anti (b i) (a i)
 simpa [List.getD, h1, h2] using this
end
end Go.Proofs.YtkhfddodmjnecaaGreatDoor

set_option linter.all false
namespace Go.Proofs.YtkhfddodmjnecaaGreatDoor
set_option linter.unusedVariables false

theorem run_reach {p : Pr} {R : Nat} (h0 : 0 < p.blks.length) (hL : ∀ n, n < p.blks.length → ∀ q ∈ outsB (p.blks.getD n default), 0 ≤ q ∧ q < (p.blks.length : Int)) {X : Tb} (h : RunC p (wkD p).ord.reverse (X0C p.blks.length R) X) :
  ∀ i t, X.getD i none = some t → ((i : Nat) : Int) ∈ (wkD p).ord := by
 induction h with
 | start =>
  intro i t e
  rw [X0C_at _ _ _ h0] at e
  split at e
  ·rename_i e2
   subst e2
   exact ord_zero p h0
  ·cases e
 | step X n t hrun hn ht ih =>
  have hm : (n : Int) ∈ (wkD p).ord := List.mem_reverse.1 hn
  have hnl : n < p.blks.length := by have := wkD_ord p _ hm; omega
  refine spC_all _ _ X (fun Y => ∀ i t, Y.getD i none = some t → ((i : Nat) : Int) ∈ (wkD p).ord) ih fun s q hq hs => ?_
  obtain ⟨a0, a1⟩ := hL n hnl q hq
  have hqo : q ∈ (wkD p).ord := ord_closed p h0 hm (by
   rw [Int.toNat_natCast]
   unfold outsP
   rw [List.mem_filter]
   exact ⟨hq, by simp [a0, a1]⟩)
  have set : ∀ a i u, (s.1.set q.toNat a).getD i none = some u → ((i : Nat) : Int) ∈ (wkD p).ord := fun a i u e => by
   by_cases e2 : i = q.toNat
   ·subst e2
    rw [Int.toNat_of_nonneg a0]; exact hqo
   ·rw [show (s.1.set q.toNat a).getD i none = s.1.getD i none by simp [List.getD, List.getElem?_set, Ne.symm e2]] at e
    exact hs i u e
  unfold spC1
  split
  ·exact hs
  ·split
   ·exact set _
   ·exact set _
/-- what the document's rounds leave at last -/
def endC (p : Pr) (R : Nat) (X : Tb) (i : Nat) : Ro := if (reachP p).getD i false = true then (X.getD i none).getD (roNo R) else roNo R
theorem run_end {p : Pr} {R : Nat} (h0 : 0 < p.blks.length) (hL : ∀ n, n < p.blks.length → ∀ q ∈ outsB (p.blks.getD n default), 0 ≤ q ∧ q < (p.blks.length : Int)) {X : Tb} (h : RunC p (wkD p).ord.reverse (X0C p.blks.length R) X) {i : Nat} (hi : i < p.blks.length) : (X.getD i none).getD (roNo R) = endC p R X i := by
 unfold endC
 split
 ·rfl
 ·rename_i hr
  cases e : X.getD i none with
  | none => rfl
  | some t =>
   have := run_reach h0 hL h i t e
   rw [reachP_get p i hi, hasL_iff] at hr
   exact absurd this hr
end Go.Proofs.YtkhfddodmjnecaaGreatDoor

set_option linter.all false
namespace Go.Proofs.YtkhfddodmjnecaaGreatDoor
open Go.ChangeShapes Go.WideShapes Go.ChangeAt Go.RowKit
set_option maxHeartbeats 4000000
set_option maxRecDepth 100000
set_option linter.unusedVariables false

/-- a slice that can be read, one cell an element -/
def RdVs (w : World) (v : Value) (xs : List Value) : Prop := ∃ a c, v = .slice a xs.length c ∧ xs.length ≤ c ∧ c ≤ maxLen ∧ ∀ i, i < xs.length → ∃ b o, a = some ⟨b, o, none⟩ ∧ w.cell? ⟨b, o + i, none⟩ = xs[i]?
theorem RdVs.ext {w w' : World} {v : Value} {xs : List Value} (h : RdVs w v xs) (he : Ext w w') : RdVs w' v xs := by
 obtain ⟨a, c, e, h1, h2, h3⟩ := h
 refine ⟨a, c, e, h1, h2, fun i hi => ?_⟩
 obtain ⟨b, o, e1, e2⟩ := h3 i hi
 refine ⟨b, o, e1, ?_⟩
 rw [List.getElem?_eq_getElem hi] at e2 ⊢
 exact he _ _ e2
def hasV (t : Ro) : List Value := t.map fun o => .bool o.isSome
def numV (t : Ro) : List Value := t.map fun o => .int .u32 (o.getD 0)
/-- a row of the document; none: nothing is known -/
def RwV (w : World) (v : Value) (o : Option Ro) : Prop := ∃ vh vn, v = .agg #[.bool o.isSome, vh, vn] ∧ RdVs w vh (hasV (o.getD [])) ∧ RdVs w vn (numV (o.getD []))
theorem RwV.ext {w w' : World} {v : Value} {o : Option Ro} (h : RwV w v o) (he : Ext w w') : RwV w' v o := by
 obtain ⟨vh, vn, e, h1, h2⟩ := h
 exact ⟨vh, vn, e, h1.ext he, h2.ext he⟩
theorem own_rdVs {w : World} {B : Nat} {e : TypeId} {v : Value} {xs : List Value} (h : w.ownsRow B e 1 v xs.length xs) : RdVs w v xs := by
 have h' := h
 obtain ⟨-, ⟨rfl, e2⟩ | ⟨g, cap, cur, rfl, -, -, h1, h2, -⟩⟩ := h
 ·exact ⟨none, 0, by rw [e2], by omega, by decide, fun i hi => by omega⟩
 ·refine ⟨some ⟨g, 0, none⟩, cap, rfl, h1, h2, fun i hi => ⟨g, 0, rfl, ?_⟩⟩
  rw [Nat.zero_add]
  exact World.ownsRow.cellAt h' i (by omega)
end Go.Proofs.YtkhfddodmjnecaaGreatDoor
