/-
 What a walk through the blocks gathers: an order, and which ends lead back in it; and that it reaches what a closure reaches (plain lists).
-/
import Derived.Test.YtkhfddodmjnecaaGreatDoorZFoldKnown09
set_option linter.all false
namespace Go.Proofs.YtkhfddodmjnecaaGreatDoor
open Go Go.RowKit
theorem look_set (l : List Int) (n x v : Int) (h : n.toNat < l.length) : (l.set n.toNat v).getD x.toNat 0 = if x.toNat = n.toNat then v else l.getD x.toNat 0 := by
 simp only [List.getD, List.getElem?_set]
 by_cases e : n.toNat = x.toNat
 ·rw [if_pos e, if_pos h, if_pos e.symm]; rfl
 ·rw [if_neg e, if_neg (Ne.symm e)]
theorem look_enter {s : S3} {n : Int} (h : n.toNat < s.st.length) (x : Int) : (s.enter n).look x = if x.toNat = n.toNat then 1 else s.look x := look_set s.st n x 1 h
theorem look_leave {s : S3} {n : Int} (h : n.toNat < s.st.length) (x : Int) : (s.leave n).look x = if x.toNat = n.toNat then 2 else s.look x := look_set s.st n x 2 h
theorem look_loop (s : S3) (n t x : Int) : (s.loop n t).look x = s.look x := rfl
/-- what holds of a walk that has come so far -/
structure DI (p : Pr) (s : S3) : Prop where
 len : s.st.length = p.blks.length
 tri : ∀ x, s.look x = 0 ∨ s.look x = 1 ∨ s.look x = 2
 bk : ∀ y t, (y, t) ∈ s.back → 0 ≤ y ∧ s.look y ≠ 0
 od : ∀ x, x ∈ s.ord ↔ 0 ≤ x ∧ x < p.blks.length ∧ s.look x = 2
 nd : s.ord.Nodup
 ed : ∀ i, i < s.ord.length → ∀ t ∈ outsP p (s.ord.getD i 0).toNat, ((s.ord.getD i 0, t) ∈ s.back ↔ t ∉ s.ord.take i)
 out : ∀ x ∈ s.ord, ∀ t ∈ outsP p x.toNat, s.look t ≠ 0
/-- what a piece of a walk leaves alone -/
structure DR (E : Int → Prop) (s s' : S3) : Prop where
 grey : ∀ x, s'.look x = 1 → s.look x = 1
 keep : ∀ x, s.look x ≠ 0 → s'.look x = s.look x
 ord : ∃ l, s'.ord = s.ord ++ l
 back1 : ∀ e ∈ s.back, e ∈ s'.back
 back2 : ∀ y t, (y, t) ∈ s'.back → (y, t) ∈ s.back ∨ s.look y = 0 ∨ E y
theorem DR.refl (E : Int → Prop) (s : S3) : DR E s s := ⟨fun _ h => h, fun _ _ => rfl, ⟨[], by simp⟩, fun _ h => h, fun _ _ h => .inl h⟩
theorem DR.trans {E : Int → Prop} {s s' s'' : S3} (h : DR E s s') (k : DR E s' s'') : DR E s s'' := by
 obtain ⟨l, hl⟩ := h.ord
 obtain ⟨l', hl'⟩ := k.ord
 refine ⟨fun x hx => h.grey x (k.grey x hx), fun x hx => ?_, ⟨l ++ l', by rw [hl', hl, List.append_assoc]⟩, fun e he => k.back1 e (h.back1 e he), fun y t hy => ?_⟩
 ·rw [k.keep x (by rw [h.keep x hx]; exact hx), h.keep x hx]
 ·rcases k.back2 y t hy with hy | hy | hy
  ·exact h.back2 y t hy
  ·right; left
   rcases Decidable.em (s.look y = 0) with e | e
   ·exact e
   ·rw [h.keep y e] at hy; exact absurd hy e
  ·exact .inr (.inr hy)
theorem DR.weak {E : Int → Prop} {s s' : S3} (h : DR (fun _ => False) s s') : DR E s s' :=
 ⟨h.grey, h.keep, h.ord, h.back1, fun y t hy => by
   rcases h.back2 y t hy with k | k | k
   ·exact .inl k
   ·exact .inr (.inl k)
   ·exact k.elim⟩
theorem DI.enter {p : Pr} {s : S3} {n : Int} (h : DI p s) (h0 : 0 ≤ n) (h1 : n < p.blks.length) (hn : s.look n = 0) : DI p (s.enter n) := by
 have hl : n.toNat < s.st.length := by rw [h.len]; omega
 refine ⟨by rw [enter_len]; exact h.len, fun x => ?_, fun y t hy => ⟨(h.bk y t hy).1, ?_⟩, fun x => ?_, h.nd, h.ed, fun x hx t ht => ?_⟩
 ·rw [look_enter hl]; split
  ·exact .inr (.inl rfl)
  ·exact h.tri x
 ·rw [look_enter hl]; split
  ·decide
  ·exact (h.bk y t hy).2
 ·rw [look_enter hl]
  show x ∈ s.ord ↔ _
  rw [h.od]
  by_cases e : x.toNat = n.toNat
  ·rw [if_pos e]
   constructor
   ·rintro ⟨a, b, c⟩
    obtain rfl : x = n := by omega
    omega
   ·rintro ⟨-, -, c⟩; exact absurd c (by decide)
  ·rw [if_neg e]
 ·rw [look_enter hl]; split
  ·decide
  ·exact h.out x hx t ht
theorem mem_snoc_pair {l : List (Int × Int)} {y t n u : Int} : (y, t) ∈ l ++ [(n, u)] ↔ (y, t) ∈ l ∨ y = n ∧ t = u := by
 rw [List.mem_append, List.mem_singleton, Prod.mk.injEq]
theorem DI.loop {p : Pr} {s : S3} {n t : Int} (h : DI p s) (h0 : 0 ≤ n) (hn : s.look n = 1) : DI p (s.loop n t) := by
 have hno : n ∉ s.ord := fun hm => by have := ((h.od n).1 hm).2.2; omega
 refine ⟨h.len, h.tri, fun y u hy => ?_, h.od, h.nd, fun i hi u hu => ?_, h.out⟩
 ·rcases mem_snoc_pair.1 hy with hy | ⟨rfl, -⟩
  ·exact h.bk y u hy
  ·exact ⟨h0, by rw [look_loop, hn]; decide⟩
 ·refine Iff.trans ?_ (h.ed i hi u hu)
  show (s.ord.getD i 0, u) ∈ s.back ++ [(n, t)] ↔ _
  rw [mem_snoc_pair]
  refine ⟨fun hx => hx.resolve_right fun hx => hno ?_, .inl⟩
  have hi' : i < s.ord.length := hi
  rw [← hx.1]
  simp [List.getD, hi']
theorem foldl_all (p : Pr) (f : Nat) (IH : ∀ (n : Int) (s : S3), DI p s → 0 ≤ n → n < p.blks.length → s.look n = 0 → s.zeros ≤ f → DI p (rI p f n s) ∧ DR (fun _ => False) s (rI p f n s) ∧ (rI p f n s).look n = 2) (n : Int) (h0 : 0 ≤ n) :
  ∀ (l : List Int) (s : S3), (∀ t ∈ l, 0 ≤ t ∧ t < p.blks.length) → DI p s → s.look n = 1 → s.zeros ≤ f → (∀ t, (n, t) ∈ s.back → s.look t = 1) →
   DI p (l.foldl (hI p f n) s) ∧ DR (· = n) s (l.foldl (hI p f n) s) ∧ (∀ t, (n, t) ∈ (l.foldl (hI p f n) s).back → (l.foldl (hI p f n) s).look t = 1) ∧
    ∀ t ∈ l, (l.foldl (hI p f n) s).look t ≠ 0 ∧ ((l.foldl (hI p f n) s).look t = 1 → (n, t) ∈ (l.foldl (hI p f n) s).back) := by
 intro l
 induction l with
 | nil => intro s _ h _ _ hG; exact ⟨h, DR.refl _ _, hG, fun t ht => absurd ht List.not_mem_nil⟩
 | cons t l ihl =>
  intro s hin h hn hz hG
  have ht := hin t List.mem_cons_self
  have step : DI p (hI p f n s t) ∧ DR (· = n) s (hI p f n s t) ∧ (∀ u, (n, u) ∈ (hI p f n s t).back → (hI p f n s t).look u = 1) ∧ (hI p f n s t).look t ≠ 0 ∧ ((hI p f n s t).look t = 1 → (n, t) ∈ (hI p f n s t).back) := by
   unfold hI
   split
   ·rename_i e
    refine ⟨h.loop h0 hn, ⟨fun x hx => hx, fun x _ => rfl, ⟨[], by simp [S3.loop]⟩, fun e he => List.mem_append_left _ he, fun y u hy => ?_⟩, fun u hu => ?_, by rw [look_loop, e]; decide, fun _ => mem_snoc_pair.2 (.inr ⟨rfl, rfl⟩)⟩
    ·rcases mem_snoc_pair.1 hy with hy | ⟨rfl, -⟩
     ·exact .inl hy
     ·exact .inr (.inr rfl)
    ·rcases mem_snoc_pair.1 hu with hu | ⟨-, rfl⟩
     ·exact hG u hu
     ·exact e
   ·split
    ·rename_i e
     obtain ⟨a, b, c⟩ := IH t s h ht.1 ht.2 e hz
     refine ⟨a, b.weak, fun u hu => ?_, by rw [c]; decide, fun k => by rw [c] at k; exact absurd k (by decide)⟩
     rcases b.back2 n u hu with hu | hu | hu
     ·rw [b.keep u (by rw [hG u hu]; decide)]; exact hG u hu
     ·rw [hn] at hu; exact absurd hu (by decide)
     ·exact hu.elim
    ·exact ⟨h, DR.refl _ _, hG, ‹_›, fun k => absurd k ‹_›⟩
  obtain ⟨a, b, c, d1, d2⟩ := step
  have hn' : (hI p f n s t).look n = 1 := by rw [b.keep n (by rw [hn]; decide), hn]
  obtain ⟨a', b', c', d'⟩ := ihl (hI p f n s t) (fun u hu => hin u (List.mem_cons_of_mem _ hu)) a hn' (Nat.le_trans (hI_zeros p f n s t) hz) c
  rw [List.foldl_cons]
  refine ⟨a', b.trans b', c', fun u hu => ?_⟩
  rcases List.mem_cons.1 hu with rfl | hu
  ·rw [b'.keep u d1]
   exact ⟨d1, fun k => b'.back1 _ (d2 k)⟩
  ·exact d' u hu
theorem getD_append_lt (l l' : List Int) (i : Nat) (h : i < l.length) : (l ++ l').getD i 0 = l.getD i 0 := by simp [List.getD, List.getElem?_append, h]
theorem DI.leave {p : Pr} {s : S3} {n : Int} (h : DI p s) (h0 : 0 ≤ n) (h1 : n < p.blks.length) (hn : s.look n = 1) (hG : ∀ t, (n, t) ∈ s.back → s.look t = 1) (ho : ∀ t ∈ outsP p n.toNat, s.look t ≠ 0 ∧ (s.look t = 1 → (n, t) ∈ s.back)) : DI p (s.leave n) := by
 have hl : n.toNat < s.st.length := by rw [h.len]; omega
 have hno : n ∉ s.ord := fun hm => by have := ((h.od n).1 hm).2.2; omega
 refine ⟨by rw [leave_len]; exact h.len, fun x => ?_, fun y t hy => ⟨(h.bk y t hy).1, ?_⟩, fun x => ?_, ?_, fun i hi t ht => ?_, fun x hx t ht => ?_⟩
 ·rw [look_leave hl]; split
  ·exact .inr (.inr rfl)
  ·exact h.tri x
 ·rw [look_leave hl]; split
  ·decide
  ·exact (h.bk y t hy).2
 ·rw [look_leave hl]
  show x ∈ s.ord ++ [n] ↔ _
  rw [List.mem_append, List.mem_singleton, h.od]
  by_cases e : x.toNat = n.toNat
  ·rw [if_pos e]
   constructor
   ·rintro (⟨a, b, c⟩ | rfl)
    ·exact ⟨a, b, rfl⟩
    ·exact ⟨h0, h1, rfl⟩
   ·rintro ⟨a, b, -⟩; right; omega
  ·rw [if_neg e]
   constructor
   ·rintro (k | rfl)
    ·exact k
    ·exact absurd rfl e
   ·exact .inl
 ·show (s.ord ++ [n]).Nodup
  rw [List.nodup_append]
  refine ⟨h.nd, by simp, fun a ha b hb => ?_⟩
  rw [List.mem_singleton] at hb
  subst hb
  rintro rfl
  exact hno ha
 ·have hi : i < (s.ord ++ [n]).length := hi
  rw [List.length_append, List.length_singleton] at hi
  show ((s.ord ++ [n]).getD i 0, t) ∈ s.back ↔ t ∉ (s.ord ++ [n]).take i
  have ht : t ∈ outsP p ((s.ord ++ [n]).getD i 0).toNat := ht
  by_cases e : i < s.ord.length
  ·rw [getD_append_lt _ _ _ e] at ht ⊢
   rw [List.take_append_of_le_length (by omega)]
   exact h.ed i e t ht
  ·obtain rfl : i = s.ord.length := by omega
   have e2 : (s.ord ++ [n]).getD s.ord.length 0 = n := by simp [List.getD]
   rw [e2] at ht ⊢
   rw [List.take_append_of_le_length (Nat.le_refl _), List.take_length]
   have hr := outsP_mem ht
   constructor
   ·intro hb hm
    have := hG t hb
    have := ((h.od t).1 hm).2.2
    omega
   ·intro hm
    have h2 := (ho t ht)
    rcases h.tri t with k | k | k
    ·exact absurd k h2.1
    ·exact h2.2 k
    ·exact absurd ((h.od t).2 ⟨hr.1, hr.2, k⟩) hm
 ·rw [look_leave hl]
  split
  ·decide
  ·rcases List.mem_append.1 (show x ∈ s.ord ++ [n] from hx) with hx | hx
   ·exact h.out x hx t ht
   ·rw [List.mem_singleton] at hx
    subst hx
    exact (ho t ht).1
theorem rI_all (p : Pr) : ∀ (f : Nat) (n : Int) (s : S3), DI p s → 0 ≤ n → n < p.blks.length → s.look n = 0 → s.zeros ≤ f → DI p (rI p f n s) ∧ DR (fun _ => False) s (rI p f n s) ∧ (rI p f n s).look n = 2 := by
 intro f
 induction f with
 | zero => intro n s h h0 h1 hn hz; have := zeros_enter s n (by rw [h.len]; omega) hn; omega
 | succ f ih =>
  intro n s h h0 h1 hn hz
  have hl : n.toNat < s.st.length := by rw [h.len]; omega
  have hz1 := zeros_enter s n hl hn
  have he := h.enter h0 h1 hn
  have hen : (s.enter n).look n = 1 := by rw [look_enter hl, if_pos rfl]
  obtain ⟨a, b, c, d⟩ := foldl_all p f ih n h0 (outsP p n.toNat) (s.enter n) (fun t ht => outsP_mem ht) he hen (by omega) (fun t ht => absurd hn (h.bk n t ht).2)
  have hn1 : ((outsP p n.toNat).foldl (hI p f n) (s.enter n)).look n = 1 := by rw [b.keep n (by rw [hen]; decide), hen]
  have hl1 : n.toNat < ((outsP p n.toNat).foldl (hI p f n) (s.enter n)).st.length := by rw [a.len]; omega
  rw [rI_succ]
  refine ⟨a.leave h0 h1 hn1 c d, ⟨fun x hx => ?_, fun x hx => ?_, ?_, fun e he => b.back1 e he, fun y t hy => ?_⟩, by rw [look_leave hl1, if_pos rfl]⟩
  ·rw [look_leave hl1] at hx
   split at hx
   ·exact absurd hx (by decide)
   ·have := b.grey x hx
    rw [look_enter hl, if_neg ‹_›] at this
    exact this
  ·have e : ¬ x.toNat = n.toNat := fun e => hx (by unfold S3.look at *; rw [e]; exact hn)
   rw [look_leave hl1, if_neg e, b.keep x (by rw [look_enter hl, if_neg e]; exact hx), look_enter hl, if_neg e]
  ·obtain ⟨l, hl⟩ := b.ord
   exact ⟨l ++ [n], by show _ ++ [n] = _; rw [hl, List.append_assoc]; rfl⟩
  ·rcases b.back2 y t hy with k | k | rfl
   ·exact .inl k
   ·rw [look_enter hl] at k
    split at k
    ·exact absurd k (by decide)
    ·exact .inr (.inl k)
   ·exact .inr (.inl hn)
theorem wk0_DI (p : Pr) : DI p (wk0 p) := by
 have hl : ∀ x, (wk0 p).look x = 0 := fun x => by
  unfold wk0 S3.look; simp only [List.getD, List.getElem?_replicate]; split <;> rfl
 refine ⟨by simp [wk0], fun x => .inl (hl x), fun y t hy => absurd hy List.not_mem_nil, fun x => ⟨fun hx => absurd hx List.not_mem_nil, fun hx => ?_⟩, List.nodup_nil, fun i hi => absurd hi (by simp [wk0]), fun x hx => absurd hx List.not_mem_nil⟩
 rw [hl] at hx; exact absurd hx.2.2 (by decide)
theorem wk0_look (p : Pr) (x : Int) : (wk0 p).look x = 0 := by
 unfold wk0 S3.look; simp only [List.getD, List.getElem?_replicate]; split <;> rfl
theorem wkD_all (p : Pr) (hp : 0 < p.blks.length) : DI p (wkD p) ∧ DR (fun _ => False) (wk0 p) (wkD p) ∧ (wkD p).look 0 = 2 :=
 rI_all p p.blks.length 0 (wk0 p) (wk0_DI p) (Int.le_refl _) (by omega) (wk0_look p 0) (by simp [S3.zeros, wk0, List.count_replicate_self])
/-- block 0 is left last -/
theorem wkD_last (p : Pr) (hp : 0 < p.blks.length) : ∃ l, (wkD p).ord = l ++ [0] := by
 unfold wkD
 obtain ⟨n, hn⟩ : ∃ n, p.blks.length = n + 1 := ⟨p.blks.length - 1, by omega⟩
 rw [hn, rI_succ]
 exact ⟨_, rfl⟩
/-- no block is gone into and not left -/
theorem wkD_two (p : Pr) (hp : 0 < p.blks.length) (x : Int) : (wkD p).look x = 0 ∨ (wkD p).look x = 2 := by
 obtain ⟨a, b, -⟩ := wkD_all p hp
 rcases a.tri x with k | k | k
 ·exact .inl k
 ·have := b.grey x k; rw [wk0_look] at this; exact absurd this (by decide)
 ·exact .inr k
theorem reachP_get (p : Pr) (n : Nat) (hn : n < p.blks.length) : (reachP p).getD n false = hasL (wkD p).ord n := by
 unfold reachP
 rw [marksB_get _ _ _ (by simpa using hn)]
 unfold hasL
 simp [List.getD, List.getElem?_replicate, hn]
theorem reachP_len (p : Pr) : (reachP p).length = p.blks.length := by unfold reachP; rw [marksB_len]; simp
/-- where the first k of an order stand, counted from 1 on; 0: not among them -/
structure AtR (o : List Int) (N k : Nat) (A : List Int) : Prop where
 len : A.length = N
 yes : ∀ i, i < k → A.getD (o.getD i 0).toNat 0 = (i : Int) + 1
 no : ∀ x : Nat, x < N → (x : Int) ∉ o.take k → A.getD x 0 = 0
theorem AtR.start (o : List Int) (N : Nat) : AtR o N 0 (List.replicate N 0) :=
 ⟨by simp, fun i hi => absurd hi (Nat.not_lt_zero i), fun x hx _ => by simp [List.getD, List.getElem?_replicate, hx]⟩
theorem mem_take_getD {o : List Int} {k : Nat} {x : Int} (h : x ∈ o.take k) : ∃ i, i < k ∧ i < o.length ∧ o.getD i 0 = x := by
 obtain ⟨i, hi, e⟩ := List.mem_iff_getElem.1 h
 rw [List.length_take] at hi
 refine ⟨i, by omega, by omega, ?_⟩
 rw [← e, List.getElem_take]
 simp [List.getD, show i < o.length by omega]
theorem getD_mem_take {o : List Int} {k i : Nat} (h : i < k) (hi : i < o.length) : o.getD i 0 ∈ o.take k := by
 rw [List.mem_iff_getElem]
 exact ⟨i, by rw [List.length_take]; omega, by rw [List.getElem_take]; simp [List.getD, hi]⟩
theorem getD_mem {o : List Int} {i : Nat} (hi : i < o.length) : o.getD i 0 ∈ o := by simp [List.getD, hi]
theorem nodup_at {o : List Int} (h : o.Nodup) {i j : Nat} (hi : i < o.length) (hj : j < o.length) (e : o.getD i 0 = o.getD j 0) : i = j := by
 have h1 : o[i] = o[j] := by simpa [List.getD, hi, hj] using e
 exact (List.getElem_inj h).1 h1
theorem AtR.zero {o : List Int} {N k : Nat} {A : List Int} (h : AtR o N k A) (nd : o.Nodup) (hk : k < o.length) (hr : 0 ≤ o.getD k 0 ∧ o.getD k 0 < N) : A.getD (o.getD k 0).toNat 0 = 0 := by
 refine h.no _ (by omega) fun hm => ?_
 rw [show (((o.getD k 0).toNat : Nat) : Int) = o.getD k 0 by omega] at hm
 obtain ⟨i, hi, hi', e⟩ := mem_take_getD hm
 have := nodup_at nd hi' hk e
 omega
theorem AtR.step {o : List Int} {N k : Nat} {A : List Int} (h : AtR o N k A) (nd : o.Nodup) (hk : k < o.length) (hr : ∀ x ∈ o, 0 ≤ x ∧ x < N) : AtR o N (k + 1) (A.set (o.getD k 0).toNat ((k : Int) + 1)) := by
 have hk' := hr _ (getD_mem hk)
 have hl : (o.getD k 0).toNat < A.length := by rw [h.len]; omega
 refine ⟨by simpa using h.len, fun i hi => ?_, fun x hx hm => ?_⟩
 ·rw [look_set A (o.getD k 0) (o.getD i 0) _ hl]
  have hi' : i < o.length := by omega
  have hri := hr _ (getD_mem hi')
  by_cases e : i = k
  ·subst e; rw [if_pos rfl]
  ·rw [if_neg (fun e2 => e (nodup_at nd hi' hk (by omega)))]
   exact h.yes i (by omega)
 ·have := look_set A (o.getD k 0) (x : Int) ((k : Int) + 1) hl
  rw [Int.toNat_natCast] at this
  rw [this, if_neg]
  ·refine h.no x hx fun hm' => hm ?_
   obtain ⟨i, hi, hi', e⟩ := mem_take_getD hm'
   exact e ▸ getD_mem_take (by omega) hi'
  ·rintro rfl
   refine hm ?_
   rw [show (((o.getD k 0).toNat : Nat) : Int) = o.getD k 0 by omega]
   exact getD_mem_take (Nat.lt_succ_self _) hk
theorem AtR.pos {o : List Int} {N : Nat} {A : List Int} (h : AtR o N o.length A) {n : Nat} (hn : n < N) : decide (0 < A.getD n 0) = hasL o n := by
 unfold hasL
 rw [Bool.eq_iff_iff, decide_eq_true_eq, List.contains_iff_mem]
 constructor
 ·intro h1
  rcases Decidable.em ((n : Int) ∈ o) with e | e
  ·exact e
  ·rw [h.no n hn (by rw [List.take_length]; exact e)] at h1; exact absurd h1 (by decide)
 ·intro h1
  obtain ⟨i, hi, e⟩ := List.mem_iff_getElem.1 h1
  have := h.yes i hi
  rw [show o.getD i 0 = n by simp [List.getD, hi, e], Int.toNat_natCast] at this
  omega
/-- a walk leaves only blocks that its ways lead to -/
theorem rI_in (p : Pr) (S : Int → Prop) (hS : ∀ x t, S x → t ∈ outsP p x.toNat → S t) : ∀ (f : Nat) (n : Int) (s : S3), S n → (∀ x ∈ s.ord, S x) → ∀ x ∈ (rI p f n s).ord, S x := by
 intro f
 induction f with
 | zero => intro n s _ h; exact h
 | succ f ih =>
  intro n s hn h
  have key : ∀ (l : List Int) (s : S3), (∀ t ∈ l, S t) → (∀ x ∈ s.ord, S x) → ∀ x ∈ (l.foldl (hI p f n) s).ord, S x := by
   intro l
   induction l with
   | nil => intro s _ h; exact h
   | cons t l ihl =>
    intro s hl h
    rw [List.foldl_cons]
    refine ihl _ (fun u hu => hl u (List.mem_cons_of_mem _ hu)) ?_
    unfold hI
    split
    ·exact h
    ·split
     ·exact ih t s (hl t List.mem_cons_self) h
     ·exact h
  rw [rI_succ]
  intro x hx
  rcases List.mem_append.1 (show x ∈ _ ++ [n] from hx) with hx | hx
  ·exact key _ (s.enter n) (fun t ht => hS n t hn ht) h x hx
  ·rw [List.mem_singleton] at hx; subst hx; exact hn
theorem ord_in (p : Pr) (S : Int → Prop) (h0 : S 0) (hS : ∀ x t, S x → t ∈ outsP p x.toNat → S t) : ∀ x ∈ (wkD p).ord, S x :=
 rI_in p S hS _ _ _ h0 fun x hx => absurd hx List.not_mem_nil
theorem ord_closed (p : Pr) (hp : 0 < p.blks.length) {x t : Int} (hx : x ∈ (wkD p).ord) (ht : t ∈ outsP p x.toNat) : t ∈ (wkD p).ord := by
 have D := (wkD_all p hp).1
 have h1 := D.out x hx t ht
 have h2 := outsP_mem ht
 refine (D.od t).2 ⟨h2.1, h2.2, ?_⟩
 rcases wkD_two p hp t with k | k
 ·exact absurd k h1
 ·exact k
theorem ord_zero (p : Pr) (hp : 0 < p.blks.length) : (0 : Int) ∈ (wkD p).ord := by
 obtain ⟨l, h⟩ := wkD_last p hp
 rw [h]; simp
/-- the reference's closure: one block's ways in, and rounds of all blocks -/
def rcK (p : Pr) (i : Nat) (out : List Bool) (k : Nat) : List Bool := if out.getD k false && hasL (outsP p k) i then out.set i true else out
def rcI (p : Pr) (out : List Bool) (i : Nat) : List Bool := (List.range p.blks.length).foldl (rcK p i) (if i = 0 then out.set 0 true else out)
def rcP (p : Pr) (out : List Bool) : List Bool := (List.range p.blks.length).foldl (rcI p) out
def rcN (p : Pr) : Nat → List Bool
 | 0 => List.replicate p.blks.length false
 | j + 1 => rcP p (rcN p j)
/-- no shorter list of marks -/
def Up (a b : List Bool) : Prop := b.length = a.length ∧ ∀ x, a.getD x false = true → b.getD x false = true
theorem Up.refl (a : List Bool) : Up a a := ⟨rfl, fun _ h => h⟩
theorem Up.trans {a b c : List Bool} (h : Up a b) (k : Up b c) : Up a c := ⟨k.1.trans h.1, fun x hx => k.2 x (h.2 x hx)⟩
theorem Up.set (a : List Bool) (i : Nat) : Up a (a.set i true) := by
 refine ⟨by simp, fun x hx => ?_⟩
 by_cases e : i < a.length
 ·rw [getD_setb _ _ _ e]; split
  ·rfl
  ·exact hx
 ·rw [List.set_eq_of_length_le (by omega)]; exact hx
theorem foldl_up {α : Type} (f : List Bool → α → List Bool) (h : ∀ a x, Up a (f a x)) : ∀ (l : List α) (a : List Bool), Up a (l.foldl f a)
 | [], a => Up.refl a
 | x :: l, a => (h a x).trans (foldl_up f h l _)
theorem rcK_up (p : Pr) (i : Nat) (a : List Bool) (k : Nat) : Up a (rcK p i a k) := by unfold rcK; split; exact Up.set _ _; exact Up.refl _
theorem rcI0_up (i : Nat) (a : List Bool) : Up a (if i = 0 then a.set 0 true else a) := by split; exact Up.set _ _; exact Up.refl _
theorem rcI_up (p : Pr) (a : List Bool) (i : Nat) : Up a (rcI p a i) := (rcI0_up i a).trans (foldl_up _ (rcK_up p i) _ _)
theorem rcP_up (p : Pr) (a : List Bool) : Up a (rcP p a) := foldl_up _ (rcI_up p) _ _
theorem rcN_len (p : Pr) : ∀ j, (rcN p j).length = p.blks.length
 | 0 => by simp [rcN]
 | j + 1 => (rcP_up p _).1.trans (rcN_len p j)
/-- what a list of marks should have: block 0, and where marked ones lead -/
def Shut (p : Pr) (a : List Bool) : Prop := a.getD 0 false = true ∧ ∀ k, k < p.blks.length → a.getD k false = true → ∀ t ∈ outsP p k, a.getD t.toNat false = true
theorem hasL_iff (l : List Int) (x : Int) : hasL l x = true ↔ x ∈ l := by unfold hasL; exact List.contains_iff_mem
theorem foldl_reach {α : Type} (f : List Bool → α → List Bool) (hu : ∀ a x, Up a (f a x)) (y : Nat) (x : α) (c : List Bool → Prop) (hc : ∀ a b, Up a b → c a → c b) (h : ∀ a, c a → (f a x).getD y false = true) : ∀ (l : List α) (a : List Bool), x ∈ l → c a → (l.foldl f a).getD y false = true
 | [], a, hx, _ => absurd hx List.not_mem_nil
 | z :: l, a, hx, ha => by
  rcases List.mem_cons.1 hx with rfl | hx
  ·exact (foldl_up f hu l _).2 y (h a ha)
  ·exact foldl_reach f hu y x c hc h l _ hx (hc _ _ (hu a z) ha)
theorem rcP_gives (p : Pr) (hp : 0 < p.blks.length) (a : List Bool) (hl : a.length = p.blks.length) : (rcP p a).getD 0 false = true ∧ ∀ k, k < p.blks.length → a.getD k false = true → ∀ t ∈ outsP p k, (rcP p a).getD t.toNat false = true := by
 refine ⟨?_, fun k hk hak t ht => ?_⟩
 ·refine foldl_reach (rcI p) (rcI_up p) 0 0 (fun b => b.length = p.blks.length) (fun a b h e => h.1.trans e) (fun b hb => ?_) _ a (List.mem_range.2 hp) hl
  refine (foldl_up _ (rcK_up p 0) _ _).2 0 ?_
  rw [if_pos rfl, getD_setb _ _ _ (by omega), if_pos rfl]
 ·have htr := outsP_mem ht
  refine foldl_reach (rcI p) (rcI_up p) t.toNat t.toNat (fun b => b.length = p.blks.length ∧ b.getD k false = true) (fun a b h e => ⟨h.1.trans e.1, h.2 k e.2⟩) (fun b hb => ?_) _ a (List.mem_range.2 (by omega)) ⟨hl, hak⟩
  refine foldl_reach (rcK p t.toNat) (rcK_up p _) t.toNat k (fun b => b.length = p.blks.length ∧ b.getD k false = true) (fun a b h e => ⟨h.1.trans e.1, h.2 k e.2⟩) (fun b hb => ?_) _ _ (List.mem_range.2 hk) ?_
  ·unfold rcK
   rw [hb.2, show ((t.toNat : Nat) : Int) = t by omega, (hasL_iff _ _).2 ht]
   rw [if_pos (by decide), getD_setb _ _ _ (by omega), if_pos rfl]
  ·have := rcI0_up t.toNat b
   exact ⟨this.1.trans hb.1, this.2 k hb.2⟩
theorem foldl_same {α : Type} (f : List Bool → α → List Bool) (a : List Bool) (l : List α) (h : ∀ x ∈ l, f a x = a) : l.foldl f a = a := by
 induction l with
 | nil => rfl
 | cons x l ih => rw [List.foldl_cons, h x List.mem_cons_self]; exact ih fun y hy => h y (List.mem_cons_of_mem _ hy)
theorem set_true_self (a : List Bool) (i : Nat) (h : a.getD i false = true) : a.set i true = a := by
 apply List.ext_getElem (by simp)
 intro j h1 h2
 rw [List.getElem_set]
 split
 ·rename_i e; subst e; simpa [List.getD, h2] using h.symm
 ·rfl
theorem Shut.same {p : Pr} {a : List Bool} (h : Shut p a) : rcP p a = a := by
 unfold rcP
 refine foldl_same _ _ _ fun i hi => ?_
 unfold rcI
 have e : (if i = 0 then a.set 0 true else a) = a := by split; exact set_true_self _ _ h.1; rfl
 rw [e]
 refine foldl_same _ _ _ fun k hk => ?_
 unfold rcK
 split
 ·rename_i hc
  rw [Bool.and_eq_true, hasL_iff] at hc
  have := h.2 k (List.mem_range.1 hk) hc.1 _ hc.2
  rw [Int.toNat_natCast] at this
  exact set_true_self _ _ this
 ·rfl
theorem count_le_of_up : ∀ (a b : List Bool), Up a b → a.count true ≤ b.count true ∧ (a ≠ b → a.count true < b.count true)
 | [], b, h => by
  have : b = [] := List.eq_nil_of_length_eq_zero h.1
  subst this
  exact ⟨Nat.le_refl _, fun h => absurd rfl h⟩
 | x :: a, [], h => by have := h.1; simp at this
 | x :: a, y :: b, h => by
  have hu : Up a b := ⟨by have := h.1; simpa using this, fun i hi => by have := h.2 (i + 1) (by simpa [List.getD] using hi); simpa [List.getD] using this⟩
  have h0 := h.2 0
  simp only [List.getD, List.getElem?_cons_zero, Option.getD_some] at h0
  obtain ⟨k1, k2⟩ := count_le_of_up a b hu
  rw [List.count_cons, List.count_cons]
  cases x <;> cases y <;> simp at h0 ⊢
  ·exact ⟨k1, k2⟩
  ·exact ⟨by omega, by omega⟩
  ·exact ⟨k1, k2⟩
theorem count_all (a : List Bool) (h : a.length ≤ a.count true) (x : Nat) (hx : x < a.length) : a.getD x false = true := by
 have : a.count true = a.length := Nat.le_antisymm List.count_le_length h
 rw [List.count_eq_length] at this
 have := this a[x] (List.getElem_mem hx)
 simp [List.getD, hx, ← this]
theorem rcN_shut (p : Pr) (hp : 0 < p.blks.length) : ∀ j, Shut p (rcN p j) ∨ j ≤ (rcN p j).count true
 | 0 => .inr (Nat.zero_le _)
 | j + 1 => by
  show Shut p (rcP p (rcN p j)) ∨ _ ≤ (rcP p (rcN p j)).count true
  rcases rcN_shut p hp j with h | h
  ·rw [h.same]; exact .inl h
  ·obtain ⟨k1, k2⟩ := count_le_of_up _ _ (rcP_up p (rcN p j))
   by_cases e : rcN p j = rcP p (rcN p j)
   ·left
    have := rcP_gives p hp (rcN p j) (rcN_len p j)
    rw [← e] at this ⊢
    exact this
   ·exact .inr (by have := k2 e; omega)
theorem rcN_in (p : Pr) (hp : 0 < p.blks.length) : ∀ j x, (rcN p j).getD x false = true → (x : Int) ∈ (wkD p).ord := by
 have keep : ∀ {α : Type} (f : List Bool → α → List Bool) (l : List α), (∀ x ∈ l, ∀ a : List Bool, (∀ x, a.getD x false = true → (x : Int) ∈ (wkD p).ord) → ∀ y, (f a x).getD y false = true → (y : Int) ∈ (wkD p).ord) → ∀ a : List Bool, (∀ x, a.getD x false = true → (x : Int) ∈ (wkD p).ord) → ∀ y, (l.foldl f a).getD y false = true → (y : Int) ∈ (wkD p).ord := by
  intro α f l
  induction l with
  | nil => intro _ a ha; exact ha
  | cons x l ih => intro h a ha; exact ih (fun z hz => h z (List.mem_cons_of_mem _ hz)) _ (h x List.mem_cons_self a ha)
 have st : ∀ (a : List Bool) (i : Nat), (∀ x, a.getD x false = true → (x : Int) ∈ (wkD p).ord) → (i : Int) ∈ (wkD p).ord → ∀ x, (a.set i true).getD x false = true → (x : Int) ∈ (wkD p).ord := by
  intro a i ha hi x hx
  by_cases e : i < a.length
  ·rw [getD_setb _ _ _ e] at hx
   split at hx
   ·rename_i e2; subst e2; exact hi
   ·exact ha x hx
  ·rw [List.set_eq_of_length_le (by omega)] at hx; exact ha x hx
 intro j
 induction j with
 | zero => intro x hx; simp only [rcN, List.getD, List.getElem?_replicate] at hx; split at hx <;> cases hx
 | succ j ih =>
  refine keep (rcI p) _ (fun i hi a ha => ?_) _ ih
  refine keep (rcK p i) _ (fun k hk b hb => ?_) _ ?_
  ·unfold rcK
   split
   ·rename_i hc
    rw [Bool.and_eq_true, hasL_iff] at hc
    exact st b i hb (ord_closed p hp (hb k hc.1) (by rw [Int.toNat_natCast]; exact hc.2))
   ·exact hb
  ·split
   ·exact st a 0 ha (ord_zero p hp)
   ·exact ha
/-- the closure finds what the walk reaches -/
theorem rcN_reach (p : Pr) : rcN p p.blks.length = reachP p := by
 refine list_ext _ _ (by rw [rcN_len, reachP_len]) fun x hx => ?_
 rw [rcN_len] at hx
 have hp : 0 < p.blks.length := by omega
 rw [reachP_get p x hx, Bool.eq_iff_iff, hasL_iff]
 refine ⟨rcN_in p hp _ x, fun hm => ?_⟩
 have hs : Shut p (rcN p p.blks.length) := by
  rcases rcN_shut p hp p.blks.length with h | h
  ·exact h
  ·have hall := count_all _ (by rw [rcN_len]; exact h)
   rw [rcN_len] at hall
   exact ⟨hall 0 hp, fun k _ _ t ht => hall _ (by have := outsP_mem ht; omega)⟩
 have := ord_in p (fun x => 0 ≤ x ∧ x < p.blks.length ∧ (rcN p p.blks.length).getD x.toNat false = true) ⟨by decide, by omega, hs.1⟩ (fun x t hx ht => by
  have htr := outsP_mem ht
  exact ⟨htr.1, htr.2, hs.2 x.toNat (by omega) hx.2.2 t ht⟩) x hm
 simpa using this.2.2
end Go.Proofs.YtkhfddodmjnecaaGreatDoor
