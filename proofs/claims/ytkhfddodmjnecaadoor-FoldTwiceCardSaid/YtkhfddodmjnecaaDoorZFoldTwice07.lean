/-
 What a walk through the blocks gathers: an order, and which ends lead back in it; and that it reaches what a closure reaches (plain lists).; Contract of the reference's walk into a block, which calls itself.; Contracts of the reference's Walked and Order.; Contract of the reference's Order.; Contract of the reference's Reach: rounds of a closure.; A table of rows of integers that grow one by one; which blocks lead to which, gathered so.; Contract of flow's Preds.; Into which things registers may point, as plain data: two ways to reckon it, round by round, that come to the same least answer.; The same by lists, both ways' ends, and that they are one.
-/
import Derived.Test.YtkhfddodmjnecaaDoorZFoldTwice06
import Derived.Test.YtkhfddodmjnecaaDoorZFoldTwice00

set_option linter.all false
namespace Go.Proofs.YtkhfddodmjnecaaDoor
open Go Go.RowKit
theorem look_set (l : List Int) (n x v : Int) (h : n.toNat < l.length) : (l.set n.toNat v).getD x.toNat 0 = if x.toNat = n.toNat then v else l.getD x.toNat 0 := by
 simp only [List.getD, List.getElem?_set]
 by_cases e : n.toNat = x.toNat
 ·rw [if_pos e, if_pos h, if_pos e.symm]; rfl
 ·rw [if_neg e, if_neg (Ne.symm e)]
theorem look_enter {s : S3} {n : Int} (h : n.toNat < s.st.length) (x : Int) : (s.enter n).look x = if x.toNat = n.toNat then 1 else s.look x := look_set s.st n x 1 h
theorem look_leave {s : S3} {n : Int} (h : n.toNat < s.st.length) (x : Int) : (s.leave n).look x = if x.toNat = n.toNat then 2 else s.look x := look_set s.st n x 2 h
theorem look_loop (s : S3) (n t x : Int) : (s.loop n t).look x = s.look x := rfl
/-- what holds of a walk that has come so far -/
structure DI (p : Pr) (s : S3) : Prop where
 len : s.st.length = p.blks.length
 tri : ∀ x, s.look x = 0 ∨ s.look x = 1 ∨ s.look x = 2
 bk : ∀ y t, (y, t) ∈ s.back → 0 ≤ y ∧ s.look y ≠ 0
 od : ∀ x, x ∈ s.ord ↔ 0 ≤ x ∧ x < p.blks.length ∧ s.look x = 2
 nd : s.ord.Nodup
 ed : ∀ i, i < s.ord.length → ∀ t ∈ outsP p (s.ord.getD i 0).toNat, ((s.ord.getD i 0, t) ∈ s.back ↔ t ∉ s.ord.take i)
 out : ∀ x ∈ s.ord, ∀ t ∈ outsP p x.toNat, s.look t ≠ 0
/-- what a piece of a walk leaves alone -/
structure DR (E : Int → Prop) (s s' : S3) : Prop where
 grey : ∀ x, s'.look x = 1 → s.look x = 1
 keep : ∀ x, s.look x ≠ 0 → s'.look x = s.look x
 ord : ∃ l, s'.ord = s.ord ++ l
 back1 : ∀ e ∈ s.back, e ∈ s'.back
 back2 : ∀ y t, (y, t) ∈ s'.back → (y, t) ∈ s.back ∨ s.look y = 0 ∨ E y
theorem DR.refl (E : Int → Prop) (s : S3) : DR E s s := ⟨fun _ h => h, fun _ _ => rfl, ⟨[], by simp⟩, fun _ h => h, fun _ _ h => .inl h⟩
theorem DR.trans {E : Int → Prop} {s s' s'' : S3} (h : DR E s s') (k : DR E s' s'') : DR E s s'' := by
 obtain ⟨l, hl⟩ := h.ord
 obtain ⟨l', hl'⟩ := k.ord
 refine ⟨fun x hx => h.grey x (k.grey x hx), fun x hx => ?_, ⟨l ++ l', by rw [hl', hl, List.append_assoc]⟩, fun e he => k.back1 e (h.back1 e he), fun y t hy => ?_⟩
 ·rw [k.keep x (by rw [h.keep x hx]; exact hx), h.keep x hx]
 ·rcases k.back2 y t hy with hy | hy | hy
  ·exact h.back2 y t hy
  ·right; left
   rcases Decidable.em (s.look y = 0) with e | e
   ·exact e
   ·rw [h.keep y e] at hy; exact absurd hy e
  ·exact .inr (.inr hy)
theorem DR.weak {E : Int → Prop} {s s' : S3} (h : DR (fun _ => False) s s') : DR E s s' :=
 ⟨h.grey, h.keep, h.ord, h.back1, fun y t hy => by
   rcases h.back2 y t hy with k | k | k
   ·exact .inl k
   ·exact .inr (.inl k)
   ·exact k.elim⟩
theorem DI.enter {p : Pr} {s : S3} {n : Int} (h : DI p s) (h0 : 0 ≤ n) (h1 : n < p.blks.length) (hn : s.look n = 0) : DI p (s.enter n) := by
 have hl : n.toNat < s.st.length := by rw [h.len]; omega
 refine ⟨by rw [enter_len]; exact h.len, fun x => ?_, fun y t hy => ⟨(h.bk y t hy).1, ?_⟩, fun x => ?_, h.nd, h.ed, fun x hx t ht => ?_⟩
 ·rw [look_enter hl]; split
  ·exact .inr (.inl rfl)
  ·exact h.tri x
 ·rw [look_enter hl]; split
  ·decide
  ·exact (h.bk y t hy).2
 ·rw [look_enter hl]
  show x ∈ s.ord ↔ _
  rw [h.od]
  by_cases e : x.toNat = n.toNat
  ·rw [if_pos e]
   constructor
   ·rintro ⟨a, b, c⟩
    obtain rfl : x = n := by omega
    omega
   ·rintro ⟨-, -, c⟩; exact absurd c (by decide)
  ·rw [if_neg e]
 ·rw [look_enter hl]; split
  ·decide
  ·exact h.out x hx t ht
theorem mem_snoc_pair {l : List (Int × Int)} {y t n u : Int} : (y, t) ∈ l ++ [(n, u)] ↔ (y, t) ∈ l ∨ y = n ∧ t = u := by
 rw [List.mem_append, List.mem_singleton, Prod.mk.injEq]
theorem DI.loop {p : Pr} {s : S3} {n t : Int} (h : DI p s) (h0 : 0 ≤ n) (hn : s.look n = 1) : DI p (s.loop n t) := by
 have hno : n ∉ s.ord := fun hm => by have := ((h.od n).1 hm).2.2; omega
 refine ⟨h.len, h.tri, fun y u hy => ?_, h.od, h.nd, fun i hi u hu => ?_, h.out⟩
 ·rcases mem_snoc_pair.1 hy with hy | ⟨rfl, -⟩
  ·exact h.bk y u hy
  ·exact ⟨h0, by rw [look_loop, hn]; decide⟩
 ·refine Iff.trans ?_ (h.ed i hi u hu)
  show (s.ord.getD i 0, u) ∈ s.back ++ [(n, t)] ↔ _
  rw [mem_snoc_pair]
  refine ⟨fun hx => hx.resolve_right fun hx => hno ?_, .inl⟩
  have hi' : i < s.ord.length := hi
  rw [← hx.1]
  simp [List.getD, hi']
theorem foldl_all (p : Pr) (f : Nat) (IH : ∀ (n : Int) (s : S3), DI p s → 0 ≤ n → n < p.blks.length → s.look n = 0 → s.zeros ≤ f → DI p (rI p f n s) ∧ DR (fun _ => False) s (rI p f n s) ∧ (rI p f n s).look n = 2) (n : Int) (h0 : 0 ≤ n) :
  ∀ (l : List Int) (s : S3), (∀ t ∈ l, 0 ≤ t ∧ t < p.blks.length) → DI p s → s.look n = 1 → s.zeros ≤ f → (∀ t, (n, t) ∈ s.back → s.look t = 1) →
   DI p (l.foldl (hI p f n) s) ∧ DR (· = n) s (l.foldl (hI p f n) s) ∧ (∀ t, (n, t) ∈ (l.foldl (hI p f n) s).back → (l.foldl (hI p f n) s).look t = 1) ∧
    ∀ t ∈ l, (l.foldl (hI p f n) s).look t ≠ 0 ∧ ((l.foldl (hI p f n) s).look t = 1 → (n, t) ∈ (l.foldl (hI p f n) s).back) := by
 intro l
 induction l with
 | nil => intro s _ h _ _ hG; exact ⟨h, DR.refl _ _, hG, fun t ht => absurd ht List.not_mem_nil⟩
 | cons t l ihl =>
  intro s hin h hn hz hG
  have ht := hin t List.mem_cons_self
  have step : DI p (hI p f n s t) ∧ DR (· = n) s (hI p f n s t) ∧ (∀ u, (n, u) ∈ (hI p f n s t).back → (hI p f n s t).look u = 1) ∧ (hI p f n s t).look t ≠ 0 ∧ ((hI p f n s t).look t = 1 → (n, t) ∈ (hI p f n s t).back) := by
   unfold hI
   split
   ·rename_i e
    refine ⟨h.loop h0 hn, ⟨fun x hx => hx, fun x _ => rfl, ⟨[], by simp [S3.loop]⟩, fun e he => List.mem_append_left _ he, fun y u hy => ?_⟩, fun u hu => ?_, by rw [look_loop, e]; decide, fun _ => mem_snoc_pair.2 (.inr ⟨rfl, rfl⟩)⟩
    ·rcases mem_snoc_pair.1 hy with hy | ⟨rfl, -⟩
     ·exact .inl hy
     ·exact .inr (.inr rfl)
    ·rcases mem_snoc_pair.1 hu with hu | ⟨-, rfl⟩
     ·exact hG u hu
     ·exact e
   ·split
    ·rename_i e
     obtain ⟨a, b, c⟩ := IH t s h ht.1 ht.2 e hz
     refine ⟨a, b.weak, fun u hu => ?_, by rw [c]; decide, fun k => by rw [c] at k; exact absurd k (by decide)⟩
     rcases b.back2 n u hu with hu | hu | hu
     ·rw [b.keep u (by rw [hG u hu]; decide)]; exact hG u hu
     ·rw [hn] at hu; exact absurd hu (by decide)
     ·exact hu.elim
    ·exact ⟨h, DR.refl _ _, hG, ‹_›, fun k => absurd k ‹_›⟩
  obtain ⟨a, b, c, d1, d2⟩ := step
  have hn' : (hI p f n s t).look n = 1 := by rw [b.keep n (by rw [hn]; decide), hn]
  obtain ⟨a', b', c', d'⟩ := ihl (hI p f n s t) (fun u hu => hin u (List.mem_cons_of_mem _ hu)) a hn' (Nat.le_trans (hI_zeros p f n s t) hz) c
  rw [List.foldl_cons]
  refine ⟨a', b.trans b', c', fun u hu => ?_⟩
  rcases List.mem_cons.1 hu with rfl | hu
  ·rw [b'.keep u d1]
   exact ⟨d1, fun k => b'.back1 _ (d2 k)⟩
  ·exact d' u hu
theorem getD_append_lt (l l' : List Int) (i : Nat) (h : i < l.length) : (l ++ l').getD i 0 = l.getD i 0 := by simp [List.getD, List.getElem?_append, h]
theorem DI.leave {p : Pr} {s : S3} {n : Int} (h : DI p s) (h0 : 0 ≤ n) (h1 : n < p.blks.length) (hn : s.look n = 1) (hG : ∀ t, (n, t) ∈ s.back → s.look t = 1) (ho : ∀ t ∈ outsP p n.toNat, s.look t ≠ 0 ∧ (s.look t = 1 → (n, t) ∈ s.back)) : DI p (s.leave n) := by
 have hl : n.toNat < s.st.length := by rw [h.len]; omega
 have hno : n ∉ s.ord := fun hm => by have := ((h.od n).1 hm).2.2; omega
 refine ⟨by rw [leave_len]; exact h.len, fun x => ?_, fun y t hy => ⟨(h.bk y t hy).1, ?_⟩, fun x => ?_, ?_, fun i hi t ht => ?_, fun x hx t ht => ?_⟩
 ·rw [look_leave hl]; split
  ·exact .inr (.inr rfl)
  ·exact h.tri x
 ·rw [look_leave hl]; split
  ·decide
  ·exact (h.bk y t hy).2
 ·rw [look_leave hl]
  show x ∈ s.ord ++ [n] ↔ _
  rw [List.mem_append, List.mem_singleton, h.od]
  by_cases e : x.toNat = n.toNat
  ·rw [if_pos e]
   constructor
   ·rintro (⟨a, b, c⟩ | rfl)
    ·exact ⟨a, b, rfl⟩
    ·exact ⟨h0, h1, rfl⟩
   ·rintro ⟨a, b, -⟩; right; omega
  ·rw [if_neg e]
   constructor
   ·rintro (k | rfl)
    ·exact k
    ·exact absurd rfl e
   ·exact .inl
 ·show (s.ord ++ [n]).Nodup
  rw [List.nodup_append]
  refine ⟨h.nd, by simp, fun a ha b hb => ?_⟩
  rw [List.mem_singleton] at hb
  subst hb
  rintro rfl
  exact hno ha
 ·have hi : i < (s.ord ++ [n]).length := hi
  rw [List.length_append, List.length_singleton] at hi
  show ((s.ord ++ [n]).getD i 0, t) ∈ s.back ↔ t ∉ (s.ord ++ [n]).take i
  have ht : t ∈ outsP p ((s.ord ++ [n]).getD i 0).toNat := ht
  by_cases e : i < s.ord.length
  ·rw [getD_append_lt _ _ _ e] at ht ⊢
   rw [List.take_append_of_le_length (by omega)]
   exact h.ed i e t ht
  ·obtain rfl : i = s.ord.length := by omega
   have e2 : (s.ord ++ [n]).getD s.ord.length 0 = n := by simp [List.getD]
   rw [e2] at ht ⊢
   rw [List.take_append_of_le_length (Nat.le_refl _), List.take_length]
   have hr := outsP_mem ht
   constructor
   ·intro hb hm
    have := hG t hb
    have := ((h.od t).1 hm).2.2
    omega
   ·intro hm
    have h2 := (ho t ht)
    rcases h.tri t with k | k | k
    ·exact absurd k h2.1
    ·exact h2.2 k
    ·exact absurd ((h.od t).2 ⟨hr.1, hr.2, k⟩) hm
 ·rw [look_leave hl]
  split
  ·decide
  ·rcases List.mem_append.1 (show x ∈ s.ord ++ [n] from hx) with hx | hx
   ·exact h.out x hx t ht
   ·rw [List.mem_singleton] at hx
    subst hx
    exact (ho t ht).1
theorem rI_all (p : Pr) : ∀ (f : Nat) (n : Int) (s : S3), DI p s → 0 ≤ n → n < p.blks.length → s.look n = 0 → s.zeros ≤ f → DI p (rI p f n s) ∧ DR (fun _ => False) s (rI p f n s) ∧ (rI p f n s).look n = 2 := by
 intro f
 induction f with
 | zero => intro n s h h0 h1 hn hz; have := zeros_enter s n (by rw [h.len]; omega) hn; omega
 | succ f ih =>
  intro n s h h0 h1 hn hz
  have hl : n.toNat < s.st.length := by rw [h.len]; omega
  have hz1 := zeros_enter s n hl hn
  have he := h.enter h0 h1 hn
  have hen : (s.enter n).look n = 1 := by rw [look_enter hl, if_pos rfl]
  obtain ⟨a, b, c, d⟩ := foldl_all p f ih n h0 (outsP p n.toNat) (s.enter n) (fun t ht => outsP_mem ht) he hen (by omega) (fun t ht => absurd hn (h.bk n t ht).2)
  have hn1 : ((outsP p n.toNat).foldl (hI p f n) (s.enter n)).look n = 1 := by rw [b.keep n (by rw [hen]; decide), hen]
  have hl1 : n.toNat < ((outsP p n.toNat).foldl (hI p f n) (s.enter n)).st.length := by rw [a.len]; omega
  rw [rI_succ]
  refine ⟨a.leave h0 h1 hn1 c d, ⟨fun x hx => ?_, fun x hx => ?_, ?_, fun e he => b.back1 e he, fun y t hy => ?_⟩, by rw [look_leave hl1, if_pos rfl]⟩
  ·rw [look_leave hl1] at hx
   split at hx
   ·exact absurd hx (by decide)
   ·have := b.grey x hx
    rw [look_enter hl, if_neg ‹_›] at this
    exact this
  ·have e : ¬ x.toNat = n.toNat := fun e => hx (by unfold S3.look at *; rw [e]; exact hn)
   rw [look_leave hl1, if_neg e, b.keep x (by rw [look_enter hl, if_neg e]; exact hx), look_enter hl, if_neg e]
  ·obtain ⟨l, hl⟩ := b.ord
   exact ⟨l ++ [n], by show _ ++ [n] = _; rw [hl, List.append_assoc]; rfl⟩
  ·rcases b.back2 y t hy with k | k | rfl
   ·exact .inl k
   ·rw [look_enter hl] at k
    split at k
    ·exact absurd k (by decide)
    ·exact .inr (.inl k)
   ·exact .inr (.inl hn)
theorem wk0_DI (p : Pr) : DI p (wk0 p) := by
 have hl : ∀ x, (wk0 p).look x = 0 := fun x => by
  unfold wk0 S3.look; simp only [List.getD, List.getElem?_replicate]; split <;> rfl
 refine ⟨by simp [wk0], fun x => .inl (hl x), fun y t hy => absurd hy List.not_mem_nil, fun x => ⟨fun hx => absurd hx List.not_mem_nil, fun hx => ?_⟩, List.nodup_nil, fun i hi => absurd hi (by simp [wk0]), fun x hx => absurd hx List.not_mem_nil⟩
 rw [hl] at hx; exact absurd hx.2.2 (by decide)
theorem wk0_look (p : Pr) (x : Int) : (wk0 p).look x = 0 := by
 unfold wk0 S3.look; simp only [List.getD, List.getElem?_replicate]; split <;> rfl
theorem wkD_all (p : Pr) (hp : 0 < p.blks.length) : DI p (wkD p) ∧ DR (fun _ => False) (wk0 p) (wkD p) ∧ (wkD p).look 0 = 2 :=
 rI_all p p.blks.length 0 (wk0 p) (wk0_DI p) (Int.le_refl _) (by omega) (wk0_look p 0) (by simp [S3.zeros, wk0, List.count_replicate_self])
/-- block 0 is left last -/
theorem wkD_last (p : Pr) (hp : 0 < p.blks.length) : ∃ l, (wkD p).ord = l ++ [0] := by
 unfold wkD
 obtain ⟨n, hn⟩ : ∃ n, p.blks.length = n + 1 := ⟨p.blks.length - 1, by omega⟩
 rw [hn, rI_succ]
 exact ⟨_, rfl⟩
/-- no block is gone into and not left -/
theorem wkD_two (p : Pr) (hp : 0 < p.blks.length) (x : Int) : (wkD p).look x = 0 ∨ (wkD p).look x = 2 := by
 obtain ⟨a, b, -⟩ := wkD_all p hp
 rcases a.tri x with k | k | k
 ·exact .inl k
 ·have := b.grey x k; rw [wk0_look] at this; exact absurd this (by decide)
 ·exact .inr k
theorem reachP_get (p : Pr) (n : Nat) (hn : n < p.blks.length) : (reachP p).getD n false = hasL (wkD p).ord n := by
 unfold reachP
 rw [marksB_get _ _ _ (by simpa using hn)]
 unfold hasL
 simp [List.getD, List.getElem?_replicate, hn]
theorem ord_closed (p : Pr) (hp : 0 < p.blks.length) {x t : Int} (hx : x ∈ (wkD p).ord) (ht : t ∈ outsP p x.toNat) : t ∈ (wkD p).ord := by
 have D := (wkD_all p hp).1
 have h1 := D.out x hx t ht
 have h2 := outsP_mem ht
 refine (D.od t).2 ⟨h2.1, h2.2, ?_⟩
 rcases wkD_two p hp t with k | k
 ·exact absurd k h1
 ·exact k
theorem ord_zero (p : Pr) (hp : 0 < p.blks.length) : (0 : Int) ∈ (wkD p).ord := by
 obtain ⟨l, h⟩ := wkD_last p hp
 rw [h]; simp
theorem hasL_iff (l : List Int) (x : Int) : hasL l x = true ↔ x ∈ l := by unfold hasL; exact List.contains_iff_mem
end Go.Proofs.YtkhfddodmjnecaaDoor

set_option linter.all false
namespace Go.Proofs.YtkhfddodmjnecaaDoor
open Go.ChangeShapes Go.WideShapes Go.ChangeAt Go.RowKit
set_option maxHeartbeats 2000000
set_option maxRecDepth 20000

section
variable {w w' : World} {bw bs B n : Nat} {s : S3} {ov bv ov' bv' : Value}
end
end Go.Proofs.YtkhfddodmjnecaaDoor

set_option linter.all false
namespace Go.Proofs.YtkhfddodmjnecaaDoor
open Go.ChangeShapes Go.WideShapes Go.ChangeAt Go.RowKit
set_option maxHeartbeats 2000000
set_option maxRecDepth 20000

end Go.Proofs.YtkhfddodmjnecaaDoor

set_option linter.all false
namespace Go.Proofs.YtkhfddodmjnecaaDoor
open Go.ChangeShapes Go.WideShapes Go.ChangeAt Go.RowKit
set_option maxHeartbeats 2000000
set_option maxRecDepth 20000

end Go.Proofs.YtkhfddodmjnecaaDoor

set_option linter.all false
namespace Go.Proofs.YtkhfddodmjnecaaDoor
open Go.ChangeShapes Go.WideShapes Go.ChangeAt Go.RowKit
set_option maxHeartbeats 2000000
set_option maxRecDepth 20000

end Go.Proofs.YtkhfddodmjnecaaDoor

set_option linter.all false
namespace Go.Proofs.YtkhfddodmjnecaaDoor
open Go.ChangeShapes Go.WideShapes Go.ChangeAt Go.RowKit
set_option maxHeartbeats 2000000
set_option maxRecDepth 20000

section
variable {W0 w w' : World} {gP B n : Nat} {vs : List Value} {rows : List (List Int)}
end
end Go.Proofs.YtkhfddodmjnecaaDoor

set_option linter.all false
namespace Go.Proofs.YtkhfddodmjnecaaDoor
open Go.ChangeShapes Go.WideShapes Go.ChangeAt Go.RowKit
set_option maxHeartbeats 2000000
set_option maxRecDepth 20000

end Go.Proofs.YtkhfddodmjnecaaDoor

set_option linter.all false
namespace Go.Proofs.YtkhfddodmjnecaaDoor

/-- what an instruction asks: that one place has what another one has (none: what is out), or that a register has a thing -/
inductive Con where
 | sub (s d : Option Nat)
 | put (t d : Nat)
/-- registers' things and what is out, as words -/
structure AS where
 regs : List Nat
 out : Nat
end Go.Proofs.YtkhfddodmjnecaaDoor

set_option linter.all false
namespace Go.Proofs.YtkhfddodmjnecaaDoor

end Go.Proofs.YtkhfddodmjnecaaDoor
