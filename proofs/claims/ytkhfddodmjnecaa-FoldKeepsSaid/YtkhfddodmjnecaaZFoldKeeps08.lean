/-
 What a walk through the blocks gathers: an order, and which ends lead back in it; and that it reaches what a closure reaches (plain lists).; Contract of the reference's walk into a block, which calls itself.; Contracts of the reference's Walked and Order.; Contract of the reference's Order.; Contract of the reference's Reach: rounds of a closure.; A table of rows of integers that grow one by one; which blocks lead to which, gathered so.; Contract of flow's Preds.
-/
import Derived.Test.YtkhfddodmjnecaaZFoldKeeps07

set_option linter.all false
namespace Go.Proofs.Ytkhfddodmjnecaa
open Go Go.RowKit
theorem look_set (l : List Int) (n x v : Int) (h : n.toNat < l.length) : (l.set n.toNat v).getD x.toNat 0 = if x.toNat = n.toNat then v else l.getD x.toNat 0 := by
 simp only [List.getD, List.getElem?_set]
 by_cases e : n.toNat = x.toNat
 ·rw [if_pos e, if_pos h, if_pos e.symm]; rfl
 ·rw [if_neg e, if_neg (Ne.symm e)]
theorem look_enter {s : S3} {n : Int} (h : n.toNat < s.st.length) (x : Int) : (s.enter n).look x = if x.toNat = n.toNat then 1 else s.look x := look_set s.st n x 1 h
theorem look_leave {s : S3} {n : Int} (h : n.toNat < s.st.length) (x : Int) : (s.leave n).look x = if x.toNat = n.toNat then 2 else s.look x := look_set s.st n x 2 h
theorem look_loop (s : S3) (n t x : Int) : (s.loop n t).look x = s.look x := rfl
/-- what holds of a walk that has come so far -/
structure DI (p : Pr) (s : S3) : Prop where
 len : s.st.length = p.blks.length
 tri : ∀ x, s.look x = 0 ∨ s.look x = 1 ∨ s.look x = 2
 bk : ∀ y t, (y, t) ∈ s.back → 0 ≤ y ∧ s.look y ≠ 0
 od : ∀ x, x ∈ s.ord ↔ 0 ≤ x ∧ x < p.blks.length ∧ s.look x = 2
 nd : s.ord.Nodup
 ed : ∀ i, i < s.ord.length → ∀ t ∈ outsP p (s.ord.getD i 0).toNat, ((s.ord.getD i 0, t) ∈ s.back ↔ t ∉ s.ord.take i)
 out : ∀ x ∈ s.ord, ∀ t ∈ outsP p x.toNat, s.look t ≠ 0
/-- what a piece of a walk leaves alone -/
structure DR (E : Int → Prop) (s s' : S3) : Prop where
 grey : ∀ x, s'.look x = 1 → s.look x = 1
 keep : ∀ x, s.look x ≠ 0 → s'.look x = s.look x
 ord : ∃ l, s'.ord = s.ord ++ l
 back1 : ∀ e ∈ s.back, e ∈ s'.back
 back2 : ∀ y t, (y, t) ∈ s'.back → (y, t) ∈ s.back ∨ s.look y = 0 ∨ E y
theorem DR.refl (E : Int → Prop) (s : S3) : DR E s s := ⟨fun _ h => h, fun _ _ => rfl, ⟨[], by simp⟩, fun _ h => h, fun _ _ h => .inl h⟩
theorem DR.trans {E : Int → Prop} {s s' s'' : S3} (h : DR E s s') (k : DR E s' s'') : DR E s s'' := by
 obtain ⟨l, hl⟩ := h.ord
 obtain ⟨l', hl'⟩ := k.ord
 refine ⟨fun x hx => h.grey x (k.grey x hx), fun x hx => ?_, ⟨l ++ l', by rw [hl', hl, List.append_assoc]⟩, fun e he => k.back1 e (h.back1 e he), fun y t hy => ?_⟩
 ·rw [k.keep x (by rw [h.keep x hx]; exact hx), h.keep x hx]
 ·rcases k.back2 y t hy with hy | hy | hy
  ·exact h.back2 y t hy
  ·right; left
   rcases Decidable.em (s.look y = 0) with e | e
   ·exact e
   ·rw [h.keep y e] at hy; exact absurd hy e
  ·exact .inr (.inr hy)
theorem DI.enter {p : Pr} {s : S3} {n : Int} (h : DI p s) (h0 : 0 ≤ n) (h1 : n < p.blks.length) (hn : s.look n = 0) : DI p (s.enter n) := by
 have hl : n.toNat < s.st.length := by rw [h.len]; omega
 refine ⟨by rw [enter_len]; exact h.len, fun x => ?_, fun y t hy => ⟨(h.bk y t hy).1, ?_⟩, fun x => ?_, h.nd, h.ed, fun x hx t ht => ?_⟩
 ·rw [look_enter hl]; split
  ·exact .inr (.inl rfl)
  ·exact h.tri x
 ·rw [look_enter hl]; split
  ·decide
  ·exact (h.bk y t hy).2
 ·rw [look_enter hl]
  show x ∈ s.ord ↔ _
  rw [h.od]
  by_cases e : x.toNat = n.toNat
  ·rw [if_pos e]
   constructor
   ·rintro ⟨a, b, c⟩
    obtain rfl : x = n := by omega
    omega
   ·rintro ⟨-, -, c⟩; exact absurd c (by decide)
  ·rw [if_neg e]
 ·rw [look_enter hl]; split
  ·decide
  ·exact h.out x hx t ht
theorem mem_snoc_pair {l : List (Int × Int)} {y t n u : Int} : (y, t) ∈ l ++ [(n, u)] ↔ (y, t) ∈ l ∨ y = n ∧ t = u := by
 rw [List.mem_append, List.mem_singleton, Prod.mk.injEq]
theorem DI.loop {p : Pr} {s : S3} {n t : Int} (h : DI p s) (h0 : 0 ≤ n) (hn : s.look n = 1) : DI p (s.loop n t) := by
 have hno : n ∉ s.ord := fun hm => by have := ((h.od n).1 hm).2.2; omega
 refine ⟨h.len, h.tri, fun y u hy => ?_, h.od, h.nd, fun i hi u hu => ?_, h.out⟩
 ·rcases mem_snoc_pair.1 hy with hy | ⟨rfl, -⟩
  ·exact h.bk y u hy
  ·exact ⟨h0, by rw [look_loop, hn]; decide⟩
 ·refine Iff.trans ?_ (h.ed i hi u hu)
  show (s.ord.getD i 0, u) ∈ s.back ++ [(n, t)] ↔ _
  rw [mem_snoc_pair]
  refine ⟨fun hx => hx.resolve_right fun hx => hno ?_, .inl⟩
  have hi' : i < s.ord.length := hi
  rw [← hx.1]
  simp [List.getD, hi']
theorem getD_append_lt (l l' : List Int) (i : Nat) (h : i < l.length) : (l ++ l').getD i 0 = l.getD i 0 := by simp [List.getD, List.getElem?_append, h]
theorem DI.leave {p : Pr} {s : S3} {n : Int} (h : DI p s) (h0 : 0 ≤ n) (h1 : n < p.blks.length) (hn : s.look n = 1) (hG : ∀ t, (n, t) ∈ s.back → s.look t = 1) (ho : ∀ t ∈ outsP p n.toNat, s.look t ≠ 0 ∧ (s.look t = 1 → (n, t) ∈ s.back)) : DI p (s.leave n) := by
 have hl : n.toNat < s.st.length := by rw [h.len]; omega
 have hno : n ∉ s.ord := fun hm => by have := ((h.od n).1 hm).2.2; omega
 refine ⟨by rw [leave_len]; exact h.len, fun x => ?_, fun y t hy => ⟨(h.bk y t hy).1, ?_⟩, fun x => ?_, ?_, fun i hi t ht => ?_, fun x hx t ht => ?_⟩
 ·rw [look_leave hl]; split
  ·exact .inr (.inr rfl)
  ·exact h.tri x
 ·rw [look_leave hl]; split
  ·decide
  ·exact (h.bk y t hy).2
 ·rw [look_leave hl]
  show x ∈ s.ord ++ [n] ↔ _
  rw [List.mem_append, List.mem_singleton, h.od]
  by_cases e : x.toNat = n.toNat
  ·rw [if_pos e]
   constructor
   ·rintro (⟨a, b, c⟩ | rfl)
    ·exact ⟨a, b, rfl⟩
    ·exact ⟨h0, h1, rfl⟩
   ·rintro ⟨a, b, -⟩; right; omega
  ·rw [if_neg e]
   constructor
   ·rintro (k | rfl)
    ·exact k
    ·exact absurd rfl e
   ·exact .inl
 ·show (s.ord ++ [n]).Nodup
  rw [List.nodup_append]
  refine ⟨h.nd, by simp, fun a ha b hb => ?_⟩
  rw [List.mem_singleton] at hb
  subst hb
  rintro rfl
  exact hno ha
 ·have hi : i < (s.ord ++ [n]).length := hi
  rw [List.length_append, List.length_singleton] at hi
  show ((s.ord ++ [n]).getD i 0, t) ∈ s.back ↔ t ∉ (s.ord ++ [n]).take i
  have ht : t ∈ outsP p ((s.ord ++ [n]).getD i 0).toNat := ht
  by_cases e : i < s.ord.length
  ·rw [getD_append_lt _ _ _ e] at ht ⊢
   rw [List.take_append_of_le_length (by omega)]
   exact h.ed i e t ht
  ·obtain rfl : i = s.ord.length := by omega
   have e2 : (s.ord ++ [n]).getD s.ord.length 0 = n := by simp [List.getD]
   rw [e2] at ht ⊢
   rw [List.take_append_of_le_length (Nat.le_refl _), List.take_length]
   have hr := outsP_mem ht
   constructor
   ·intro hb hm
    have := hG t hb
    have := ((h.od t).1 hm).2.2
    omega
   ·intro hm
    have h2 := (ho t ht)
    rcases h.tri t with k | k | k
    ·exact absurd k h2.1
    ·exact h2.2 k
    ·exact absurd ((h.od t).2 ⟨hr.1, hr.2, k⟩) hm
 ·rw [look_leave hl]
  split
  ·decide
  ·rcases List.mem_append.1 (show x ∈ s.ord ++ [n] from hx) with hx | hx
   ·exact h.out x hx t ht
   ·rw [List.mem_singleton] at hx
    subst hx
    exact (ho t ht).1
/-- block 0 is left last -/
theorem wkD_last (p : Pr) (hp : 0 < p.blks.length) : ∃ l, (wkD p).ord = l ++ [0] := by
 unfold wkD
 obtain ⟨n, hn⟩ : ∃ n, p.blks.length = n + 1 := ⟨p.blks.length - 1, by omega⟩
 rw [hn, rI_succ]
 exact ⟨_, rfl⟩
/-- where the first k of an order stand, counted from 1 on; 0: not among them -/
structure AtR (o : List Int) (N k : Nat) (A : List Int) : Prop where
 len : A.length = N
 yes : ∀ i, i < k → A.getD (o.getD i 0).toNat 0 = (i : Int) + 1
 no : ∀ x : Nat, x < N → (x : Int) ∉ o.take k → A.getD x 0 = 0
theorem AtR.start (o : List Int) (N : Nat) : AtR o N 0 (List.replicate N 0) :=
 ⟨by simp, fun i hi => absurd hi (Nat.not_lt_zero i), fun x hx _ => by simp [List.getD, List.getElem?_replicate, hx]⟩
theorem mem_take_getD {o : List Int} {k : Nat} {x : Int} (h : x ∈ o.take k) : ∃ i, i < k ∧ i < o.length ∧ o.getD i 0 = x := by
 obtain ⟨i, hi, e⟩ := List.mem_iff_getElem.1 h
 rw [List.length_take] at hi
 refine ⟨i, by omega, by omega, ?_⟩
 rw [← e, List.getElem_take]
 simp [List.getD, show i < o.length by omega]
theorem getD_mem_take {o : List Int} {k i : Nat} (h : i < k) (hi : i < o.length) : o.getD i 0 ∈ o.take k := by
 rw [List.mem_iff_getElem]
 exact ⟨i, by rw [List.length_take]; omega, by rw [List.getElem_take]; simp [List.getD, hi]⟩
theorem getD_mem {o : List Int} {i : Nat} (hi : i < o.length) : o.getD i 0 ∈ o := by simp [List.getD, hi]
theorem nodup_at {o : List Int} (h : o.Nodup) {i j : Nat} (hi : i < o.length) (hj : j < o.length) (e : o.getD i 0 = o.getD j 0) : i = j := by
 have h1 : o[i] = o[j] := by simpa [List.getD, hi, hj] using e
 exact (List.getElem_inj h).1 h1
theorem AtR.zero {o : List Int} {N k : Nat} {A : List Int} (h : AtR o N k A) (nd : o.Nodup) (hk : k < o.length) (hr : 0 ≤ o.getD k 0 ∧ o.getD k 0 < N) : A.getD (o.getD k 0).toNat 0 = 0 := by
 refine h.no _ (by omega) fun hm => ?_
 rw [show (((o.getD k 0).toNat : Nat) : Int) = o.getD k 0 by omega] at hm
 obtain ⟨i, hi, hi', e⟩ := mem_take_getD hm
 have := nodup_at nd hi' hk e
 omega
theorem AtR.step {o : List Int} {N k : Nat} {A : List Int} (h : AtR o N k A) (nd : o.Nodup) (hk : k < o.length) (hr : ∀ x ∈ o, 0 ≤ x ∧ x < N) : AtR o N (k + 1) (A.set (o.getD k 0).toNat ((k : Int) + 1)) := by
 have hk' := hr _ (getD_mem hk)
 have hl : (o.getD k 0).toNat < A.length := by rw [h.len]; omega
 refine ⟨by simpa using h.len, fun i hi => ?_, fun x hx hm => ?_⟩
 ·rw [look_set A (o.getD k 0) (o.getD i 0) _ hl]
  have hi' : i < o.length := by omega
  have hri := hr _ (getD_mem hi')
  by_cases e : i = k
  ·subst e; rw [if_pos rfl]
  ·rw [if_neg (fun e2 => e (nodup_at nd hi' hk (by omega)))]
   exact h.yes i (by omega)
 ·have := look_set A (o.getD k 0) (x : Int) ((k : Int) + 1) hl
  rw [Int.toNat_natCast] at this
  rw [this, if_neg]
  ·refine h.no x hx fun hm' => hm ?_
   obtain ⟨i, hi, hi', e⟩ := mem_take_getD hm'
   exact e ▸ getD_mem_take (by omega) hi'
  ·rintro rfl
   refine hm ?_
   rw [show (((o.getD k 0).toNat : Nat) : Int) = o.getD k 0 by omega]
   exact getD_mem_take (Nat.lt_succ_self _) hk
theorem AtR.pos {o : List Int} {N : Nat} {A : List Int} (h : AtR o N o.length A) {n : Nat} (hn : n < N) : decide (0 < A.getD n 0) = hasL o n := by
 unfold hasL
 rw [Bool.eq_iff_iff, decide_eq_true_eq, List.contains_iff_mem]
 constructor
 ·intro h1
  rcases Decidable.em ((n : Int) ∈ o) with e | e
  ·exact e
  ·rw [h.no n hn (by rw [List.take_length]; exact e)] at h1; exact absurd h1 (by decide)
 ·intro h1
  obtain ⟨i, hi, e⟩ := List.mem_iff_getElem.1 h1
  have := h.yes i hi
  rw [show o.getD i 0 = n by simp [List.getD, hi, e], Int.toNat_natCast] at this
  omega
theorem ord_zero (p : Pr) (hp : 0 < p.blks.length) : (0 : Int) ∈ (wkD p).ord := by
 obtain ⟨l, h⟩ := wkD_last p hp
 rw [h]; simp
/-- the reference's closure: one block's ways in, and rounds of all blocks -/
def rcK (p : Pr) (i : Nat) (out : List Bool) (k : Nat) : List Bool := if out.getD k false && hasL (outsP p k) i then out.set i true else out
def rcI (p : Pr) (out : List Bool) (i : Nat) : List Bool := (List.range p.blks.length).foldl (rcK p i) (if i = 0 then out.set 0 true else out)
def rcP (p : Pr) (out : List Bool) : List Bool := (List.range p.blks.length).foldl (rcI p) out
/-- no shorter list of marks -/
def Up (a b : List Bool) : Prop := b.length = a.length ∧ ∀ x, a.getD x false = true → b.getD x false = true
theorem Up.refl (a : List Bool) : Up a a := ⟨rfl, fun _ h => h⟩
theorem Up.trans {a b c : List Bool} (h : Up a b) (k : Up b c) : Up a c := ⟨k.1.trans h.1, fun x hx => k.2 x (h.2 x hx)⟩
theorem Up.set (a : List Bool) (i : Nat) : Up a (a.set i true) := by
 refine ⟨by simp, fun x hx => ?_⟩
 by_cases e : i < a.length
 ·rw [getD_setb _ _ _ e]; split
  ·rfl
  ·exact hx
 ·rw [List.set_eq_of_length_le (by omega)]; exact hx
/-- what a list of marks should have: block 0, and where marked ones lead -/
def Shut (p : Pr) (a : List Bool) : Prop := a.getD 0 false = true ∧ ∀ k, k < p.blks.length → a.getD k false = true → ∀ t ∈ outsP p k, a.getD t.toNat false = true
theorem hasL_iff (l : List Int) (x : Int) : hasL l x = true ↔ x ∈ l := by unfold hasL; exact List.contains_iff_mem
theorem foldl_same {α : Type} (f : List Bool → α → List Bool) (a : List Bool) (l : List α) (h : ∀ x ∈ l, f a x = a) : l.foldl f a = a := by
 induction l with
 | nil => rfl
 | cons x l ih => rw [List.foldl_cons, h x List.mem_cons_self]; exact ih fun y hy => h y (List.mem_cons_of_mem _ hy)
theorem set_true_self (a : List Bool) (i : Nat) (h : a.getD i false = true) : a.set i true = a := by
 apply List.ext_getElem (by simp)
 intro j h1 h2
 rw [List.getElem_set]
 split
 ·rename_i e; subst e; simpa [List.getD, h2] using h.symm
 ·rfl
theorem Shut.same {p : Pr} {a : List Bool} (h : Shut p a) : rcP p a = a := by
 unfold rcP
 refine foldl_same _ _ _ fun i hi => ?_
 unfold rcI
 have e : (if i = 0 then a.set 0 true else a) = a := by split; exact set_true_self _ _ h.1; rfl
 rw [e]
 refine foldl_same _ _ _ fun k hk => ?_
 unfold rcK
 split
 ·rename_i hc
  rw [Bool.and_eq_true, hasL_iff] at hc
  have := h.2 k (List.mem_range.1 hk) hc.1 _ hc.2
  rw [Int.toNat_natCast] at this
  exact set_true_self _ _ this
 ·rfl
end Go.Proofs.Ytkhfddodmjnecaa

set_option linter.all false
namespace Go.Proofs.Ytkhfddodmjnecaa
open Go.ChangeShapes Go.WideShapes Go.ChangeAt Go.RowKit
set_option maxHeartbeats 2000000
set_option maxRecDepth 20000

section
variable {w w' : World} {bw bs B n : Nat} {s : S3} {ov bv ov' bv' : Value}
theorem FrR.cell (h : FrR w w' bw bs ov bv ov' bv') {k o : Nat} (hk : k < w.heap.size) (k1 : k ≠ bw) (k2 : k ≠ bs) (k3 : ov.ownBlock ≠ some k) (k4 : bv.ownBlock ≠ some k) : w'.cell? ⟨k, o, none⟩ = w.cell? ⟨k, o, none⟩ :=
 World.cell?_of_block (w := w) (a := ⟨k, o, none⟩) (h.block k hk k1 k2 k3 k4)
end
end Go.Proofs.Ytkhfddodmjnecaa

set_option linter.all false
namespace Go.Proofs.Ytkhfddodmjnecaa
open Go.ChangeShapes Go.WideShapes Go.ChangeAt Go.RowKit
set_option maxHeartbeats 2000000
set_option maxRecDepth 20000

theorem far_set {w : World} {B n sz g i : Nat} {e : TypeId} {v x : Value} {xs : List Value} (h : w.ownsRow B e sz v n xs) (hg : g < B) : (w.setCell ⟨g, i, none⟩ x).ownsRow B e sz v n xs := by
 have hgr : w.grownBy (w.setCell ⟨g, i, none⟩ x) (some g) := ⟨rfl, rfl, rfl, by simp, fun k _ hk => Below.heap_setCell w ⟨g, i, none⟩ _ k (fun e => hk (by rw [show k = g from e]))⟩
 exact World.ownsRow.kept h hgr (ne_of (row_far h hg))
end Go.Proofs.Ytkhfddodmjnecaa

set_option linter.all false
namespace Go.Proofs.Ytkhfddodmjnecaa
open Go.ChangeShapes Go.WideShapes Go.ChangeAt Go.RowKit
set_option maxHeartbeats 2000000
set_option maxRecDepth 20000

end Go.Proofs.Ytkhfddodmjnecaa

set_option linter.all false
namespace Go.Proofs.Ytkhfddodmjnecaa
open Go.ChangeShapes Go.WideShapes Go.ChangeAt Go.RowKit
set_option maxHeartbeats 2000000
set_option maxRecDepth 20000

end Go.Proofs.Ytkhfddodmjnecaa

set_option linter.all false
namespace Go.Proofs.Ytkhfddodmjnecaa
open Go.ChangeShapes Go.WideShapes Go.ChangeAt Go.RowKit
set_option maxHeartbeats 2000000
set_option maxRecDepth 20000

/-- a table of rows of the call's own -/
structure PT (W0 w : World) (gP B n : Nat) (vs : List Value) (rows : List (List Int)) : Prop where
 below : Below W0.heap.size W0 w
 tab : w.ownsRow 0 37 1 (.slice (some ⟨gP, 0, none⟩) n n) n vs
 row : ∀ j, j < n → OwnI w B (vs.getD j undef) (rows.getD j [])
 ne : ∀ i j, i < n → j < n → i ≠ j → (vs.getD i undef).ownBlock = none ∨ (vs.getD i undef).ownBlock ≠ (vs.getD j undef).ownBlock
 g0 : W0.heap.size ≤ gP
 gB : gP < B
 Bw : B ≤ w.heap.size
 len : rows.length = n
section
variable {W0 w w' : World} {gP B n : Nat} {vs : List Value} {rows : List (List Int)}
theorem PT.vlen (h : PT W0 w gP B n vs rows) : vs.length = n := by have := h.tab.1; omega
theorem PT.grow (h : PT W0 w gP B n vs rows) (hb : Below w.heap.size w w') : PT W0 w' gP B n vs rows := by
 have hg : w.grownBy w' none := ⟨hb.os, hb.tape, hb.output, hb.size, fun k hk _ => hb.block k hk⟩
 have h1 := h.g0
 have h2 := h.gB
 have h3 := h.Bw
 exact ⟨h.below.trans (hb.mono (by omega)), World.ownsRow.kept h.tab hg (.inr (by simp [Value.ownBlock])), fun j hj => (h.row j hj).below hb, h.ne, h.g0, h.gB, Nat.le_trans h.Bw hb.size, h.len⟩
theorem PT.cell (h : PT W0 w gP B n vs rows) {j : Nat} (hj : j < n) : w.cell? ⟨gP, j, none⟩ = some (vs.getD j undef) := by
 have := h.tab.cellAt j (by omega)
 rw [this]
 simp [List.getD, h.vlen, hj]
theorem getD_setV (l : List Value) (i j : Nat) (x : Value) (h : i < l.length) : (l.set i x).getD j undef = if j = i then x else l.getD j undef := by
 simp only [List.getD, List.getElem?_set]
 by_cases e : i = j
 ·subst e; simp [h]
 ·simp [e, Ne.symm e]
theorem getD_setR (l : List (List Int)) (i j : Nat) (x : List Int) (h : i < l.length) : (l.set i x).getD j [] = if j = i then x else l.getD j [] := by
 simp only [List.getD, List.getElem?_set]
 by_cases e : i = j
 ·subst e; simp [h]
 ·simp [e, Ne.symm e]
theorem PT.push {v' : Value} {j : Nat} {x : Int} (h : PT W0 w gP B n vs rows) (hj : j < n) (hg : w.grownBy w' (vs.getD j undef).ownBlock)
  (ho : w'.ownsRow B 3 1 v' ((rows.getD j []).length + 1) ((rows.getD j []).map (Value.int .i64) ++ [.int .i64 x])) (hat : v'.ownBlock = (vs.getD j undef).ownBlock ∨ v'.ownBlock = some w.heap.size) :
  PT W0 (w'.setCell ⟨gP, j, none⟩ v') gP B n (vs.set j v') (rows.set j (rows.getD j [] ++ [x])) := by
 have h1 := h.g0
 have h2 := h.gB
 have h3 := h.Bw
 have hvl := h.vlen
 have hrl := h.len
 have fr : ∀ i, i < n → ∀ b, (vs.getD i undef).ownBlock = some b → B ≤ b ∧ b < w.heap.size := fun i hi b e => World.ownsRow.lt (h.row i hi) b e
 have htab := World.ownsRow.kept h.tab hg (.inr (fun e => by have := (fr j hj gP e.symm).1; omega))
 obtain ⟨htab2, hg2⟩ := htab.stored j v'
 have hB1 := Nat.le_trans h.Bw hg.size
 refine ⟨?_, htab2, fun i hi => ?_, fun i k hi hk hik => ?_, h.g0, h.gB, by simpa using hB1, by simpa using h.len⟩
 ·exact (grown_belG h.below (Nat.le_trans (by omega) h.Bw) hg (fun b e => by have := (fr j hj b e).1; omega)).setCell h.g0 _
 ·rw [getD_setV _ _ _ _ (by omega), getD_setR _ _ _ _ (by omega)]
  by_cases e : i = j
  ·rw [if_pos e, if_pos e]
   have hown : OwnI w' B v' (rows.getD j [] ++ [x]) := by unfold OwnI; simpa using ho
   exact far_set hown h.gB
  ·rw [if_neg e, if_neg e]
   exact far_set (World.ownsRow.kept (h.row i hi) hg (h.ne i j hi hj e)) h.gB
 ·rw [getD_setV _ _ _ _ (by omega), getD_setV _ _ _ _ (by omega)]
  by_cases e : i = j
  ·rw [if_pos e, if_neg (fun e2 => hik (e.trans e2.symm))]
   rcases hat with e2 | e2
   ·rw [e2]; exact h.ne j k hj hk (fun e3 => hik (e.trans e3))
   ·right
    rw [e2]
    intro e3
    have := (fr k hk _ e3.symm).2
    omega
  ·rw [if_neg e]
   by_cases e4 : k = j
   ·rw [if_pos e4]
    rcases hat with e2 | e2
    ·rw [e2]; exact h.ne i j hi hj e
    ·by_cases e5 : (vs.getD i undef).ownBlock = none
     ·exact .inl e5
     ·right
      rw [e2]
      intro e3
      have := (fr i hi _ e3).2
      omega
   ·rw [if_neg e4]; exact h.ne i k hi hk hik
end
end Go.Proofs.Ytkhfddodmjnecaa

set_option linter.all false
namespace Go.Proofs.Ytkhfddodmjnecaa
open Go.ChangeShapes Go.WideShapes Go.ChangeAt Go.RowKit
set_option maxHeartbeats 2000000
set_option maxRecDepth 20000

/-- a list that is read, in a block that none of a table's rows lies in -/
def OutFar (w : World) (gP n : Nat) (vs : List Value) (a : Option Addr) (L : List Int) : Prop :=
 ∀ j, j < L.length → ∃ b o, a = some ⟨b, o, none⟩ ∧ b < w.heap.size ∧ b ≠ gP ∧ (∀ i, i < n → (vs.getD i undef).ownBlock ≠ some b) ∧ w.cell? ⟨b, o + j, none⟩ = some (.int .i64 (L.getD j 0))
theorem OutFar.push {w w' : World} {gP n : Nat} {vs : List Value} {a : Option Addr} {L : List Int} {v' : Value} {j : Nat} (h : OutFar w gP n vs a L) (hl : vs.length = n) (hj : j < n) (hg : w.grownBy w' (vs.getD j undef).ownBlock)
  (hat : v'.ownBlock = (vs.getD j undef).ownBlock ∨ v'.ownBlock = some w.heap.size) : OutFar (w'.setCell ⟨gP, j, none⟩ v') gP n (vs.set j v') a L := fun i hi => by
 obtain ⟨b, o, e, h1, h2, h3, h4⟩ := h i hi
 refine ⟨b, o, e, by have := hg.size; simp; omega, h2, fun k hk => ?_, ?_⟩
 ·rw [getD_setV _ _ _ _ (by omega)]
  by_cases e2 : k = j
  ·rw [if_pos e2]
   rcases hat with e3 | e3
   ·rw [e3]; exact h3 j hj
   ·rw [e3]; intro e4; simp only [Option.some.injEq] at e4; omega
  ·rw [if_neg e2]; exact h3 k hk
 ·rw [World.cell?_setCell_other _ _ _ _ (fun e => h2 (by simp only [Addr.mk.injEq] at e; first | exact e.1 | exact e.1.symm)), grown_cell hg h1 (h3 j hj)]
  exact h4
end Go.Proofs.Ytkhfddodmjnecaa
