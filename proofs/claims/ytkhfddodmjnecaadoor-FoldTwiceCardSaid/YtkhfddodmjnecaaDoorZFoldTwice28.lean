/-
 What is told in any order is what the document's rounds come to, plain.; What is told in any order is what the document's rounds come to: the two are the same, plain.; What is not reached hears nothing, plain.; A procedure in the place of another one: what it owes, and what is right then. Plain.
-/
import Derived.Test.YtkhfddodmjnecaaDoorZFoldTwice26
import Derived.Test.YtkhfddodmjnecaaDoorZFoldTwice27
import Derived.Test.YtkhfddodmjnecaaDoorZFoldTwice21

set_option linter.all false
namespace Go.Proofs.YtkhfddodmjnecaaDoor
set_option linter.unusedVariables false

theorem fold_above {p : Pr} {X : Tb} {g : Option Ro} : ∀ (l : List Int) (x : Option Ro), LeC g x → (∀ k ∈ l, (reachP p).getD k.toNat false = true → ∀ t, X.getD k.toNat none = some t → LeC g (some (thrC t (p.blks.getD k.toNat default).ins))) →
  LeC g (l.foldl (fun x k => if (reachP p).getD k.toNat false = true then hearC x (X.getD k.toNat none) (p.blks.getD k.toNat default).ins else x) x)
 | [], x, hx, _ => hx
 | q :: l, x, hx, h => by
  rw [List.foldl_cons]
  refine fold_above l _ ?_ fun k hk => h k (List.mem_cons_of_mem _ hk)
  split
  ·have hq := h q List.mem_cons_self ‹_›
   cases ht : X.getD q.toNat none with
   | none => exact hx
   | some t =>
    have h1 := hq t ht
    cases x with
    | none => exact h1
    | some a =>
     cases g with
     | none => exact h1.elim
     | some g => exact le_meetC hx h1
  ·exact hx
theorem spC1_news (T : Ro) (s : Tb × Bool) (q : Int) (h : (spC1 T s q).2 = false) : s.2 = false := by
 unfold spC1 at h
 split at h
 ·exact h
 ·split at h
  ·cases h
  ·exact (Bool.or_eq_false_iff.1 h).2
theorem spC_news (T : Ro) (L : List Int) (X : Tb) : ∀ j k, (spC T (L.take (k + j)) X).2 = false → (spC T (L.take k) X).2 = false
 | 0, _, h => h
 | j + 1, k, h => by
  refine spC_news T L X j k ?_
  by_cases e : k + j < L.length
  ·rw [← Nat.add_assoc, spC_take T L X (k + j) e] at h
   exact spC1_news _ _ _ h
  ·rw [List.take_of_length_le (by omega)] at h ⊢
   exact h
theorem still_le {R : Nat} {T : Ro} {L : List Int} {X : Tb} (hL : ∀ q ∈ L, 0 ≤ q ∧ q < (X.length : Int)) (hT : T.length = R) (hX : LenC R X) (h : spC T L X = (X, false)) {q : Int} (hq : q ∈ L) (h0 : q ≠ 0) : LeC (X.getD q.toNat none) (some T) := by
 obtain ⟨k, hk, rfl⟩ := List.getElem_of_mem hq
 have pre : ∀ j, j ≤ L.length → spC T (L.take j) X = (X, false) := fun j hj => by
  rcases (spC_mu R T L X hL hT hX j).1 with e | ⟨e, -⟩
  ·exact e
  ·have := spC_news T L X (L.length - j) j (by rw [show j + (L.length - j) = L.length by omega, List.take_length, h])
   rw [this] at e; cases e
 have h1 := pre (k + 1) (by omega)
 rw [spC_take T L X k hk, pre k (by omega)] at h1
 have hg : L.getD k 0 = L[k] := by simp [List.getD, hk]
 rw [hg] at h1
 unfold spC1 at h1
 rw [if_neg h0] at h1
 dsimp only at h1
 cases ho : X.getD (L[k]).toNat none with
 | none => rw [ho] at h1; simp at h1
 | some o =>
  rw [ho] at h1
  simp only [Prod.mk.injEq, Bool.or_false] at h1
  have := wentC_no h1.2
  have h2 := meetC_right o T ((hX _ o ho).trans hT.symm)
  rw [this] at h2
  exact h2
theorem spC1_zero (T : Ro) (s : Tb × Bool) (q : Int) (hq : 0 ≤ q) : (spC1 T s q).1.getD 0 none = s.1.getD 0 none := by
 unfold spC1
 split
 ·rfl
 ·have : q.toNat ≠ 0 := by omega
  split <;> simp [List.getD, List.getElem?_set, this]
theorem spC_ind (T : Ro) (L : List Int) (X : Tb) (S : Tb → Prop) (h0 : S X) (h : ∀ s q, q ∈ L → S s.1 → S (spC1 T s q).1) : ∀ k, S (spC T (L.take k) X).1
 | 0 => h0
 | k + 1 => by
  have ih := spC_ind T L X S h0 h k
  by_cases e : k < L.length
  ·rw [spC_take T L X k e]
   exact h _ _ (by simp [List.getD, e]) ih
  ·rw [List.take_of_length_le (by omega)] at ih ⊢
   exact ih
theorem spC_all (T : Ro) (L : List Int) (X : Tb) (S : Tb → Prop) (h0 : S X) (h : ∀ s q, q ∈ L → S s.1 → S (spC1 T s q).1) : S (spC T L X).1 := by
 have := spC_ind T L X S h0 h L.length
 rwa [List.take_length] at this
theorem X0C_at (n R i : Nat) (hn : 0 < n) : (X0C n R).getD i none = if i = 0 then some (roNo R) else none := by
 unfold X0C
 by_cases e : i = 0
 ·subst e; rw [if_pos rfl]; simp [List.getD, tbNo, hn]
 ·rw [if_neg e]
  have : ((tbNo n).set 0 (some (roNo R))).getD i none = (tbNo n).getD i none := by simp [List.getD, List.getElem?_set, Ne.symm e]
  rw [this, tbNo_at]
theorem run_zero {p : Pr} {R : Nat} (h0 : 0 < p.blks.length) (hL : ∀ n, n < p.blks.length → ∀ q ∈ outsB (p.blks.getD n default), 0 ≤ q ∧ q < (p.blks.length : Int)) {od : List Int} (hod : ∀ n : Nat, (n : Int) ∈ od → n < p.blks.length) {X : Tb} (h : RunC p od (X0C p.blks.length R) X) : X.getD 0 none = some (roNo R) := by
 induction h with
 | start => rw [X0C_at _ _ _ h0, if_pos rfl]
 | step X n t _ hn ht ih =>
  refine spC_all _ _ X (fun Y => Y.getD 0 none = some (roNo R)) ih fun s q hq hs => ?_
  rw [spC1_zero _ _ _ (hL n (hod n hn) q hq).1]; exact hs
end Go.Proofs.YtkhfddodmjnecaaDoor

set_option linter.all false
namespace Go.Proofs.YtkhfddodmjnecaaDoor
set_option linter.unusedVariables false

theorem preds_mem {p : Pr} {q k : Int} (h : k ∈ predsP p q) : ∃ n : Nat, k = (n : Int) ∧ n < p.blks.length ∧ q ∈ outsB (p.blks.getD n default) := by
 unfold predsP at h
 rw [List.mem_map] at h
 obtain ⟨n, hn, rfl⟩ := h
 rw [List.mem_filter, List.mem_range, hasL_iff] at hn
 refine ⟨n, rfl, hn.1, ?_⟩
 have := hn.2
 unfold outsP at this
 exact (List.mem_filter.1 this).1
theorem mem_preds {p : Pr} {q : Int} {n : Nat} (hn : n < p.blks.length) (hq : q ∈ outsB (p.blks.getD n default)) (h0 : 0 ≤ q) (h1 : q < (p.blks.length : Int)) : (n : Int) ∈ predsP p q := by
 unfold predsP
 rw [List.mem_map]
 refine ⟨n, ?_, rfl⟩
 rw [List.mem_filter, List.mem_range, hasL_iff]
 refine ⟨hn, ?_⟩
 unfold outsP
 rw [List.mem_filter]
 exact ⟨hq, by simp [h0, h1]⟩
section
variable {p : Pr} {R : Nat} (h0 : 0 < p.blks.length) (hL : ∀ n, n < p.blks.length → ∀ q ∈ outsB (p.blks.getD n default), 0 ≤ q ∧ q < (p.blks.length : Int))
include h0 hL
theorem run_down {G : Tb} (hG : rdC p R G = G) (hGl : LenC R G) {X : Tb} (h : RunC p (wkD p).ord.reverse (X0C p.blks.length R) X) : LeT G X := by
 have hat : ∀ i, i < p.blks.length → G.getD i none = rdB p R G i := fun i hi => by
  have := rdC_at p R G i
  rw [hG, if_pos hi] at this
  exact this
 induction h with
 | start =>
  intro i
  rw [X0C_at _ _ _ h0]
  by_cases e : i = 0
  ·subst e
   rw [if_pos rfl, hat 0 h0]
   unfold rdB
   rw [if_pos rfl]
   exact LeC.refl _
  ·rw [if_neg e]; exact True.intro
 | step X n t _ hn ht ih =>
  have hm : (n : Int) ∈ (wkD p).ord := List.mem_reverse.1 hn
  have hnl : n < p.blks.length := by have := wkD_ord p _ hm; omega
  have hr : (reachP p).getD n false = true := by rw [reachP_get p n hnl, hasL_iff]; exact hm
  have hgn := ih n
  rw [ht] at hgn
  obtain ⟨g, hg⟩ : ∃ g, G.getD n none = some g := by
   cases hx : G.getD n none with
   | none => rw [hx] at hgn; exact hgn.elim
   | some g => exact ⟨g, rfl⟩
  rw [hg] at hgn
  have key : ∀ q ∈ outsB (p.blks.getD n default), q ≠ 0 → LeC (G.getD q.toNat none) (some (thrC t (p.blks.getD n default).ins)) := fun q hq hq0 => by
   obtain ⟨a0, a1⟩ := hL n hnl q hq
   obtain ⟨m, rfl⟩ := Int.eq_ofNat_of_zero_le a0
   have hm0 : m ≠ 0 := by omega
   rw [Int.toNat_natCast, hat m (by omega)]
   unfold rdB
   rw [if_neg hm0]
   refine LeC.trans (fold_hears (p := p) (R := R) hGl (k := (n : Int)) (t := g) (by rw [Int.toNat_natCast]; exact hr) (by rw [Int.toNat_natCast]; exact hg) _ none (fun a ha => by cases ha) (.inl (mem_preds hnl hq a0 a1))) ?_
   rw [Int.toNat_natCast]
   exact thrC_le _ hgn
  refine spC_all _ _ X (fun Y => LeT G Y) ih fun s q hq hs => ?_
  unfold spC1
  split
  ·exact hs
  ·rename_i hq0
   have hk := key q hq hq0
   split
   ·intro i
    by_cases e : i = q.toNat
    ·subst e
     by_cases hl : q.toNat < s.1.length
     ·rw [show (s.1.set q.toNat (some (thrC t (p.blks.getD n default).ins))).getD q.toNat none = some (thrC t (p.blks.getD n default).ins) by simp [List.getD, hl]]
      exact hk
     ·have : (s.1.set q.toNat (some (thrC t (p.blks.getD n default).ins)))[q.toNat]? = none := List.getElem?_eq_none (by simp; omega)
      rw [List.getD_eq_getElem?_getD (l := s.1.set _ _), this]
      exact True.intro
    ·rw [show (s.1.set q.toNat (some (thrC t (p.blks.getD n default).ins))).getD i none = s.1.getD i none by simp [List.getD, List.getElem?_set, Ne.symm e]]
     exact hs i
   ·rename_i o ho
    intro i
    by_cases e : i = q.toNat
    ·subst e
     have hso := hs q.toNat
     rw [ho] at hso
     by_cases hl : q.toNat < s.1.length
     ·rw [show (s.1.set q.toNat (some (meetC o (thrC t (p.blks.getD n default).ins)))).getD q.toNat none = some (meetC o (thrC t (p.blks.getD n default).ins)) by simp [List.getD, hl]]
      cases hx : G.getD q.toNat none with
      | none => rw [hx] at hso; exact hso.elim
      | some y =>
       rw [hx] at hso hk
       exact le_meetC hso hk
     ·have : (s.1.set q.toNat (some (meetC o (thrC t (p.blks.getD n default).ins))))[q.toNat]? = none := List.getElem?_eq_none (by simp; omega)
      rw [List.getD_eq_getElem?_getD (l := s.1.set _ _), this]
      exact True.intro
    ·rw [show (s.1.set q.toNat (some (meetC o (thrC t (p.blks.getD n default).ins)))).getD i none = s.1.getD i none by simp [List.getD, List.getElem?_set, Ne.symm e]]
     exact hs i
theorem run_up {X : Tb} (hl : X.length = p.blks.length) (hX : LenC R X) (h : RunC p (wkD p).ord.reverse (X0C p.blks.length R) X) (hs : ∀ n : Nat, (n : Int) ∈ (wkD p).ord.reverse → StillC p X n) : ∀ k, LeT X (rdN p R k)
 | 0 => fun i => by rw [rdN_zero]; exact True.intro
 | k + 1 => by
  have ih := run_up hl hX h hs k
  have h1 : LeT X (rdC p R X) := fun i => by
   rw [rdC_at]
   split
   ·rename_i hi
    unfold rdB
    split
    ·rename_i e
     subst e
     rw [run_zero h0 hL (fun n hn => by have := wkD_ord p _ (List.mem_reverse.1 hn); omega) h]
     exact LeC.refl _
    ·rename_i e
     refine fold_above _ none True.intro fun q hq hr t ht => ?_
     obtain ⟨n, rfl, hn, hqo⟩ := preds_mem hq
     rw [Int.toNat_natCast] at hr ht ⊢
     rw [reachP_get p n hn, hasL_iff] at hr
     have hst := hs n (List.mem_reverse.2 hr) t ht
     have := still_le (R := R) (by rw [hl]; exact hL n hn) (by rw [thrC_len]; exact hX n t ht) hX hst hqo (by omega)
     rw [Int.toNat_natCast] at this
     exact this
   ·rename_i hi
    exact True.intro
  intro i
  exact (h1 i).trans ((rdC_le (p := p) ih hX).1 i)
theorem run_rounds {X : Tb} (hl : X.length = p.blks.length) (hX : LenC R X) (h : RunC p (wkD p).ord.reverse (X0C p.blks.length R) X) (hs : ∀ n : Nat, (n : Int) ∈ (wkD p).ord.reverse → StillC p X n) {k : Nat} (hk : p.blks.length * (R + 1) ≤ k) : X = rdN p R k := by
 have hG : rdC p R (rdN p R k) = rdN p R k := rdN_still p R k hk
 have a := run_down h0 hL hG (rdN_down p R k).2 h
 have b := run_up h0 hL hl hX h hs k
 refine List.ext_getElem (by rw [hl, rdN_len]) fun i h1 h2 => ?_
 have := LeC.anti (b i) (a i)
 simpa [List.getD, h1, h2] using this
end
end Go.Proofs.YtkhfddodmjnecaaDoor

set_option linter.all false
namespace Go.Proofs.YtkhfddodmjnecaaDoor
set_option linter.unusedVariables false

theorem run_reach {p : Pr} {R : Nat} (h0 : 0 < p.blks.length) (hL : ∀ n, n < p.blks.length → ∀ q ∈ outsB (p.blks.getD n default), 0 ≤ q ∧ q < (p.blks.length : Int)) {X : Tb} (h : RunC p (wkD p).ord.reverse (X0C p.blks.length R) X) :
  ∀ i t, X.getD i none = some t → ((i : Nat) : Int) ∈ (wkD p).ord := by
 induction h with
 | start =>
  intro i t e
  rw [X0C_at _ _ _ h0] at e
  split at e
  ·rename_i e2
   subst e2
   exact ord_zero p h0
  ·cases e
 | step X n t hrun hn ht ih =>
  have hm : (n : Int) ∈ (wkD p).ord := List.mem_reverse.1 hn
  have hnl : n < p.blks.length := by have := wkD_ord p _ hm; omega
  refine spC_all _ _ X (fun Y => ∀ i t, Y.getD i none = some t → ((i : Nat) : Int) ∈ (wkD p).ord) ih fun s q hq hs => ?_
  obtain ⟨a0, a1⟩ := hL n hnl q hq
  have hqo : q ∈ (wkD p).ord := ord_closed p h0 hm (by
   rw [Int.toNat_natCast]
   unfold outsP
   rw [List.mem_filter]
   exact ⟨hq, by simp [a0, a1]⟩)
  have set : ∀ a i u, (s.1.set q.toNat a).getD i none = some u → ((i : Nat) : Int) ∈ (wkD p).ord := fun a i u e => by
   by_cases e2 : i = q.toNat
   ·subst e2
    rw [Int.toNat_of_nonneg a0]; exact hqo
   ·rw [show (s.1.set q.toNat a).getD i none = s.1.getD i none by simp [List.getD, List.getElem?_set, Ne.symm e2]] at e
    exact hs i u e
  unfold spC1
  split
  ·exact hs
  ·split
   ·exact set _
   ·exact set _
/-- what the document's rounds leave at last -/
def endC (p : Pr) (R : Nat) (X : Tb) (i : Nat) : Ro := if (reachP p).getD i false = true then (X.getD i none).getD (roNo R) else roNo R
theorem run_end {p : Pr} {R : Nat} (h0 : 0 < p.blks.length) (hL : ∀ n, n < p.blks.length → ∀ q ∈ outsB (p.blks.getD n default), 0 ≤ q ∧ q < (p.blks.length : Int)) {X : Tb} (h : RunC p (wkD p).ord.reverse (X0C p.blks.length R) X) {i : Nat} (hi : i < p.blks.length) : (X.getD i none).getD (roNo R) = endC p R X i := by
 unfold endC
 split
 ·rfl
 ·rename_i hr
  cases e : X.getD i none with
  | none => rfl
  | some t =>
   have := run_reach h0 hL h i t e
   rw [reachP_get p i hi, hasL_iff] at hr
   exact absurd this hr
end Go.Proofs.YtkhfddodmjnecaaDoor

set_option linter.all false
namespace Go.Proofs.YtkhfddodmjnecaaDoor
set_option linter.unusedVariables false

def sizeL (bs : List Bk) : Nat := (bs.map fun b => b.ins.length).sum
theorem sizeL_range (bs : List Bk) : sizeL bs = ((List.range bs.length).map fun n => (bs.getD n default).ins.length).sum := by
 unfold sizeL
 congr 1
 apply List.ext_getElem
 ·simp
 ·intro i h1 h2
  have hi : i < bs.length := by simpa using h1
  simp [List.getD, hi]
theorem okI_same {p q : Pr} (h1 : q.regs = p.regs) (h2 : q.objs = p.objs) (m : Md) (i : In) : okI m q i = okI m p i := by
 unfold okI callF moreF regF
 rw [h1, h2]
theorem endF_same {p q : Pr} (h1 : q.regs = p.regs) (h2 : q.void = p.void) (h3 : q.blks.length = p.blks.length) (b : Bk) : endF q b = endF p b := by
 unfold endF blockF regF
 rw [h1, h2, h3]
theorem getD_in {α : Type} {l : List α} {j : Nat} {d : α} (h : j < l.length) : l.getD j d ∈ l := by simp [List.getD, h]
theorem i64_0 : I64 0 := ⟨by decide, by decide⟩
theorem i64_1 : I64 1 := ⟨by decide, by decide⟩
theorem i64_m : I64 (-1) := ⟨by decide, by decide⟩
end Go.Proofs.YtkhfddodmjnecaaDoor
