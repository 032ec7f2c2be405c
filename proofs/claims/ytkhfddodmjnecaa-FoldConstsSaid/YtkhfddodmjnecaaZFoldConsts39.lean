/-
 What is told in any order is what the document's rounds come to: the two are the same, plain.; What is not reached hears nothing, plain.; Rows of the document (rushlightref17.Row) in memory.; A row of the document is copied (rushlightref17.copied).
-/
import Derived.Test.YtkhfddodmjnecaaZFoldConsts38
import Derived.Test.YtkhfddodmjnecaaZFoldConsts37
import Derived.Test.YtkhfddodmjnecaaZFoldConsts07

set_option linter.all false
namespace Go.Proofs.Ytkhfddodmjnecaa
set_option linter.unusedVariables false

theorem preds_mem {p : Pr} {q k : Int} (h : k ∈ predsP p q) : ∃ n : Nat, k = (n : Int) ∧ n < p.blks.length ∧ q ∈ outsB (p.blks.getD n default) := by
 unfold predsP at h
 rw [List.mem_map] at h
 obtain ⟨n, hn, rfl⟩ := h
 rw [List.mem_filter, List.mem_range, hasL_iff] at hn
 refine ⟨n, rfl, hn.1, ?_⟩
 have := hn.2
 unfold outsP at this
 exact (List.mem_filter.1 this).1
theorem mem_preds {p : Pr} {q : Int} {n : Nat} (hn : n < p.blks.length) (hq : q ∈ outsB (p.blks.getD n default)) (h0 : 0 ≤ q) (h1 : q < (p.blks.length : Int)) : (n : Int) ∈ predsP p q := by
 unfold predsP
 rw [List.mem_map]
 refine ⟨n, ?_, rfl⟩
 rw [List.mem_filter, List.mem_range, hasL_iff]
 refine ⟨hn, ?_⟩
 unfold outsP
 rw [List.mem_filter]
 exact ⟨hq, by simp [h0, h1]⟩
section
variable {p : Pr} {R : Nat} (h0 : 0 < p.blks.length) (hL : ∀ n, n < p.blks.length → ∀ q ∈ outsB (p.blks.getD n default), 0 ≤ q ∧ q < (p.blks.length : Int))
include h0 hL
theorem run_down {G : Tb} (hG : rdC p R G = G) (hGl : LenC R G) {X : Tb} (h : RunC p (wkD p).ord.reverse (X0C p.blks.length R) X) : LeT G X := by
 have hat : ∀ i, i < p.blks.length → G.getD i none = rdB p R G i := fun i hi => by
  have := rdC_at p R G i
  rw [hG, if_pos hi] at this
  exact this
 induction h with
 | start =>
  intro i
  rw [X0C_at _ _ _ h0]
  by_cases e : i = 0
  ·subst e
   rw [if_pos rfl, hat 0 h0]
   unfold rdB
   rw [if_pos rfl]
   exact LeC.refl _
  ·rw [if_neg e]; exact True.intro
 | step X n t _ hn ht ih =>
  have hm : (n : Int) ∈ (wkD p).ord := List.mem_reverse.1 hn
  have hnl : n < p.blks.length := by have := wkD_ord p _ hm; omega
  have hr : (reachP p).getD n false = true := by rw [reachP_get p n hnl, hasL_iff]; exact hm
  have hgn := ih n
  rw [ht] at hgn
  obtain ⟨g, hg⟩ : ∃ g, G.getD n none = some g := by
   cases hx : G.getD n none with
   | none => rw [hx] at hgn; exact hgn.elim
   | some g => exact ⟨g, rfl⟩
  rw [hg] at hgn
  have key : ∀ q ∈ outsB (p.blks.getD n default), q ≠ 0 → LeC (G.getD q.toNat none) (some (thrC t (p.blks.getD n default).ins)) := fun q hq hq0 => by
   obtain ⟨a0, a1⟩ := hL n hnl q hq
   obtain ⟨m, rfl⟩ := Int.eq_ofNat_of_zero_le a0
   have hm0 : m ≠ 0 := by omega
   rw [Int.toNat_natCast, hat m (by omega)]
   unfold rdB
   rw [if_neg hm0]
   refine LeC.trans (fold_hears (p := p) (R := R) hGl (k := (n : Int)) (t := g) (by rw [Int.toNat_natCast]; exact hr) (by rw [Int.toNat_natCast]; exact hg) _ none (fun a ha => by cases ha) (.inl (mem_preds hnl hq a0 a1))) ?_
   rw [Int.toNat_natCast]
   exact thrC_le _ hgn
  refine spC_all _ _ X (fun Y => LeT G Y) ih fun s q hq hs => ?_
  unfold spC1
  split
  ·exact hs
  ·rename_i hq0
   have hk := key q hq hq0
   split
   ·intro i
    by_cases e : i = q.toNat
    ·subst e
     by_cases hl : q.toNat < s.1.length
     ·rw [show (s.1.set q.toNat (some (thrC t (p.blks.getD n default).ins))).getD q.toNat none = some (thrC t (p.blks.getD n default).ins) by simp [List.getD, hl]]
      exact hk
     ·have : (s.1.set q.toNat (some (thrC t (p.blks.getD n default).ins)))[q.toNat]? = none := List.getElem?_eq_none (by simp; omega)
      rw [List.getD_eq_getElem?_getD (l := s.1.set _ _), this]
      exact True.intro
    ·rw [show (s.1.set q.toNat (some (thrC t (p.blks.getD n default).ins))).getD i none = s.1.getD i none by simp [List.getD, List.getElem?_set, Ne.symm e]]
     exact hs i
   ·rename_i o ho
    intro i
    by_cases e : i = q.toNat
    ·subst e
     have hso := hs q.toNat
     rw [ho] at hso
     by_cases hl : q.toNat < s.1.length
     ·rw [show (s.1.set q.toNat (some (meetC o (thrC t (p.blks.getD n default).ins)))).getD q.toNat none = some (meetC o (thrC t (p.blks.getD n default).ins)) by simp [List.getD, hl]]
      cases hx : G.getD q.toNat none with
      | none => rw [hx] at hso; exact hso.elim
      | some y =>
       rw [hx] at hso hk
       exact le_meetC hso hk
     ·have : (s.1.set q.toNat (some (meetC o (thrC t (p.blks.getD n default).ins))))[q.toNat]? = none := List.getElem?_eq_none (by simp; omega)
      rw [List.getD_eq_getElem?_getD (l := s.1.set _ _), this]
      exact True.intro
    ·rw [show (s.1.set q.toNat (some (meetC o (thrC t (p.blks.getD n default).ins)))).getD i none = s.1.getD i none by simp [List.getD, List.getElem?_set, Ne.symm e]]
     exact hs i
theorem run_up {X : Tb} (hl : X.length = p.blks.length) (hX : LenC R X) (h : RunC p (wkD p).ord.reverse (X0C p.blks.length R) X) (hs : ∀ n : Nat, (n : Int) ∈ (wkD p).ord.reverse → StillC p X n) : ∀ k, LeT X (rdN p R k)
 | 0 => fun i => by rw [rdN_zero]; exact True.intro
 | k + 1 => by
  have ih := run_up hl hX h hs k
  have h1 : LeT X (rdC p R X) := fun i => by
   rw [rdC_at]
   split
   ·rename_i hi
    unfold rdB
    split
    ·rename_i e
     subst e
     rw [run_zero h0 hL (fun n hn => by have := wkD_ord p _ (List.mem_reverse.1 hn); omega) h]
     exact LeC.refl _
    ·rename_i e
     refine fold_above _ none True.intro fun q hq hr t ht => ?_
     obtain ⟨n, rfl, hn, hqo⟩ := preds_mem hq
     rw [Int.toNat_natCast] at hr ht ⊢
     rw [reachP_get p n hn, hasL_iff] at hr
     have hst := hs n (List.mem_reverse.2 hr) t ht
     have := still_le (R := R) (by rw [hl]; exact hL n hn) (by rw [thrC_len]; exact hX n t ht) hX hst hqo (by omega)
     rw [Int.toNat_natCast] at this
     exact this
   ·rename_i hi
    exact True.intro
  intro i
  exact (h1 i).trans ((rdC_le (p := p) ih hX).1 i)
theorem run_rounds {X : Tb} (hl : X.length = p.blks.length) (hX : LenC R X) (h : RunC p (wkD p).ord.reverse (X0C p.blks.length R) X) (hs : ∀ n : Nat, (n : Int) ∈ (wkD p).ord.reverse → StillC p X n) {k : Nat} (hk : p.blks.length * (R + 1) ≤ k) : X = rdN p R k := by
 have hG : rdC p R (rdN p R k) = rdN p R k := rdN_still p R k hk
 have a := run_down h0 hL hG (rdN_down p R k).2 h
 have b := run_up h0 hL hl hX h hs k
 refine List.ext_getElem (by rw [hl, rdN_len]) fun i h1 h2 => ?_
 have := LeC.anti (b i) (a i)
 simpa [List.getD, h1, h2] using this
end
end Go.Proofs.Ytkhfddodmjnecaa

set_option linter.all false
namespace Go.Proofs.Ytkhfddodmjnecaa
set_option linter.unusedVariables false

theorem run_reach {p : Pr} {R : Nat} (h0 : 0 < p.blks.length) (hL : ∀ n, n < p.blks.length → ∀ q ∈ outsB (p.blks.getD n default), 0 ≤ q ∧ q < (p.blks.length : Int)) {X : Tb} (h : RunC p (wkD p).ord.reverse (X0C p.blks.length R) X) :
  ∀ i t, X.getD i none = some t → ((i : Nat) : Int) ∈ (wkD p).ord := by
 induction h with
 | start =>
  intro i t e
  rw [X0C_at _ _ _ h0] at e
  split at e
  ·rename_i e2
   subst e2
   exact ord_zero p h0
  ·cases e
 | step X n t hrun hn ht ih =>
  have hm : (n : Int) ∈ (wkD p).ord := List.mem_reverse.1 hn
  have hnl : n < p.blks.length := by have := wkD_ord p _ hm; omega
  refine spC_all _ _ X (fun Y => ∀ i t, Y.getD i none = some t → ((i : Nat) : Int) ∈ (wkD p).ord) ih fun s q hq hs => ?_
  obtain ⟨a0, a1⟩ := hL n hnl q hq
  have hqo : q ∈ (wkD p).ord := ord_closed p h0 hm (by
   rw [Int.toNat_natCast]
   unfold outsP
   rw [List.mem_filter]
   exact ⟨hq, by simp [a0, a1]⟩)
  have set : ∀ a i u, (s.1.set q.toNat a).getD i none = some u → ((i : Nat) : Int) ∈ (wkD p).ord := fun a i u e => by
   by_cases e2 : i = q.toNat
   ·subst e2
    rw [Int.toNat_of_nonneg a0]; exact hqo
   ·rw [show (s.1.set q.toNat a).getD i none = s.1.getD i none by simp [List.getD, List.getElem?_set, Ne.symm e2]] at e
    exact hs i u e
  unfold spC1
  split
  ·exact hs
  ·split
   ·exact set _
   ·exact set _
/-- what the document's rounds leave at last -/
def endC (p : Pr) (R : Nat) (X : Tb) (i : Nat) : Ro := if (reachP p).getD i false = true then (X.getD i none).getD (roNo R) else roNo R
theorem run_end {p : Pr} {R : Nat} (h0 : 0 < p.blks.length) (hL : ∀ n, n < p.blks.length → ∀ q ∈ outsB (p.blks.getD n default), 0 ≤ q ∧ q < (p.blks.length : Int)) {X : Tb} (h : RunC p (wkD p).ord.reverse (X0C p.blks.length R) X) {i : Nat} (hi : i < p.blks.length) : (X.getD i none).getD (roNo R) = endC p R X i := by
 unfold endC
 split
 ·rfl
 ·rename_i hr
  cases e : X.getD i none with
  | none => rfl
  | some t =>
   have := run_reach h0 hL h i t e
   rw [reachP_get p i hi, hasL_iff] at hr
   exact absurd this hr
end Go.Proofs.Ytkhfddodmjnecaa

set_option linter.all false
namespace Go.Proofs.Ytkhfddodmjnecaa
open Go.ChangeShapes Go.WideShapes Go.ChangeAt Go.RowKit
set_option maxHeartbeats 4000000
set_option maxRecDepth 100000
set_option linter.unusedVariables false

/-- a slice that can be read, one cell an element -/
def RdVs (w : World) (v : Value) (xs : List Value) : Prop := ∃ a c, v = .slice a xs.length c ∧ xs.length ≤ c ∧ c ≤ maxLen ∧ ∀ i, i < xs.length → ∃ b o, a = some ⟨b, o, none⟩ ∧ w.cell? ⟨b, o + i, none⟩ = xs[i]?
theorem RdVs.ext {w w' : World} {v : Value} {xs : List Value} (h : RdVs w v xs) (he : Ext w w') : RdVs w' v xs := by
 obtain ⟨a, c, e, h1, h2, h3⟩ := h
 refine ⟨a, c, e, h1, h2, fun i hi => ?_⟩
 obtain ⟨b, o, e1, e2⟩ := h3 i hi
 refine ⟨b, o, e1, ?_⟩
 rw [List.getElem?_eq_getElem hi] at e2 ⊢
 exact he _ _ e2
def hasV (t : Ro) : List Value := t.map fun o => .bool o.isSome
def numV (t : Ro) : List Value := t.map fun o => .int .u32 (o.getD 0)
/-- a row of the document; none: nothing is known -/
def RwV (w : World) (v : Value) (o : Option Ro) : Prop := ∃ vh vn, v = .agg #[.bool o.isSome, vh, vn] ∧ RdVs w vh (hasV (o.getD [])) ∧ RdVs w vn (numV (o.getD []))
theorem RwV.ext {w w' : World} {v : Value} {o : Option Ro} (h : RwV w v o) (he : Ext w w') : RwV w' v o := by
 obtain ⟨vh, vn, e, h1, h2⟩ := h
 exact ⟨vh, vn, e, h1.ext he, h2.ext he⟩
theorem own_rdVs {w : World} {B : Nat} {e : TypeId} {v : Value} {xs : List Value} (h : w.ownsRow B e 1 v xs.length xs) : RdVs w v xs := by
 have h' := h
 obtain ⟨-, ⟨rfl, e2⟩ | ⟨g, cap, cur, rfl, -, -, h1, h2, -⟩⟩ := h
 ·exact ⟨none, 0, by rw [e2], by omega, by decide, fun i hi => by omega⟩
 ·refine ⟨some ⟨g, 0, none⟩, cap, rfl, h1, h2, fun i hi => ⟨g, 0, rfl, ?_⟩⟩
  rw [Nat.zero_add]
  exact World.ownsRow.cellAt h' i (by omega)
end Go.Proofs.Ytkhfddodmjnecaa

set_option linter.all false
namespace Go.Proofs.Ytkhfddodmjnecaa
open Go.ChangeShapes Go.WideShapes Go.ChangeAt Go.RowKit
set_option maxHeartbeats 4000000
set_option maxRecDepth 100000
set_option linter.unusedVariables false

/-- a row of the document that one may write -/
def OwRw (w : World) (B : Nat) (v : Value) (seen : Bool) (t : Ro) : Prop := ∃ vh vn, v = .agg #[.bool seen, vh, vn] ∧ w.ownsRow B 4 1 vh t.length (hasV t) ∧ w.ownsRow B 36 1 vn t.length (numV t)
/-- while a row is copied: what is ahead of B stays; the copy's struct is block B -/
structure CpM (W0 : World) (B : Nat) (S : Bool) (t : Ro) (wr : World) (vh vn : Value) (i j : Nat) : Prop where
 bx : wr.heap[B]? = some (.cells #[.bool S, vh, vn] 83)
 oh : wr.ownsRow (B + 1) 4 1 vh i (hasV (t.take i))
 on : wr.ownsRow (B + 1) 36 1 vn j (numV (t.take j))
 bl : Below B W0 wr
theorem info_u32 : (Try.prog.info? 36).map (fun i => (i.zero, i.size, i.bytes)) = some (some (.int .u32 0), 1, 4) := by kernel_rfl
theorem heap3 (w : World) (A B C : Obj) : ((((w.alloc A).alloc B).alloc C).heap[w.heap.size]? = some A) ∧ ((((w.alloc A).alloc B).alloc C).heap[w.heap.size + 1]? = some B) ∧ ((((w.alloc A).alloc B).alloc C).heap[w.heap.size + 2]? = some C) := by
 have s1 : (w.alloc A).heap.size = w.heap.size + 1 := by simp
 have s2 : ((w.alloc A).alloc B).heap.size = w.heap.size + 2 := by simp
 refine ⟨?_, ?_, ?_⟩
 ·rw [(below_alloc ((w.alloc A).alloc B) C).block _ (by omega), (below_alloc (w.alloc A) B).block _ (by omega)]
  exact heap_alloc_new w A
 ·rw [(below_alloc ((w.alloc A).alloc B) C).block _ (by omega), ← s1]
  exact heap_alloc_new (w.alloc A) B
 ·rw [← s2]
  exact heap_alloc_new ((w.alloc A).alloc B) C
theorem row_not {w : World} {B m s b : Nat} {e ty : TypeId} {v : Value} {xs : List Value} {cs : Array Value} (h : w.ownsRow B e s v m xs) (hb : w.heap[b]? = some (.cells cs ty)) (hne : e ≠ ty) : v.ownBlock ≠ some b := by
 obtain ⟨-, ⟨rfl, -⟩ | ⟨g', cap, cur, rfl, -, hg, -⟩⟩ := h
 ·intro e2; cases e2
 ·intro e2
  simp only [Value.ownBlock, Option.some.injEq] at e2
  subst e2
  rw [hb] at hg
  simp only [Option.some.injEq, Obj.cells.injEq] at hg
  exact hne hg.2.1.symm
theorem ow_form {w : World} {B n s : Nat} {e : TypeId} {v : Value} {xs : List Value} (h : w.ownsRow B e s v n xs) : ∃ a c, v = .slice a n c := by
 obtain ⟨-, ⟨rfl, rfl⟩ | ⟨g, cap, cur, rfl, -⟩⟩ := h
 ·exact ⟨none, 0, rfl⟩
 ·exact ⟨_, _, rfl⟩
theorem ow_base {w : World} {B B' n s : Nat} {e : TypeId} {v : Value} {xs : List Value} (h : w.ownsRow B e s v n xs) (hb : B' ≤ B) : w.ownsRow B' e s v n xs := by
 obtain ⟨hl, h | ⟨g, cap, cur, e1, e2, r⟩⟩ := h
 ·exact ⟨hl, .inl h⟩
 ·exact ⟨hl, .inr ⟨g, cap, cur, e1, Nat.le_trans hb e2, r⟩⟩
theorem ow_set {w : World} {B n s b i : Nat} {e : TypeId} {v u : Value} {xs : List Value} (h : w.ownsRow B e s v n xs) (hb : b < B) : (w.setCell ⟨b, i, none⟩ u).ownsRow B e s v n xs :=
 World.ownsRow.kept h (but_grownK (But.setCell b i w u)) (.inr (by
  obtain ⟨-, ⟨rfl, -⟩ | ⟨g, cap, cur, rfl, hg, -⟩⟩ := h
  ·intro e; cases e
  ·intro e
   simp only [Value.ownBlock, Option.some.injEq] at e
   omega))
theorem ow_ge {w : World} {B n s g : Nat} {e : TypeId} {v : Value} {xs : List Value} (h : w.ownsRow B e s v n xs) (hv : v.ownBlock = some g) : B ≤ g := by
 obtain ⟨-, ⟨rfl, -⟩ | ⟨g', cap, cur, rfl, hg, -⟩⟩ := h
 ·cases hv
 ·cases hv; exact hg
theorem ow_apart {w : World} {B B' n n' s s' : Nat} {e e' : TypeId} {v v' : Value} {xs xs' : List Value} (h : w.ownsRow B e s v n xs) (h' : w.ownsRow B' e' s' v' n' xs') (hne : e ≠ e') : v'.ownBlock = none ∨ v'.ownBlock ≠ v.ownBlock := by
 obtain ⟨-, ⟨rfl, -⟩ | ⟨g', cap, cur, rfl, -, hg, -⟩⟩ := h'
 ·exact .inl rfl
 ·exact .inr fun e2 => row_not h hg hne e2.symm
theorem hasV_take {t : Ro} {k : Nat} (h : k < t.length) : hasV (t.take (k + 1)) = hasV (t.take k) ++ [.bool (t.getD k none).isSome] := by
 unfold hasV
 rw [List.take_succ, List.getElem?_eq_getElem h, List.map_append]
 simp [List.getD, h]
theorem numV_take {t : Ro} {k : Nat} (h : k < t.length) : numV (t.take (k + 1)) = numV (t.take k) ++ [.int .u32 ((t.getD k none).getD 0)] := by
 unfold numV
 rw [List.take_succ, List.getElem?_eq_getElem h, List.map_append]
 simp [List.getD, h]
theorem CpM.has {W0 wr W w' : World} {B k j : Nat} {S sk : Bool} {t : Ro} {vh vn v' : Value} (h : CpM W0 B S t wr vh vn k j) (hk : k < t.length) (hsk : (t.getD k none).isSome = sk) (hb : Below wr.heap.size wr W) (hB : B ≤ W0.heap.size) (h1 : w'.ownsRow (B + 1) 4 1 v' (k + 1) (hasV (t.take k) ++ [.bool sk])) (hg : W.grownBy w' vh.ownBlock) : CpM W0 B S t (w'.setCell ⟨B, 1, none⟩ v') v' vn (k + 1) j := by
 have lB := (Array.getElem?_eq_some_iff.1 h.bx).1
 have hsz := hb.size
 have oh := own_below h.oh hb
 have on := own_below h.on hb
 have bx := (hg.block B (by omega) (fun e => by have := ow_ge h.oh e.symm; omega)).trans ((hb.block _ lB).trans h.bx)
 have on2 := on.kept hg (ow_apart oh on (by decide))
 refine ⟨?_, ?_, ow_set on2 (Nat.lt_succ_self _), ?_⟩
 ·rw [heap_setCell_same _ _ _ _ _ _ bx]; rfl
 ·rw [hasV_take hk, hsk]
  exact ow_set h1 (Nat.lt_succ_self _)
 ·exact ((h.bl.trans (hb.mono (by omega))).grown hg (by omega) (fun g e => by have := ow_ge h.oh e; omega)).setCell (p := ⟨B, 1, none⟩) (Nat.le_refl _) _
theorem CpM.num {W0 wr W w' : World} {B k j : Nat} {S : Bool} {z : Int} {t : Ro} {vh vn v' : Value} (h : CpM W0 B S t wr vh vn k j) (hk : j < t.length) (hz : (t.getD j none).getD 0 = z) (hb : Below wr.heap.size wr W) (hB : B ≤ W0.heap.size) (h1 : w'.ownsRow (B + 1) 36 1 v' (j + 1) (numV (t.take j) ++ [.int .u32 z])) (hg : W.grownBy w' vn.ownBlock) : CpM W0 B S t (w'.setCell ⟨B, 2, none⟩ v') vh v' k (j + 1) := by
 have lB := (Array.getElem?_eq_some_iff.1 h.bx).1
 have hsz := hb.size
 have oh := own_below h.oh hb
 have on := own_below h.on hb
 have bx := (hg.block B (by omega) (fun e => by have := ow_ge h.on e.symm; omega)).trans ((hb.block _ lB).trans h.bx)
 have oh2 := oh.kept hg (ow_apart on oh (by decide))
 refine ⟨?_, ow_set oh2 (Nat.lt_succ_self _), ?_, ?_⟩
 ·rw [heap_setCell_same _ _ _ _ _ _ bx]; rfl
 ·rw [numV_take hk, hz]
  exact ow_set h1 (Nat.lt_succ_self _)
 ·exact ((h.bl.trans (hb.mono (by omega))).grown hg (by omega) (fun g e => by have := ow_ge h.on e; omega)).setCell (p := ⟨B, 2, none⟩) (Nat.le_refl _) _
theorem copied_c (v : Value) (o : Option Ro) (w : World) (h : RwV w v o) (hl : (o.getD []).length ≤ 1000) :
  Calls Try.prog 84 #[v] w fun e w' => ∃ v', e = .returned v' ∧ OwRw w' w.heap.size v' o.isSome (o.getD []) ∧ Below w.heap.size w w' := by
 obtain ⟨vh, vn, rfl, hh, hn⟩ := h
 generalize o.isSome = S at *
 generalize o.getD [] = t at *
 obtain ⟨ah, ch, rfl, h1, h2, h3⟩ := hh
 obtain ⟨an, cn, rfl, n1, n2, n3⟩ := hn
 have hhl : (hasV t).length = t.length := by simp [hasV]
 have hnl : (numV t).length = t.length := by simp [numV]
 rw [hhl] at h1 h3 ⊢
 rw [hnl] at n1 n3 ⊢
 unfold maxLen at h2 n2
 have H3 := Lib.hid h3
 have N3 := Lib.hid n3
 clear h3 n3 hhl hnl
 go_enter Try.func84, Try.ntmps84
 go_wp2_with fail
 obtain ⟨W0, hW0⟩ : ∃ W0, W0 = (((w.alloc (.cells #[.bool S, .slice ah t.length ch, .slice an t.length cn] 83)).alloc (.cells #[.bool false, .slice none 0 0, .slice none 0 0] 83)).alloc (.cells #[.bool S, .slice none 0 0, .slice none 0 0] 83)) := ⟨_, rfl⟩
 have hz : W0.heap.size = w.heap.size + 3 := by rw [hW0]; simp
 have HA : Hid (W0.heap[w.heap.size]? = some (.cells #[.bool S, .slice ah t.length ch, .slice an t.length cn] 83)) := by
  show _ = _
  rw [hW0]; exact (heap3 w _ _ _).1
 have HR : Hid (W0.heap[w.heap.size + 1]? = some (.cells #[.bool false, .slice none 0 0, .slice none 0 0] 83)) := by
  show _ = _
  rw [hW0]; exact (heap3 w _ _ _).2.1
 have HX : Hid (W0.heap[w.heap.size + 2]? = some (.cells #[.bool S, .slice none 0 0, .slice none 0 0] 83)) := by
  show _ = _
  rw [hW0]; exact (heap3 w _ _ _).2.2
 have HB0 : Hid (Below w.heap.size w W0) := by
  show Below _ _ _
  rw [hW0]; exact (below_alloc w _).alloc (by simp) _ |>.alloc (by simp; omega) _
 rw [← hW0]
 clear hW0
 have HH : Hid (∀ W, Below (w.heap.size + 2) W0 W → ∀ i, i < t.length → ∃ b o, ah = some ⟨b, o, none⟩ ∧ b < w.heap.size ∧ W.cell? ⟨b, o + i, none⟩ = some (.bool (t.getD i none).isSome)) := fun W hW i hi => by
  obtain ⟨b, o, e1, e2⟩ := H3.out i hi
  have e3 : (hasV t)[i]? = some (.bool (t.getD i none).isSome) := by simp [hasV, List.getD, hi]
  rw [e3] at e2
  exact ⟨b, o, e1, World.block_lt_of_cell? _ _ e2, (hW.cell (p := ⟨b, o + i, none⟩) (by have := World.block_lt_of_cell? _ _ e2; dsimp only at this ⊢; omega)).trans (Ext.below HB0.out _ _ e2)⟩
 have HN : Hid (∀ W, Below (w.heap.size + 2) W0 W → ∀ i, i < t.length → ∃ b o, an = some ⟨b, o, none⟩ ∧ b < w.heap.size ∧ W.cell? ⟨b, o + i, none⟩ = some (.int .u32 ((t.getD i none).getD 0))) := fun W hW i hi => by
  obtain ⟨b, o, e1, e2⟩ := N3.out i hi
  have e3 : (numV t)[i]? = some (.int .u32 ((t.getD i none).getD 0)) := by simp [numV, List.getD, hi]
  rw [e3] at e2
  exact ⟨b, o, e1, World.block_lt_of_cell? _ _ e2, (hW.cell (p := ⟨b, o + i, none⟩) (by have := World.block_lt_of_cell? _ _ e2; dsimp only at this ⊢; omega)).trans (Ext.below HB0.out _ _ e2)⟩
 have M0 : Hid (CpM W0 (w.heap.size + 2) S t W0 (.slice none 0 0) (.slice none 0 0) 0 0) := ⟨HX.out, ⟨rfl, .inl ⟨rfl, rfl⟩⟩, ⟨rfl, .inl ⟨rfl, rfl⟩⟩, Below.refl _ _⟩
 go_loopw [4] (fun i wr => ∃ (k : Nat) (vh vn : Value), k ≤ t.length ∧ i = .int .i64 (k : Int) ∧ Hid (CpM W0 (w.heap.size + 2) S t wr vh vn k k)) (fun i _ => t.length - (intOf i).toNat)
 case atStart => exact ⟨0, _, _, Nat.zero_le _, rfl, M0⟩
 case round =>
  clear M0
  obtain ⟨k, vh, vn, hk, rfl, M⟩ := hrel
  obtain ⟨q0, q1, q2, lq⟩ := cl3 ((M.out.bl.block _ (by omega)).trans HA.out)
  obtain ⟨a1, c1, rfl⟩ := ow_form M.out.oh
  obtain ⟨a2, c2, rfl⟩ := ow_form M.out.on
  obtain ⟨x0, x1, x2, lx⟩ := cl3 M.out.bx
  by_cases hlt : k < t.length
  ·have g1 : decide (k < t.length) = true := decide_eq_true hlt
   have g2 : decide ((k : Int) < (t.length : Int)) = true := decide_eq_true (by omega)
   obtain ⟨bh, oh, rfl, lbw, ch0⟩ := HH.out wr M.out.bl k hlt
   have lbh := World.block_lt_of_cell? _ _ ch0
   obtain ⟨sk, hsk⟩ : ∃ sk, (t.getD k none).isSome = sk := ⟨_, rfl⟩
   rw [hsk] at ch0
   have HSK := Lib.hid hsk
   clear hsk
   go_wp2_with fail
   refine wp_region_game (fun x => x = w.heap.size ∨ x = w.heap.size + 2 ∨ x = bh) (by kernel_rfl) ?_
   show wpE _ _ _ _ _ _ _ wr.drew
   refine E_mob2s [0, 1, 2, 3, 4, 5, 6] _ _ _ _ (by kernel_rfl) ?_
   simp only [List.map_cons, List.map_nil, List.getElem?_toArray, List.getElem?_cons_succ, List.getElem?_cons_zero, Option.getD_some, List.size_toArray, List.length_cons, List.length_nil, Nat.reduceAdd, Nat.reduceSub]
   repeat (go_big_quiet_step (fail))
   refine wpQuiet_nil ?_
   refine E_loud1 7 _ rfl (by kernel_rfl) ?_
   simp only [List.getElem_toArray, List.getElem_cons_succ, List.getElem_cons_zero]
   go_wp2_with fail
   refine ⟨keep_below (below_alloc _ _) (fun x hx => by rcases hx with rfl | rfl | rfl <;> (simp; omega)), ?_⟩
   have B6 : Hid (Below wr.heap.size wr (wr.alloc (.cells #[.bool sk] 4)).drew) := (below_alloc wr _).drew
   have OH6 := Lib.hid (own_below M.out.oh B6.out)
   refine E_loud1 8 _ rfl (by kernel_rfl) ?_
   simp only [List.getElem_toArray, List.getElem_cons_succ, List.getElem_cons_zero]
   refine appG 45 4 info_bool Try.underlying45 rfl (by decide) (by decide) [.bool sk] rfl (by simp [Value.oneCell']) OH6.out rfl rfl rfl rfl (cell_new1 _ _ _ _ rfl) (by omega) (by simp; omega) ?_
   intro o6 w6 O6 G6 D6
   have HK6 : Hid (Keep (fun x => x = w.heap.size ∨ x = w.heap.size + 2 ∨ x = bh) (wr.alloc (.cells #[.bool sk] 4)).drew w6) := fun x p hx => by
    refine World.cell?_of_block (a := ⟨x, p, none⟩) (G6.block x (by rcases hx with rfl | rfl | rfl <;> (simp; omega)) (fun e => ?_))
    have := ow_ge OH6.out e.symm
    rcases hx with rfl | rfl | rfl <;> omega
   obtain ⟨a6, c6, rfl⟩ := ow_form O6
   have hx6 := (G6.block (w.heap.size + 2) (by simp; omega) (fun e => by have := ow_ge OH6.out e.symm; omega)).trans ((B6.out.block _ lx).trans M.out.bx)
   obtain ⟨y0, y1, y2, ly⟩ := cl3 hx6
   have fy := frozen_of_heap hx6 1
   go_wp2_with fail
   refine ⟨HK6.out, ?_⟩
   refine E_mob2s [9] _ _ _ _ (by kernel_rfl) ?_
   simp only [List.map_cons, List.map_nil, List.getElem?_toArray, List.getElem?_cons_succ, List.getElem?_cons_zero, Option.getD_some, List.size_toArray, List.length_cons, List.length_nil, Nat.reduceAdd, Nat.reduceSub]
   repeat (go_big_quiet_step (fail))
   refine wpQuiet_nil ?_
   refine E_last 10 _ rfl (by kernel_rfl) ?_
   simp only [List.getElem_toArray, List.getElem_cons_succ, List.getElem_cons_zero]
   go_wp2_with fail
   refine E_done (by kernel_rfl) ?_ _
   have M7 := Lib.hid (M.out.has hlt HSK.out B6.out (by omega) O6 G6)
   clear M HK6 B6 OH6 hx6 y0 y1 y2 ly fy O6 G6 D6 q0 q1 q2 lq x0 x1 x2 lx ch0 lbh HSK
   generalize w6.setCell ⟨w.heap.size + 2, 1, none⟩ (.slice a6 (k + 1) c6) = w7 at *
   obtain ⟨q0, q1, q2, lq⟩ := cl3 ((M7.out.bl.block _ (by omega)).trans HA.out)
   obtain ⟨x0, x1, x2, lx⟩ := cl3 M7.out.bx
   obtain ⟨bn, on, rfl, lbn, ch0⟩ := HN.out w7 M7.out.bl k hlt
   have lbh := World.block_lt_of_cell? _ _ ch0
   obtain ⟨sz, hsz⟩ : ∃ sz, (t.getD k none).getD 0 = sz := ⟨_, rfl⟩
   rw [hsz] at ch0
   have HSZ := Lib.hid hsz
   clear hsz
   go_wp2_with fail
   refine wp_region_game (fun x => x = w.heap.size ∨ x = w.heap.size + 2 ∨ x = bn) (by kernel_rfl) ?_
   show wpE _ _ _ _ _ _ _ w7.drew
   refine E_mob2s [0, 1, 2, 3, 4, 5, 6] _ _ _ _ (by kernel_rfl) ?_
   simp only [List.map_cons, List.map_nil, List.getElem?_toArray, List.getElem?_cons_succ, List.getElem?_cons_zero, Option.getD_some, List.size_toArray, List.length_cons, List.length_nil, Nat.reduceAdd, Nat.reduceSub]
   repeat (go_big_quiet_step (fail))
   refine wpQuiet_nil ?_
   refine E_loud1 7 _ rfl (by kernel_rfl) ?_
   simp only [List.getElem_toArray, List.getElem_cons_succ, List.getElem_cons_zero]
   go_wp2_with fail
   refine ⟨keep_below (below_alloc _ _) (fun x hx => by rcases hx with rfl | rfl | rfl <;> (simp; omega)), ?_⟩
   have B6 : Hid (Below w7.heap.size w7 (w7.alloc (.cells #[.int .u32 sz] 36)).drew) := (below_alloc w7 _).drew
   have OH6 := Lib.hid (own_below M7.out.on B6.out)
   refine E_loud1 8 _ rfl (by kernel_rfl) ?_
   simp only [List.getElem_toArray, List.getElem_cons_succ, List.getElem_cons_zero]
   refine appG 61 36 info_u32 Try.underlying61 rfl (by decide) (by decide) [.int .u32 sz] rfl (by simp [Value.oneCell']) OH6.out rfl rfl rfl rfl (cell_new1 _ _ _ _ rfl) (by omega) (by simp; omega) ?_
   intro o8 w8 O6 G6 D6
   have HK6 : Hid (Keep (fun x => x = w.heap.size ∨ x = w.heap.size + 2 ∨ x = bn) (w7.alloc (.cells #[.int .u32 sz] 36)).drew w8) := fun x p hx => by
    refine World.cell?_of_block (a := ⟨x, p, none⟩) (G6.block x (by rcases hx with rfl | rfl | rfl <;> (simp; omega)) (fun e => ?_))
    have := ow_ge OH6.out e.symm
    rcases hx with rfl | rfl | rfl <;> omega
   obtain ⟨a8, c8, rfl⟩ := ow_form O6
   have hx6 := (G6.block (w.heap.size + 2) (by simp; omega) (fun e => by have := ow_ge OH6.out e.symm; omega)).trans ((B6.out.block _ lx).trans M7.out.bx)
   obtain ⟨y0, y1, y2, ly⟩ := cl3 hx6
   have fy := frozen_of_heap hx6 2
   go_wp2_with fail
   refine ⟨HK6.out, ?_⟩
   refine E_mob2s [9] _ _ _ _ (by kernel_rfl) ?_
   simp only [List.map_cons, List.map_nil, List.getElem?_toArray, List.getElem?_cons_succ, List.getElem?_cons_zero, Option.getD_some, List.size_toArray, List.length_cons, List.length_nil, Nat.reduceAdd, Nat.reduceSub]
   repeat (go_big_quiet_step (fail))
   refine wpQuiet_nil ?_
   refine E_last 10 _ rfl (by kernel_rfl) ?_
   simp only [List.getElem_toArray, List.getElem_cons_succ, List.getElem_cons_zero]
   go_wp2_with fail
   refine E_done (by kernel_rfl) ?_ _
   have M8 := Lib.hid (M7.out.num hlt HSZ.out B6.out (by omega) O6 G6)
   clear M7 HK6 B6 OH6 hx6 y0 y1 y2 ly fy O6 G6 D6 q0 q1 q2 lq x0 x1 x2 lx ch0 lbh HSZ
   go_wp2_with fail
   go_roundw
   case rel => exact ⟨k + 1, _, _, hlt, by go_num, M8⟩
   case measure => simp [intOf]; omega
  ·obtain rfl : k = t.length := by omega
   have hr := (M.out.bl.block _ (by omega)).trans HR.out
   obtain ⟨r0, r1, r2, lr⟩ := cl3 hr
   have fr0 := frozen_of_heap hr 0
   have fr1 := frozen_of_heap hr 1
   have fr2 := frozen_of_heap hr 2
   clear hr
   go_wp2_with fail
   refine bodyPost_ret (v := .agg #[.bool S, .slice a1 t.length c1, .slice a2 t.length c2]) (by simp [results, Try.results84, go_sem, r0, r1, r2]) rfl ?_
   have hoh := M.out.oh
   have hon := M.out.on
   rw [List.take_length] at hoh hon
   exact ⟨_, rfl, ⟨_, _, rfl, ow_base (ow_set (ow_set (ow_set hoh (by omega)) (by omega)) (by omega)) (by omega), ow_base (ow_set (ow_set (ow_set hon (by omega)) (by omega)) (by omega)) (by omega)⟩, (((HB0.out.trans (M.out.bl.mono (by omega))).setCell (p := ⟨w.heap.size + 1, 0, none⟩) (by simp) _).setCell (p := ⟨w.heap.size + 1, 1, none⟩) (by simp) _).setCell (p := ⟨w.heap.size + 1, 2, none⟩) (by simp) _⟩
end Go.Proofs.Ytkhfddodmjnecaa
