/-
 The marking of live registers as plain lists, and how its tables lie in memory.; The walk of flow.Live.; A walk through the blocks as plain data: by calling itself, and with a stack.
-/
import Derived.Test.YtkhfddodmjnecaaZFoldConsts19
import Derived.Deep.CutRange
import Derived.Deep.Cut
import Derived.Deep.CutBlock

set_option linter.all false
namespace Go.Proofs.Ytkhfddodmjnecaa
open Go.ChangeShapes Go.WideShapes Go.ChangeAt Go.RowKit
set_option maxHeartbeats 1000000
set_option maxRecDepth 20000

abbrev Tab := List (List Bool)
/-- behind a block's instructions: what is live at the starts of those to which it leads, joined for the first k of them -/
def outK (li : Tab) (l : List Bool) (ts : List Int) : List Bool := ts.foldl (fun l t => joinB l (li.getD t.toNat [])) l
/-- ahead of instructions, from the last one back, so many of them -/
def backK (l : List Bool) (is : List In) : List Bool := is.foldr (fun i l => beforeB l i) l
structure Lv where
 li : Tab
 lo : Tab
 grew : Bool
def blkStep (p : Pr) (n : Nat) (s : Lv) : Lv :=
 let o := outK s.li (s.lo.getD n []) (outsP p n)
 let l := backK o (p.blks.getD n default).ins
 ⟨s.li.set n (joinB (s.li.getD n []) l), s.lo.set n o, grewB (s.li.getD n []) l (s.li.getD n []).length || s.grew⟩
/-- the blocks from k - 1 down to 0 -/
def passK (p : Pr) : Nat → Lv → Lv
 | 0, s => s
 | k + 1, s => passK p k (blkStep p k s)
def pass (p : Pr) (s : Lv) : Lv := passK p p.blks.length ⟨s.li, s.lo, false⟩
/-- all lists of the same length -/
structure LvOk (n R : Nat) (li lo : Tab) : Prop where
 lenI : li.length = n
 lenO : lo.length = n
 ri : ∀ k, k < n → (li.getD k []).length = R
 ro : ∀ k, k < n → (lo.getD k []).length = R
theorem getD_set (t : Tab) (n k : Nat) (l : List Bool) : (t.set n l).getD k [] = if k = n ∧ n < t.length then l else t.getD k [] := by
 simp only [List.getD, List.getElem?_set]
 by_cases e : n = k
 ·subst e
  by_cases h : n < t.length <;> simp [h]
 ·simp [e, Ne.symm e]
theorem joinB_len (a b : List Bool) : (joinB a b).length = a.length := orB_len _ _ _
theorem outK_len (li : Tab) (l : List Bool) (ts : List Int) : (outK li l ts).length = l.length := by
 unfold outK
 induction ts generalizing l with
 | nil => rfl
 | cons t ts ih => rw [List.foldl_cons, ih, joinB_len]
theorem LvOk.setI {n R k : Nat} {li lo : Tab} (h : LvOk n R li lo) {l : List Bool} (hl : l.length = R) : LvOk n R (li.set k l) lo :=
 ⟨by simpa using h.lenI, h.lenO, fun j hj => by rw [getD_set]; split; exact hl; exact h.ri j hj, h.ro⟩
theorem LvOk.setO {n R k : Nat} {li lo : Tab} (h : LvOk n R li lo) {l : List Bool} (hl : l.length = R) : LvOk n R li (lo.set k l) :=
 ⟨h.lenI, by simpa using h.lenO, h.ri, fun j hj => by rw [getD_set]; split; exact hl; exact h.ro j hj⟩
theorem LvOk.step {p : Pr} {n R k : Nat} {s : Lv} (h : LvOk n R s.li s.lo) (hk : k < n) : LvOk n R (blkStep p k s).li (blkStep p k s).lo :=
 (h.setI (by rw [joinB_len]; exact h.ri k hk)).setO (by rw [outK_len]; exact h.ro k hk)
theorem LvOk.passK {p : Pr} {n R : Nat} (k : Nat) : ∀ {s : Lv}, LvOk n R s.li s.lo → k ≤ n → LvOk n R (passK p k s).li (passK p k s).lo := by
 induction k with
 | zero => intro s h _; exact h
 | succ k ih => intro s h hk; exact ih (h.step (by omega)) (by omega)
theorem But.keep {g : Nat} {w w' : World} (h : But g w w') : Keep (fun b => b ≠ g ∧ b < w.heap.size) w w' := fun b o hb => h.cell hb.2 hb.1
/-- how the two tables lie: a row each for each block, no two in one place -/
structure LvMem (W0 : World) (n R : Nat) (vi vo : Value) (gi go : Nat → Nat) (li lo : Tab) (w : World) : Prop where
 below : Below W0.heap.size W0 w
 tabI : TabV w W0.heap.size vi ((List.range n).map fun k => rowV (gi k) R R)
 tabO : TabV w W0.heap.size vo ((List.range n).map fun k => rowV (go k) R R)
 rowI : ∀ k, k < n → RowB w (gi k) R R (li.getD k [])
 rowO : ∀ k, k < n → RowB w (go k) R R (lo.getD k [])
 geI : ∀ k, k < n → W0.heap.size ≤ gi k
 geO : ∀ k, k < n → W0.heap.size ≤ go k
 dI : ∀ j k, j < n → k < n → gi j = gi k → j = k
 dO : ∀ j k, j < n → k < n → go j = go k → j = k
 dX : ∀ j k, j < n → k < n → gi j ≠ go k
section
variable {W0 : World} {n R : Nat} {vi vo : Value} {gi go : Nat → Nat} {li lo : Tab} {w w' : World}
theorem LvMem.grow (h : LvMem W0 n R vi vo gi go li lo w) (hb : Below w.heap.size w w') : LvMem W0 n R vi vo gi go li lo w' :=
 ⟨h.below.trans (hb.mono h.below.size), h.tabI.below hb, h.tabO.below hb, fun k hk => (h.rowI k hk).below hb, fun k hk => (h.rowO k hk).below hb, h.geI, h.geO, h.dI, h.dO, h.dX⟩
theorem RowB.but {g g' n c : Nat} {l : List Bool} (h : RowB w g n c l) (hb : But g' w w') (hg : g ≠ g') : RowB w' g n c l := OwnB.but h hb hg
theorem LvMem.setO (h : LvMem W0 n R vi vo gi go li lo w) {k : Nat} (hk : k < n) {l : List Bool} (hb : But (go k) w w') (hr : RowB w' (go k) R R l) (hlo : lo.length = n) : LvMem W0 n R vi vo gi go li (lo.set k l) w' := by
 refine ⟨h.below.trans (hb.toBelow (h.geO k hk) h.below.size), h.tabI.but hb (tab_ne_row h.tabI (h.rowO k hk)), h.tabO.but hb (tab_ne_row h.tabO (h.rowO k hk)), fun j hj => (h.rowI j hj).but hb (h.dX j k hj hk), fun j hj => ?_, h.geI, h.geO, h.dI, h.dO, h.dX⟩
 rw [getD_set]
 by_cases e : j = k
 ·subst e; rw [if_pos ⟨rfl, by omega⟩]; exact hr
 ·rw [if_neg (fun h => e h.1)]
  exact (h.rowO j hj).but hb fun e' => e (h.dO j k hj hk e')
theorem LvMem.setI (h : LvMem W0 n R vi vo gi go li lo w) {k : Nat} (hk : k < n) {l : List Bool} (hb : But (gi k) w w') (hr : RowB w' (gi k) R R l) (hli : li.length = n) : LvMem W0 n R vi vo gi go (li.set k l) lo w' := by
 refine ⟨h.below.trans (hb.toBelow (h.geI k hk) h.below.size), h.tabI.but hb (tab_ne_row h.tabI (h.rowI k hk)), h.tabO.but hb (tab_ne_row h.tabO (h.rowI k hk)), fun j hj => ?_, fun j hj => (h.rowO j hj).but hb (Ne.symm (h.dX k j hk hj)), h.geI, h.geO, h.dI, h.dO, h.dX⟩
 rw [getD_set]
 by_cases e : j = k
 ·subst e; rw [if_pos ⟨rfl, by omega⟩]; exact hr
 ·rw [if_neg (fun h => e h.1)]
  exact (h.rowI j hj).but hb fun e' => e (h.dI j k hj hk e')
theorem TabV.at {B : Nat} {v : Value} {L : List Value} (h : TabV w B v L) {k : Nat} (hk : k < L.length) : ∃ t cap, v = .slice (some ⟨t, 0, none⟩) L.length cap ∧ L.length ≤ cap ∧ cap ≤ maxLen ∧ ∀ j, j < L.length → w.cell? ⟨t, j, none⟩ = some (L.getD j undef) := by
 obtain ⟨-, ⟨-, h2⟩ | ⟨t, cap, cur, rfl, -, hh, hn, hc, -, ht⟩⟩ := h
 ·omega
 ·refine ⟨t, cap, rfl, hn, hc, fun j hj => ?_⟩
  rw [cell_of_heap hh]
  have h3 : L[j]? = some (L.getD j undef) := by simp [List.getD, hj]
  rw [← ht, List.getElem?_take] at h3
  split at h3
  ·rw [ht] at h3; simpa using h3
  ·cases h3
theorem TabV.len {B : Nat} {v : Value} {L L' : List Value} (h : TabV w B v L) (e : L = L') : TabV w B v L' := e ▸ h
theorem LvMem.push {k : Nat} {t : List Bool} {vi' vo' : Value} {gA gB : Nat} (h : LvMem W0 k R vi vo gi go (List.replicate k t) (List.replicate k t) w)
  (e : TwoEnd w W0.heap.size vi vo ((List.range k).map fun k => rowV (gi k) R R) ((List.range k).map fun k => rowV (go k) R R) R w' vi' vo' gA gB) (ht : t = List.replicate R false) :
  LvMem W0 (k + 1) R vi' vo' (fun j => if j = k then gA else gi j) (fun j => if j = k then gB else go j) (List.replicate (k + 1) t) (List.replicate (k + 1) t) w' := by
 have hlI : ∀ j, j < k → gi j < w.heap.size := fun j hj => (OwnB.cellAt (h.rowI j hj)).2.2.2.2.2.2
 have hlO : ∀ j, j < k → go j < w.heap.size := fun j hj => (OwnB.cellAt (h.rowO j hj)).2.2.2.2.2.2
 have keep : ∀ {g : Nat} {l : List Bool}, RowB w g R R l → RowB w' g R R l := fun {g l} hr => by
  have hg := (OwnB.cellAt hr).2.2.2.2.2.2
  have hb := e.block g hg (fun e' => tab_ne_row h.tabI hr e'.symm) (fun e' => tab_ne_row h.tabO hr e'.symm)
  obtain ⟨h1, h2 | ⟨g', cap, cur, h3, h4, h5, r⟩⟩ := hr
  ·exact ⟨h1, .inl h2⟩
  ·simp only [Value.slice.injEq, Option.some.injEq, Addr.mk.injEq] at h3
   exact ⟨h1, .inr ⟨g', cap, cur, by rw [h3.1.1, ← h3.2.1, ← h3.2.2], h4, by rw [← h3.1.1, hb, h3.1.1]; exact h5, r⟩⟩
 have hrep : ∀ j, j < k → (List.replicate k t).getD j [] = (List.replicate (k + 1) t).getD j [] := fun j hj => by
  simp [List.getD, List.getElem?_replicate, hj, show j < k + 1 by omega]
 have hrk : (List.replicate (k + 1) t).getD k [] = t := by simp [List.getD, List.getElem?_replicate]
 have hmap : ∀ (g : Nat → Nat) (x : Nat), (List.range (k + 1)).map (fun j => rowV (if j = k then x else g j) R R) = ((List.range k).map fun j => rowV (g j) R R) ++ [rowV x R R] := fun g x => by
  rw [List.range_succ, List.map_append]
  congr 1
  ·refine List.map_congr_left fun j hj => ?_
   rw [if_neg (by have := List.mem_range.1 hj; omega)]
  ·simp
 have hbel : Below W0.heap.size w w' := ⟨e.os, e.tape, e.output, e.size, fun b hb => e.block b (Nat.lt_of_lt_of_le hb h.below.size) (fun e' => by
   obtain ⟨-, ⟨rfl, -⟩ | ⟨g, cap, cur, rfl, hg, -⟩⟩ := h.tabI
   ·simp [Value.ownBlock] at e'
   ·simp [Value.ownBlock] at e'; omega) (fun e' => by
   obtain ⟨-, ⟨rfl, -⟩ | ⟨g, cap, cur, rfl, hg, -⟩⟩ := h.tabO
   ·simp [Value.ownBlock] at e'
   ·simp [Value.ownBlock] at e'; omega)⟩
 have hs := h.below.size
 refine ⟨h.below.trans hbel, e.tabI.len (hmap gi gA).symm, e.tabO.len (hmap go gB).symm, fun j hj => ?_, fun j hj => ?_, fun j hj => ?_, fun j hj => ?_, fun i j hi hj => ?_, fun i j hi hj => ?_, fun i j hi hj => ?_⟩
 ·by_cases hjk : j = k
  ·subst hjk; simp only [if_true]; rw [hrk, ht]; exact e.rowA
  ·simp only [if_neg hjk]; rw [← hrep j (by omega)]; exact keep (h.rowI j (by omega))
 ·by_cases hjk : j = k
  ·subst hjk; simp only [if_true]; rw [hrk, ht]; exact e.rowB
  ·simp only [if_neg hjk]; rw [← hrep j (by omega)]; exact keep (h.rowO j (by omega))
 ·have := e.geA
  by_cases hjk : j = k
  ·simp only [hjk, if_true]; omega
  ·simp only [if_neg hjk]; exact h.geI j (by omega)
 ·have := e.geB
  by_cases hjk : j = k
  ·simp only [hjk, if_true]; omega
  ·simp only [if_neg hjk]; exact h.geO j (by omega)
 ·have := e.geA
  by_cases hik : i = k <;> by_cases hjk : j = k <;> simp only [hik, hjk, if_true, if_false]
  ·intro _; trivial
  ·intro e'; have := hlI j (by omega); omega
  ·intro e'; have := hlI i (by omega); omega
  ·exact h.dI i j (by omega) (by omega)
 ·have := e.geB
  by_cases hik : i = k <;> by_cases hjk : j = k <;> simp only [hik, hjk, if_true, if_false]
  ·intro _; trivial
  ·intro e'; have := hlO j (by omega); omega
  ·intro e'; have := hlO i (by omega); omega
  ·exact h.dO i j (by omega) (by omega)
 ·have h1 := e.geA
  have h2 := e.geB
  by_cases hik : i = k <;> by_cases hjk : j = k <;> simp only [hik, hjk, if_true, if_false]
  ·exact e.ne
  ·have := hlO j (by omega); omega
  ·have := hlI i (by omega); omega
  ·exact h.dX i j (by omega) (by omega)
theorem LvMem.other (h : LvMem W0 n R vi vo gi go li lo w) {g nn c : Nat} {l : List Bool} (hr : RowB w g nn c l) (hI : ∀ k, k < n → g ≠ gi k) (hO : ∀ k, k < n → g ≠ go k) (hb : But g w w') (hg : W0.heap.size ≤ g) : LvMem W0 n R vi vo gi go li lo w' :=
 ⟨h.below.trans (hb.toBelow hg h.below.size), h.tabI.but hb (tab_ne_row h.tabI hr), h.tabO.but hb (tab_ne_row h.tabO hr), fun k hk => (h.rowI k hk).but hb (Ne.symm (hI k hk)), fun k hk => (h.rowO k hk).but hb (Ne.symm (hO k hk)), h.geI, h.geO, h.dI, h.dO, h.dX⟩
theorem TabV.base {B B' : Nat} {v : Value} {L : List Value} (h : TabV w B v L) (hB : B' ≤ B) : TabV w B' v L := by
 obtain ⟨h1, h2 | ⟨g, cap, cur, h3, hb, r⟩⟩ := h
 ·exact ⟨h1, .inl h2⟩
 ·exact ⟨h1, .inr ⟨g, cap, cur, h3, Nat.le_trans hB hb, r⟩⟩
theorem LvMem.base {w0 : World} (h : LvMem W0 n R vi vo gi go li lo w) (hb : Below w0.heap.size w0 W0) : LvMem w0 n R vi vo gi go li lo w :=
 ⟨hb.trans (h.below.mono hb.size), h.tabI.base hb.size, h.tabO.base hb.size, h.rowI, h.rowO, fun k hk => Nat.le_trans hb.size (h.geI k hk), fun k hk => Nat.le_trans hb.size (h.geO k hk), h.dI, h.dO, h.dX⟩
end
end Go.Proofs.Ytkhfddodmjnecaa

set_option linter.all false
namespace Go.Proofs.Ytkhfddodmjnecaa
open Go.ChangeShapes Go.WideShapes Go.ChangeAt Go.RowKit
set_option maxHeartbeats 4000000
set_option maxRecDepth 20000

end Go.Proofs.Ytkhfddodmjnecaa

set_option linter.all false
namespace Go.Proofs.Ytkhfddodmjnecaa
open Go.ChangeShapes Go.WideShapes Go.ChangeAt Go.RowKit

/-- what a walk has gathered: how it stands to each block, those left, and where ends lead back -/
structure S3 where
 st : List Int
 ord : List Int
 back : List (Int × Int)
def S3.enter (s : S3) (n : Int) : S3 := { s with st := s.st.set n.toNat 1 }
def S3.leave (s : S3) (n : Int) : S3 := { s with st := s.st.set n.toNat 2, ord := s.ord ++ [n] }
def S3.loop (s : S3) (n t : Int) : S3 := { s with back := s.back ++ [(n, t)] }
def S3.look (s : S3) (n : Int) : Int := s.st.getD n.toNat 0
def S3.zeros (s : S3) : Nat := s.st.count 0
/-- into a block, on, and out -/
def rI (p : Pr) : Nat → Int → S3 → S3
 | 0, _, s => s
 | f + 1, n, s => ((outsP p n.toNat).foldl (fun s t => if s.look t = 1 then s.loop n t else if s.look t = 0 then rI p f t s else s) (s.enter n)).leave n
/-- one way on -/
def hI (p : Pr) (f : Nat) (n : Int) (s : S3) (t : Int) : S3 := if s.look t = 1 then s.loop n t else if s.look t = 0 then rI p f t s else s
theorem rI_succ (p : Pr) (f : Nat) (n : Int) (s : S3) : rI p (f + 1) n s = ((outsP p n.toNat).foldl (hI p f n) (s.enter n)).leave n := rfl
theorem enter_len (s : S3) (n : Int) : (s.enter n).st.length = s.st.length := by simp [S3.enter]
theorem leave_len (s : S3) (n : Int) : (s.leave n).st.length = s.st.length := by simp [S3.leave]
theorem outsP_mem {p : Pr} {n : Nat} {t : Int} (h : t ∈ outsP p n) : 0 ≤ t ∧ t < p.blks.length := by
 unfold outsP at h
 simpa using (List.mem_filter.1 h).2
theorem rI_len (p : Pr) : ∀ (f : Nat) (n : Int) (s : S3), (rI p f n s).st.length = s.st.length := by
 intro f
 induction f with
 | zero => intro n s; rfl
 | succ f ih =>
  intro n s
  rw [rI_succ, leave_len]
  have : ∀ (l : List Int) (s : S3), (l.foldl (hI p f n) s).st.length = s.st.length := by
   intro l
   induction l with
   | nil => intro s; rfl
   | cons t l ihl =>
    intro s
    rw [List.foldl_cons, ihl]
    unfold hI
    split
    ·rfl
    ·split
     ·exact ih _ _
     ·rfl
  rw [this, enter_len]
theorem hI_len (p : Pr) (f : Nat) (n : Int) (s : S3) (t : Int) : (hI p f n s t).st.length = s.st.length := by
 unfold hI
 split
 ·rfl
 ·split
  ·exact rI_len _ _ _ _
  ·rfl
theorem zeros_set_le (l : List Int) (i : Nat) (x : Int) (hx : x ≠ 0) : (l.set i x).count 0 ≤ l.count 0 := by
 by_cases h : i < l.length
 ·rw [List.count_set h]
  have : (x == (0 : Int)) = false := by simpa using hx
  simp [this]
 ·rw [List.set_eq_of_length_le (by omega)]; exact Nat.le_refl _
theorem zeros_enter_le (s : S3) (n : Int) : (s.enter n).zeros ≤ s.zeros := zeros_set_le _ _ _ (by decide)
theorem zeros_leave_le (s : S3) (n : Int) : (s.leave n).zeros ≤ s.zeros := zeros_set_le _ _ _ (by decide)
theorem zeros_enter (s : S3) (n : Int) (h : n.toNat < s.st.length) (h0 : s.look n = 0) : (s.enter n).zeros + 1 = s.zeros := by
 unfold S3.zeros S3.enter
 have h1 : s.st[n.toNat] = 0 := by simpa [S3.look, List.getD, h] using h0
 have h2 : 0 < s.st.count 0 := List.count_pos_iff.2 (h1 ▸ List.getElem_mem h)
 simp only
 rw [List.count_set h]
 simp [h1]
 omega
theorem hI_zeros_of (p : Pr) (f : Nat) (ih : ∀ n s, (rI p f n s).zeros ≤ s.zeros) (n : Int) (s : S3) (t : Int) : (hI p f n s t).zeros ≤ s.zeros := by
 unfold hI
 split
 ·exact Nat.le_refl _
 ·split
  ·exact ih _ _
  ·exact Nat.le_refl _
theorem foldl_zeros_of (p : Pr) (f : Nat) (ih : ∀ n s, (rI p f n s).zeros ≤ s.zeros) (n : Int) : ∀ (l : List Int) (s : S3), (l.foldl (hI p f n) s).zeros ≤ s.zeros
 | [], _ => Nat.le_refl _
 | t :: l, s => Nat.le_trans (foldl_zeros_of p f ih n l _) (hI_zeros_of p f ih n s t)
theorem rI_zeros (p : Pr) : ∀ (f : Nat) (n : Int) (s : S3), (rI p f n s).zeros ≤ s.zeros
 | 0, _, _ => Nat.le_refl _
 | f + 1, n, s => by
  rw [rI_succ]
  exact Nat.le_trans (zeros_leave_le _ _) (Nat.le_trans (foldl_zeros_of p f (rI_zeros p f) n _ _) (zeros_enter_le _ _))
theorem hI_zeros (p : Pr) (f : Nat) (n : Int) (s : S3) (t : Int) : (hI p f n s t).zeros ≤ s.zeros := hI_zeros_of p f (rI_zeros p f) n s t
/-- with as many steps as there are blocks not seen, more steps make no difference -/
theorem rI_fuel (p : Pr) : ∀ (f : Nat) (n : Int) (s : S3), s.st.length = p.blks.length → n.toNat < p.blks.length → s.look n = 0 → s.zeros ≤ f → rI p (f + 1) n s = rI p f n s := by
 intro f
 induction f with
 | zero => intro n s hl hn h0 hz; have := zeros_enter s n (by omega) h0; omega
 | succ f ih =>
  intro n s hl hn h0 hz
  rw [rI_succ p (f + 1), rI_succ p f]
  congr 1
  have hz1 := zeros_enter s n (by omega) h0
  have key : ∀ (l : List Int) (s : S3), (∀ t ∈ l, 0 ≤ t ∧ t < p.blks.length) → s.st.length = p.blks.length → s.zeros ≤ f → l.foldl (hI p (f + 1) n) s = l.foldl (hI p f n) s := by
   intro l
   induction l with
   | nil => intro s _ _ _; rfl
   | cons t l ihl =>
    intro s hin hsl hsz
    have ht := hin t (List.mem_cons_self)
    rw [List.foldl_cons, List.foldl_cons]
    have e : hI p (f + 1) n s t = hI p f n s t := by
     unfold hI
     split
     ·rfl
     ·split
      ·exact ih t s hsl (by omega) ‹_› hsz
      ·rfl
    rw [e]
    exact ihl _ (fun x hx => hin x (List.mem_cons_of_mem _ hx)) (by rw [hI_len]; exact hsl) (Nat.le_trans (hI_zeros _ _ _ _ _) hsz)
  exact key _ _ (fun t ht => outsP_mem ht) (by rw [enter_len]; exact hl) (by omega)

/-- where a walk stands: a block, the ways on that are left, and how these lie in memory -/
structure Kt where
 n : Int
 l : List Int
 v : Value
def gK (p : Pr) (f : Nat) (k : Kt) (s : S3) : S3 := (k.l.foldl (hI p f k.n) s).leave k.n
/-- what comes of a stack -/
def contD (p : Pr) (f : Nat) (S : List Kt) (s : S3) : S3 := S.foldr (gK p f) s
theorem contD_leave (p : Pr) (f : Nat) (S : List Kt) (n : Int) (v : Value) (s : S3) : contD p f (S ++ [⟨n, [], v⟩]) s = contD p f S (s.leave n) := by
 unfold contD; rw [List.foldr_append]; rfl
theorem contD_step (p : Pr) (f : Nat) (S : List Kt) (n t : Int) (l : List Int) (v v' : Value) (s : S3) : contD p f (S ++ [⟨n, t :: l, v⟩]) s = contD p f (S ++ [⟨n, l, v'⟩]) (hI p f n s t) := by
 unfold contD; rw [List.foldr_append, List.foldr_append]; rfl
theorem contD_push (p : Pr) (f : Nat) (S : List Kt) (t : Int) (v : Value) (s : S3) (hl : s.st.length = p.blks.length) (hn : t.toNat < p.blks.length) (h0 : s.look t = 0) (hz : s.zeros ≤ f) : contD p f S (rI p f t s) = contD p f (S ++ [⟨t, outsP p t.toNat, v⟩]) (s.enter t) := by
 unfold contD
 rw [List.foldr_append, ← rI_fuel p f t s hl hn h0 hz, rI_succ]
 rfl
/-- how much there is left to do -/
def todo (S : List Kt) (s : S3) : Nat := (S.map fun k => k.l.length + 1).sum + 4 * s.zeros
theorem todo_leave (S : List Kt) (n : Int) (v : Value) (s : S3) : todo S (s.leave n) < todo (S ++ [⟨n, [], v⟩]) s := by
 have := zeros_leave_le s n
 unfold todo
 simp
 omega
theorem todo_old (S : List Kt) (n t : Int) (l : List Int) (v v' : Value) (s s' : S3) (h : s'.zeros = s.zeros) : todo (S ++ [⟨n, l, v'⟩]) s' < todo (S ++ [⟨n, t :: l, v⟩]) s := by
 unfold todo
 simp
 omega
theorem outsP_len (p : Pr) (n : Nat) : (outsP p n).length ≤ 2 := Nat.le_trans (List.length_filter_le _ _) (outsB_len _)
theorem todo_new (p : Pr) (S : List Kt) (n t : Int) (l : List Int) (v v' v2 : Value) (s : S3) (hn : t.toNat < s.st.length) (h0 : s.look t = 0) : todo (S ++ [⟨n, l, v'⟩] ++ [⟨t, outsP p t.toNat, v2⟩]) (s.enter t) < todo (S ++ [⟨n, t :: l, v⟩]) s := by
 have := zeros_enter s t hn h0
 have := outsP_len p t.toNat
 unfold todo
 simp
 omega
end Go.Proofs.Ytkhfddodmjnecaa
