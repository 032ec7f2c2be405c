/-
 What a statement that makes two rows of bools and appends each to a table does, in whatever order its parts are carried out.; The marking of live registers as plain lists, and how its tables lie in memory.; The walk of flow.Live.; A walk through the blocks as plain data: by calling itself, and with a stack.
-/
import Derived.Test.YtobfpfjdkpaeiaaZHazardWrites03
import Derived.Test.YtobfpfjdkpaeiaaZHazardWrites04
import Derived.Deep.OwnRows
import Derived.Deep.CutRange
import Derived.Deep.Cut
import Derived.Deep.CutBlock

set_option linter.all false
namespace Go.Proofs.Ytobfpfjdkpaeiaa
open Go.ChangeShapes Go.WideShapes Go.ChangeAt Go.RowKit
set_option maxHeartbeats 1000000
set_option maxRecDepth 20000

/-- a table of the call's own: a slice of slices of bools -/
def TabV (w : World) (B : Nat) (v : Value) (L : List Value) : Prop := w.ownsRow B 37 1 v L.length L
/-- so many that do not hold -/
def rowV (g R c : Nat) : Value := .slice (some ⟨g, 0, none⟩) R c
theorem TabV.below {w w' : World} {B : Nat} {v : Value} {L : List Value} (h : TabV w B v L) (hb : Below w.heap.size w w') : TabV w' B v L := by
 obtain ⟨h1, h2 | ⟨g, cap, cur, h3, h4, h5, r⟩⟩ := h
 ·exact ⟨h1, .inl h2⟩
 ·exact ⟨h1, .inr ⟨g, cap, cur, h3, h4, (hb.block g (Array.getElem?_eq_some_iff.1 h5).1).trans h5, r⟩⟩
theorem RowB.heap {w : World} {g n c : Nat} {l : List Bool} (h : RowB w g n c l) : ∃ cur, w.heap[g]? = some (.cells cur 4 (0, 0)) := by
 obtain ⟨-, ⟨h5, -⟩ | ⟨g', cap, cur, h5, -, hh, -⟩⟩ := h
 ·simp at h5
 ·simp only [Value.slice.injEq, Option.some.injEq, Addr.mk.injEq] at h5
  rw [h5.1.1]
  exact ⟨cur, hh⟩
theorem TabV.heap {w : World} {B : Nat} {v : Value} {L : List Value} (h : TabV w B v L) {t : Nat} (ht : v.ownBlock = some t) : ∃ cur, w.heap[t]? = some (.cells cur 37 (0, 0)) := by
 obtain ⟨-, ⟨rfl, -⟩ | ⟨g, cap, cur, rfl, -, hh, -⟩⟩ := h
 ·simp [Value.ownBlock] at ht
 ·simp [Value.ownBlock] at ht; subst ht; exact ⟨cur, hh⟩
/-- a table is no row -/
theorem tab_ne_row {w : World} {B : Nat} {v : Value} {L : List Value} {g n c : Nat} {l : List Bool} (h : TabV w B v L) (hr : RowB w g n c l) : v.ownBlock ≠ some g := by
 intro e
 obtain ⟨c1, h1⟩ := h.heap e
 obtain ⟨c2, h2⟩ := hr.heap
 rw [h1] at h2
 simp at h2
theorem TabV.but {w w' : World} {B g : Nat} {v : Value} {L : List Value} (h : TabV w B v L) (hb : But g w w') (hg : v.ownBlock ≠ some g) : TabV w' B v L := by
 obtain ⟨h1, h2 | ⟨g', cap, cur, rfl, h4, h5, r⟩⟩ := h
 ·exact ⟨h1, .inl h2⟩
 ·exact ⟨h1, .inr ⟨g', cap, cur, rfl, h4, (hb.block g' (Array.getElem?_eq_some_iff.1 h5).1 (fun e => hg (by simp [Value.ownBlock, e]))).trans h5, r⟩⟩
/-- how far the two makings have come -/
structure TwoSt (wr : World) (B : Nat) (vi vo : Value) (Ti To : List Value) (R : Nat) (w : World) (x24 x25 x26 x29 x30 : Value) (pa pb : Nat) : Prop where
 os : w.os = wr.os
 tape : w.tape = wr.tape
 output : w.output = wr.output
 size : wr.heap.size ≤ w.heap.size
 block : ∀ k, k < wr.heap.size → some k ≠ vi.ownBlock → some k ≠ vo.ownBlock → w.heap[k]? = wr.heap[k]?
 tabI : if pa < 3 then TabV w B vi Ti else TabV w B x26 (Ti ++ [x24])
 tabO : TabV w B vo To
 a1 : 1 ≤ pa → ∃ g, x24 = rowV g R R ∧ wr.heap.size ≤ g ∧ RowB w g R R (List.replicate R false)
 a2 : pa = 2 → ∃ h, x25 = .slice (some ⟨h, 0, none⟩) 1 1 ∧ wr.heap.size ≤ h ∧ w.cell? ⟨h, 0, none⟩ = some x24
 b1 : 1 ≤ pb → ∃ g, x29 = rowV g R R ∧ wr.heap.size ≤ g ∧ RowB w g R R (List.replicate R false)
 b2 : pb = 2 → ∃ h, x30 = .slice (some ⟨h, 0, none⟩) 1 1 ∧ wr.heap.size ≤ h ∧ w.cell? ⟨h, 0, none⟩ = some x29
 ne : 1 ≤ pa → 1 ≤ pb → x24 ≠ x29
 tI : ∀ t, vi.ownBlock = some t → t < wr.heap.size
 tO : ∀ t, vo.ownBlock = some t → t < wr.heap.size
theorem madeB (w : World) (R : Nat) (hR : R ≤ maxLen) : RowB (w.alloc (.cells (madeCells #[.bool false] R) 4)) w.heap.size R R (List.replicate R false) := by
 have hl : (madeCells #[Value.bool false] R).toList = (List.replicate R false).map Value.bool := by
  apply List.ext_getElem
  ·simp [madeCells]
  ·intro i h1 h2
   simp [madeCells, Nat.mod_one]
 refine ⟨by simp, .inr ⟨w.heap.size, R, _, by simp, Nat.zero_le _, heap_alloc_new w _, by simp, hR, by simp [madeCells], ?_⟩⟩
 rw [hl]
 simp [List.take_of_length_le]
section
variable {wr : World} {B : Nat} {vi vo : Value} {Ti To : List Value} {R : Nat} {w : World} {x24 x25 x26 x29 x30 : Value} {pa pb : Nat}
theorem TwoSt.grow (h : TwoSt wr B vi vo Ti To R w x24 x25 x26 x29 x30 pa pb) (o : Obj) : TwoSt wr B vi vo Ti To R (w.alloc o) x24 x25 x26 x29 x30 pa pb := by
 have hb := below_alloc w o
 refine ⟨h.os, h.tape, h.output, Nat.le_trans h.size hb.size, fun k hk h1 h2 => ?_, ?_, h.tabO.below hb, fun hp => ?_, fun hp => ?_, fun hp => ?_, fun hp => ?_, h.ne, h.tI, h.tO⟩
 ·rw [hb.block k (Nat.lt_of_lt_of_le hk h.size)]; exact h.block k hk h1 h2
 ·have := h.tabI
  split
  ·rename_i hp; rw [if_pos hp] at this; exact this.below hb
  ·rename_i hp; rw [if_neg hp] at this; exact this.below hb
 ·obtain ⟨g, e, hg, hr⟩ := h.a1 hp; exact ⟨g, e, hg, hr.below hb⟩
 ·obtain ⟨g, e, hg, hr⟩ := h.a2 hp; exact ⟨g, e, hg, Ext.alloc w o _ _ hr⟩
 ·obtain ⟨g, e, hg, hr⟩ := h.b1 hp; exact ⟨g, e, hg, hr.below hb⟩
 ·obtain ⟨g, e, hg, hr⟩ := h.b2 hp; exact ⟨g, e, hg, Ext.alloc w o _ _ hr⟩
theorem TwoSt.start (hI : TabV wr B vi Ti) (hO : TabV wr B vo To) (y24 y25 y26 y29 y30 : Value) : TwoSt wr B vi vo Ti To R wr.drew y24 y25 y26 y29 y30 0 0 :=
 ⟨rfl, rfl, rfl, Nat.le_refl _, fun _ _ _ _ => rfl, by rw [if_pos (by decide)]; exact hI, hO, fun h => by omega, fun h => by omega, fun h => by omega, fun h => by omega, fun h => by omega,
   fun t ht => (Array.getElem?_eq_some_iff.1 (hI.heap ht).choose_spec).1, fun t ht => (Array.getElem?_eq_some_iff.1 (hO.heap ht).choose_spec).1⟩
end
end Go.Proofs.Ytobfpfjdkpaeiaa

set_option linter.all false
namespace Go.Proofs.Ytobfpfjdkpaeiaa
open Go.ChangeShapes Go.WideShapes Go.ChangeAt Go.RowKit
set_option maxHeartbeats 1000000
set_option maxRecDepth 20000

abbrev Tab := List (List Bool)
/-- behind a block's instructions: what is live at the starts of those to which it leads, joined for the first k of them -/
def outK (li : Tab) (l : List Bool) (ts : List Int) : List Bool := ts.foldl (fun l t => joinB l (li.getD t.toNat [])) l
/-- ahead of instructions, from the last one back, so many of them -/
def backK (l : List Bool) (is : List In) : List Bool := is.foldr (fun i l => beforeB l i) l
structure Lv where
 li : Tab
 lo : Tab
 grew : Bool
def blkStep (p : Pr) (n : Nat) (s : Lv) : Lv :=
 let o := outK s.li (s.lo.getD n []) (outsP p n)
 let l := backK o (p.blks.getD n default).ins
 ⟨s.li.set n (joinB (s.li.getD n []) l), s.lo.set n o, grewB (s.li.getD n []) l (s.li.getD n []).length || s.grew⟩
/-- the blocks from k - 1 down to 0 -/
def passK (p : Pr) : Nat → Lv → Lv
 | 0, s => s
 | k + 1, s => passK p k (blkStep p k s)
def pass (p : Pr) (s : Lv) : Lv := passK p p.blks.length ⟨s.li, s.lo, false⟩
/-- all lists of the same length -/
structure LvOk (n R : Nat) (li lo : Tab) : Prop where
 lenI : li.length = n
 lenO : lo.length = n
 ri : ∀ k, k < n → (li.getD k []).length = R
 ro : ∀ k, k < n → (lo.getD k []).length = R
theorem getD_set (t : Tab) (n k : Nat) (l : List Bool) : (t.set n l).getD k [] = if k = n ∧ n < t.length then l else t.getD k [] := by
 simp only [List.getD, List.getElem?_set]
 by_cases e : n = k
 ·subst e
  by_cases h : n < t.length <;> simp [h]
 ·simp [e, Ne.symm e]
theorem joinB_len (a b : List Bool) : (joinB a b).length = a.length := orB_len _ _ _
theorem outK_len (li : Tab) (l : List Bool) (ts : List Int) : (outK li l ts).length = l.length := by
 unfold outK
 induction ts generalizing l with
 | nil => rfl
 | cons t ts ih => rw [List.foldl_cons, ih, joinB_len]
theorem LvOk.setI {n R k : Nat} {li lo : Tab} (h : LvOk n R li lo) {l : List Bool} (hl : l.length = R) : LvOk n R (li.set k l) lo :=
 ⟨by simpa using h.lenI, h.lenO, fun j hj => by rw [getD_set]; split; exact hl; exact h.ri j hj, h.ro⟩
theorem LvOk.setO {n R k : Nat} {li lo : Tab} (h : LvOk n R li lo) {l : List Bool} (hl : l.length = R) : LvOk n R li (lo.set k l) :=
 ⟨h.lenI, by simpa using h.lenO, h.ri, fun j hj => by rw [getD_set]; split; exact hl; exact h.ro j hj⟩
theorem LvOk.step {p : Pr} {n R k : Nat} {s : Lv} (h : LvOk n R s.li s.lo) (hk : k < n) : LvOk n R (blkStep p k s).li (blkStep p k s).lo :=
 (h.setI (by rw [joinB_len]; exact h.ri k hk)).setO (by rw [outK_len]; exact h.ro k hk)
theorem LvOk.passK {p : Pr} {n R : Nat} (k : Nat) : ∀ {s : Lv}, LvOk n R s.li s.lo → k ≤ n → LvOk n R (passK p k s).li (passK p k s).lo := by
 induction k with
 | zero => intro s h _; exact h
 | succ k ih => intro s h hk; exact ih (h.step (by omega)) (by omega)
theorem But.keep {g : Nat} {w w' : World} (h : But g w w') : Keep (fun b => b ≠ g ∧ b < w.heap.size) w w' := fun b o hb => h.cell hb.2 hb.1
/-- how the two tables lie: a row each for each block, no two in one place -/
structure LvMem (W0 : World) (n R : Nat) (vi vo : Value) (gi go : Nat → Nat) (li lo : Tab) (w : World) : Prop where
 below : Below W0.heap.size W0 w
 tabI : TabV w W0.heap.size vi ((List.range n).map fun k => rowV (gi k) R R)
 tabO : TabV w W0.heap.size vo ((List.range n).map fun k => rowV (go k) R R)
 rowI : ∀ k, k < n → RowB w (gi k) R R (li.getD k [])
 rowO : ∀ k, k < n → RowB w (go k) R R (lo.getD k [])
 geI : ∀ k, k < n → W0.heap.size ≤ gi k
 geO : ∀ k, k < n → W0.heap.size ≤ go k
 dI : ∀ j k, j < n → k < n → gi j = gi k → j = k
 dO : ∀ j k, j < n → k < n → go j = go k → j = k
 dX : ∀ j k, j < n → k < n → gi j ≠ go k
section
variable {W0 : World} {n R : Nat} {vi vo : Value} {gi go : Nat → Nat} {li lo : Tab} {w w' : World}
theorem LvMem.grow (h : LvMem W0 n R vi vo gi go li lo w) (hb : Below w.heap.size w w') : LvMem W0 n R vi vo gi go li lo w' :=
 ⟨h.below.trans (hb.mono h.below.size), h.tabI.below hb, h.tabO.below hb, fun k hk => (h.rowI k hk).below hb, fun k hk => (h.rowO k hk).below hb, h.geI, h.geO, h.dI, h.dO, h.dX⟩
theorem RowB.but {g g' n c : Nat} {l : List Bool} (h : RowB w g n c l) (hb : But g' w w') (hg : g ≠ g') : RowB w' g n c l := OwnB.but h hb hg
theorem LvMem.setO (h : LvMem W0 n R vi vo gi go li lo w) {k : Nat} (hk : k < n) {l : List Bool} (hb : But (go k) w w') (hr : RowB w' (go k) R R l) (hlo : lo.length = n) : LvMem W0 n R vi vo gi go li (lo.set k l) w' := by
 refine ⟨h.below.trans (hb.toBelow (h.geO k hk) h.below.size), h.tabI.but hb (tab_ne_row h.tabI (h.rowO k hk)), h.tabO.but hb (tab_ne_row h.tabO (h.rowO k hk)), fun j hj => (h.rowI j hj).but hb (h.dX j k hj hk), fun j hj => ?_, h.geI, h.geO, h.dI, h.dO, h.dX⟩
 rw [getD_set]
 by_cases e : j = k
 ·subst e; rw [if_pos ⟨rfl, by omega⟩]; exact hr
 ·rw [if_neg (fun h => e h.1)]
  exact (h.rowO j hj).but hb fun e' => e (h.dO j k hj hk e')
theorem LvMem.setI (h : LvMem W0 n R vi vo gi go li lo w) {k : Nat} (hk : k < n) {l : List Bool} (hb : But (gi k) w w') (hr : RowB w' (gi k) R R l) (hli : li.length = n) : LvMem W0 n R vi vo gi go (li.set k l) lo w' := by
 refine ⟨h.below.trans (hb.toBelow (h.geI k hk) h.below.size), h.tabI.but hb (tab_ne_row h.tabI (h.rowI k hk)), h.tabO.but hb (tab_ne_row h.tabO (h.rowI k hk)), fun j hj => ?_, fun j hj => (h.rowO j hj).but hb (Ne.symm (h.dX k j hk hj)), h.geI, h.geO, h.dI, h.dO, h.dX⟩
 rw [getD_set]
 by_cases e : j = k
 ·subst e; rw [if_pos ⟨rfl, by omega⟩]; exact hr
 ·rw [if_neg (fun h => e h.1)]
  exact (h.rowI j hj).but hb fun e' => e (h.dI j k hj hk e')
theorem TabV.at {B : Nat} {v : Value} {L : List Value} (h : TabV w B v L) {k : Nat} (hk : k < L.length) : ∃ t cap, v = .slice (some ⟨t, 0, none⟩) L.length cap ∧ L.length ≤ cap ∧ cap ≤ maxLen ∧ ∀ j, j < L.length → w.cell? ⟨t, j, none⟩ = some (L.getD j undef) := by
 obtain ⟨-, ⟨-, h2⟩ | ⟨t, cap, cur, rfl, -, hh, hn, hc, -, ht⟩⟩ := h
 ·omega
 ·refine ⟨t, cap, rfl, hn, hc, fun j hj => ?_⟩
  rw [cell_of_heap hh]
  have h3 : L[j]? = some (L.getD j undef) := by simp [List.getD, hj]
  rw [← ht, List.getElem?_take] at h3
  split at h3
  ·rw [ht] at h3; simpa using h3
  ·cases h3
theorem TabV.len {B : Nat} {v : Value} {L L' : List Value} (h : TabV w B v L) (e : L = L') : TabV w B v L' := e ▸ h
theorem LvMem.other (h : LvMem W0 n R vi vo gi go li lo w) {g nn c : Nat} {l : List Bool} (hr : RowB w g nn c l) (hI : ∀ k, k < n → g ≠ gi k) (hO : ∀ k, k < n → g ≠ go k) (hb : But g w w') (hg : W0.heap.size ≤ g) : LvMem W0 n R vi vo gi go li lo w' :=
 ⟨h.below.trans (hb.toBelow hg h.below.size), h.tabI.but hb (tab_ne_row h.tabI hr), h.tabO.but hb (tab_ne_row h.tabO hr), fun k hk => (h.rowI k hk).but hb (Ne.symm (hI k hk)), fun k hk => (h.rowO k hk).but hb (Ne.symm (hO k hk)), h.geI, h.geO, h.dI, h.dO, h.dX⟩
end
end Go.Proofs.Ytobfpfjdkpaeiaa

set_option linter.all false
namespace Go.Proofs.Ytobfpfjdkpaeiaa
open Go.ChangeShapes Go.WideShapes Go.ChangeAt Go.RowKit
set_option maxHeartbeats 4000000
set_option maxRecDepth 20000

end Go.Proofs.Ytobfpfjdkpaeiaa

set_option linter.all false
namespace Go.Proofs.Ytobfpfjdkpaeiaa
open Go.ChangeShapes Go.WideShapes Go.ChangeAt Go.RowKit

/-- what a walk has gathered: how it stands to each block, those left, and where ends lead back -/
structure S3 where
 st : List Int
 ord : List Int
 back : List (Int × Int)
def S3.enter (s : S3) (n : Int) : S3 := { s with st := s.st.set n.toNat 1 }
def S3.leave (s : S3) (n : Int) : S3 := { s with st := s.st.set n.toNat 2, ord := s.ord ++ [n] }
def S3.loop (s : S3) (n t : Int) : S3 := { s with back := s.back ++ [(n, t)] }
def S3.look (s : S3) (n : Int) : Int := s.st.getD n.toNat 0
def S3.zeros (s : S3) : Nat := s.st.count 0
/-- into a block, on, and out -/
def rI (p : Pr) : Nat → Int → S3 → S3
 | 0, _, s => s
 | f + 1, n, s => ((outsP p n.toNat).foldl (fun s t => if s.look t = 1 then s.loop n t else if s.look t = 0 then rI p f t s else s) (s.enter n)).leave n
/-- one way on -/
def hI (p : Pr) (f : Nat) (n : Int) (s : S3) (t : Int) : S3 := if s.look t = 1 then s.loop n t else if s.look t = 0 then rI p f t s else s
theorem rI_succ (p : Pr) (f : Nat) (n : Int) (s : S3) : rI p (f + 1) n s = ((outsP p n.toNat).foldl (hI p f n) (s.enter n)).leave n := rfl
theorem enter_len (s : S3) (n : Int) : (s.enter n).st.length = s.st.length := by simp [S3.enter]
theorem leave_len (s : S3) (n : Int) : (s.leave n).st.length = s.st.length := by simp [S3.leave]
theorem outsP_mem {p : Pr} {n : Nat} {t : Int} (h : t ∈ outsP p n) : 0 ≤ t ∧ t < p.blks.length := by
 unfold outsP at h
 simpa using (List.mem_filter.1 h).2
theorem rI_len (p : Pr) : ∀ (f : Nat) (n : Int) (s : S3), (rI p f n s).st.length = s.st.length := by
 intro f
 induction f with
 | zero => intro n s; rfl
 | succ f ih =>
  intro n s
  rw [rI_succ, leave_len]
  have : ∀ (l : List Int) (s : S3), (l.foldl (hI p f n) s).st.length = s.st.length := by
   intro l
   induction l with
   | nil => intro s; rfl
   | cons t l ihl =>
    intro s
    rw [List.foldl_cons, ihl]
    unfold hI
    split
    ·rfl
    ·split
     ·exact ih _ _
     ·rfl
  rw [this, enter_len]
theorem hI_len (p : Pr) (f : Nat) (n : Int) (s : S3) (t : Int) : (hI p f n s t).st.length = s.st.length := by
 unfold hI
 split
 ·rfl
 ·split
  ·exact rI_len _ _ _ _
  ·rfl
theorem zeros_set_le (l : List Int) (i : Nat) (x : Int) (hx : x ≠ 0) : (l.set i x).count 0 ≤ l.count 0 := by
 by_cases h : i < l.length
 ·rw [List.count_set h]
  have : (x == (0 : Int)) = false := by simpa using hx
  simp [this]
 ·rw [List.set_eq_of_length_le (by omega)]; exact Nat.le_refl _
theorem zeros_enter_le (s : S3) (n : Int) : (s.enter n).zeros ≤ s.zeros := zeros_set_le _ _ _ (by decide)
theorem zeros_leave_le (s : S3) (n : Int) : (s.leave n).zeros ≤ s.zeros := zeros_set_le _ _ _ (by decide)
theorem zeros_enter (s : S3) (n : Int) (h : n.toNat < s.st.length) (h0 : s.look n = 0) : (s.enter n).zeros + 1 = s.zeros := by
 unfold S3.zeros S3.enter
 have h1 : s.st[n.toNat] = 0 := by simpa [S3.look, List.getD, h] using h0
 have h2 : 0 < s.st.count 0 := List.count_pos_iff.2 (h1 ▸ List.getElem_mem h)
 simp only
 rw [List.count_set h]
 simp [h1]
 omega
theorem hI_zeros_of (p : Pr) (f : Nat) (ih : ∀ n s, (rI p f n s).zeros ≤ s.zeros) (n : Int) (s : S3) (t : Int) : (hI p f n s t).zeros ≤ s.zeros := by
 unfold hI
 split
 ·exact Nat.le_refl _
 ·split
  ·exact ih _ _
  ·exact Nat.le_refl _
theorem foldl_zeros_of (p : Pr) (f : Nat) (ih : ∀ n s, (rI p f n s).zeros ≤ s.zeros) (n : Int) : ∀ (l : List Int) (s : S3), (l.foldl (hI p f n) s).zeros ≤ s.zeros
 | [], _ => Nat.le_refl _
 | t :: l, s => Nat.le_trans (foldl_zeros_of p f ih n l _) (hI_zeros_of p f ih n s t)
theorem rI_zeros (p : Pr) : ∀ (f : Nat) (n : Int) (s : S3), (rI p f n s).zeros ≤ s.zeros
 | 0, _, _ => Nat.le_refl _
 | f + 1, n, s => by
  rw [rI_succ]
  exact Nat.le_trans (zeros_leave_le _ _) (Nat.le_trans (foldl_zeros_of p f (rI_zeros p f) n _ _) (zeros_enter_le _ _))
theorem hI_zeros (p : Pr) (f : Nat) (n : Int) (s : S3) (t : Int) : (hI p f n s t).zeros ≤ s.zeros := hI_zeros_of p f (rI_zeros p f) n s t
/-- with as many steps as there are blocks not seen, more steps make no difference -/
theorem rI_fuel (p : Pr) : ∀ (f : Nat) (n : Int) (s : S3), s.st.length = p.blks.length → n.toNat < p.blks.length → s.look n = 0 → s.zeros ≤ f → rI p (f + 1) n s = rI p f n s := by
 intro f
 induction f with
 | zero => intro n s hl hn h0 hz; have := zeros_enter s n (by omega) h0; omega
 | succ f ih =>
  intro n s hl hn h0 hz
  rw [rI_succ p (f + 1), rI_succ p f]
  congr 1
  have hz1 := zeros_enter s n (by omega) h0
  have key : ∀ (l : List Int) (s : S3), (∀ t ∈ l, 0 ≤ t ∧ t < p.blks.length) → s.st.length = p.blks.length → s.zeros ≤ f → l.foldl (hI p (f + 1) n) s = l.foldl (hI p f n) s := by
   intro l
   induction l with
   | nil => intro s _ _ _; rfl
   | cons t l ihl =>
    intro s hin hsl hsz
    have ht := hin t (List.mem_cons_self)
    rw [List.foldl_cons, List.foldl_cons]
    have e : hI p (f + 1) n s t = hI p f n s t := by
     unfold hI
     split
     ·rfl
     ·split
      ·exact ih t s hsl (by omega) ‹_› hsz
      ·rfl
    rw [e]
    exact ihl _ (fun x hx => hin x (List.mem_cons_of_mem _ hx)) (by rw [hI_len]; exact hsl) (Nat.le_trans (hI_zeros _ _ _ _ _) hsz)
  exact key _ _ (fun t ht => outsP_mem ht) (by rw [enter_len]; exact hl) (by omega)

/-- where a walk stands: a block, the ways on that are left, and how these lie in memory -/
structure Kt where
 n : Int
 l : List Int
 v : Value
def gK (p : Pr) (f : Nat) (k : Kt) (s : S3) : S3 := (k.l.foldl (hI p f k.n) s).leave k.n
/-- what comes of a stack -/
def contD (p : Pr) (f : Nat) (S : List Kt) (s : S3) : S3 := S.foldr (gK p f) s
theorem contD_leave (p : Pr) (f : Nat) (S : List Kt) (n : Int) (v : Value) (s : S3) : contD p f (S ++ [⟨n, [], v⟩]) s = contD p f S (s.leave n) := by
 unfold contD; rw [List.foldr_append]; rfl
theorem contD_step (p : Pr) (f : Nat) (S : List Kt) (n t : Int) (l : List Int) (v v' : Value) (s : S3) : contD p f (S ++ [⟨n, t :: l, v⟩]) s = contD p f (S ++ [⟨n, l, v'⟩]) (hI p f n s t) := by
 unfold contD; rw [List.foldr_append, List.foldr_append]; rfl
theorem contD_push (p : Pr) (f : Nat) (S : List Kt) (t : Int) (v : Value) (s : S3) (hl : s.st.length = p.blks.length) (hn : t.toNat < p.blks.length) (h0 : s.look t = 0) (hz : s.zeros ≤ f) : contD p f S (rI p f t s) = contD p f (S ++ [⟨t, outsP p t.toNat, v⟩]) (s.enter t) := by
 unfold contD
 rw [List.foldr_append, ← rI_fuel p f t s hl hn h0 hz, rI_succ]
 rfl
/-- how much there is left to do -/
def todo (S : List Kt) (s : S3) : Nat := (S.map fun k => k.l.length + 1).sum + 4 * s.zeros
theorem todo_leave (S : List Kt) (n : Int) (v : Value) (s : S3) : todo S (s.leave n) < todo (S ++ [⟨n, [], v⟩]) s := by
 have := zeros_leave_le s n
 unfold todo
 simp
 omega
theorem todo_old (S : List Kt) (n t : Int) (l : List Int) (v v' : Value) (s s' : S3) (h : s'.zeros = s.zeros) : todo (S ++ [⟨n, l, v'⟩]) s' < todo (S ++ [⟨n, t :: l, v⟩]) s := by
 unfold todo
 simp
 omega
theorem outsP_len (p : Pr) (n : Nat) : (outsP p n).length ≤ 2 := Nat.le_trans (List.length_filter_le _ _) (outsB_len _)
theorem todo_new (p : Pr) (S : List Kt) (n t : Int) (l : List Int) (v v' v2 : Value) (s : S3) (hn : t.toNat < s.st.length) (h0 : s.look t = 0) : todo (S ++ [⟨n, l, v'⟩] ++ [⟨t, outsP p t.toNat, v2⟩]) (s.enter t) < todo (S ++ [⟨n, t :: l, v⟩]) s := by
 have := zeros_enter s t hn h0
 have := outsP_len p t.toNat
 unfold todo
 simp
 omega
end Go.Proofs.Ytobfpfjdkpaeiaa
