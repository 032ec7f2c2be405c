/-
 The marking of live registers as plain lists, and how its tables lie in memory.
-/
import Derived.Test.YtchoiankeohonaaGreatDoorZInlineAll27
set_option linter.all false
namespace Go.Proofs.YtchoiankeohonaaGreatDoor
open Go.ChangeShapes Go.WideShapes Go.ChangeAt Go.RowKit
set_option maxHeartbeats 1000000
set_option maxRecDepth 20000

abbrev Tab := List (List Bool)
def regsN (p : Pr) : Nat := p.regs.toNat
def tab0 (p : Pr) : Tab := List.replicate p.blks.length (List.replicate (regsN p) false)
/-- what the ends of the first k blocks read -/
def tabE (p : Pr) (k : Nat) : Tab := (List.range p.blks.length).map fun i => if i < k then endedB (List.replicate (regsN p) false) (p.blks.getD i default) else List.replicate (regsN p) false
/-- behind a block's instructions: what is live at the starts of those to which it leads, joined for the first k of them -/
def outK (li : Tab) (l : List Bool) (ts : List Int) : List Bool := ts.foldl (fun l t => joinB l (li.getD t.toNat [])) l
/-- ahead of instructions, from the last one back, so many of them -/
def backK (l : List Bool) (is : List In) : List Bool := is.foldr (fun i l => beforeB l i) l
structure Lv where
 li : Tab
 lo : Tab
 grew : Bool
def blkStep (p : Pr) (n : Nat) (s : Lv) : Lv :=
 let o := outK s.li (s.lo.getD n []) (outsP p n)
 let l := backK o (p.blks.getD n default).ins
 ⟨s.li.set n (joinB (s.li.getD n []) l), s.lo.set n o, grewB (s.li.getD n []) l (s.li.getD n []).length || s.grew⟩
/-- the blocks from k - 1 down to 0 -/
def passK (p : Pr) : Nat → Lv → Lv
 | 0, s => s
 | k + 1, s => passK p k (blkStep p k s)
def pass (p : Pr) (s : Lv) : Lv := passK p p.blks.length ⟨s.li, s.lo, false⟩
def lvN (p : Pr) : Nat → Lv
 | 0 => ⟨tab0 p, tabE p p.blks.length, true⟩
 | k + 1 => pass p (lvN p k)
/-- all lists of the same length -/
structure LvOk (n R : Nat) (li lo : Tab) : Prop where
 lenI : li.length = n
 lenO : lo.length = n
 ri : ∀ k, k < n → (li.getD k []).length = R
 ro : ∀ k, k < n → (lo.getD k []).length = R
theorem getD_set (t : Tab) (n k : Nat) (l : List Bool) : (t.set n l).getD k [] = if k = n ∧ n < t.length then l else t.getD k [] := by
 simp only [List.getD, List.getElem?_set]
 by_cases e : n = k
 ·subst e
  by_cases h : n < t.length <;> simp [h]
 ·simp [e, Ne.symm e]
theorem joinB_len (a b : List Bool) : (joinB a b).length = a.length := orB_len _ _ _
theorem outK_len (li : Tab) (l : List Bool) (ts : List Int) : (outK li l ts).length = l.length := by
 unfold outK
 induction ts generalizing l with
 | nil => rfl
 | cons t ts ih => rw [List.foldl_cons, ih, joinB_len]
theorem backK_len (l : List Bool) (is : List In) : (backK l is).length = l.length := by
 unfold backK
 induction is with
 | nil => rfl
 | cons i is ih => rw [List.foldr_cons, beforeB_len, ih]
theorem endedB_len (l : List Bool) (b : Bk) : (endedB l b).length = l.length := by unfold endedB; split <;> simp [setB_len]
theorem LvOk.setI {n R k : Nat} {li lo : Tab} (h : LvOk n R li lo) {l : List Bool} (hl : l.length = R) : LvOk n R (li.set k l) lo :=
 ⟨by simpa using h.lenI, h.lenO, fun j hj => by rw [getD_set]; split; exact hl; exact h.ri j hj, h.ro⟩
theorem LvOk.setO {n R k : Nat} {li lo : Tab} (h : LvOk n R li lo) {l : List Bool} (hl : l.length = R) : LvOk n R li (lo.set k l) :=
 ⟨h.lenI, by simpa using h.lenO, h.ri, fun j hj => by rw [getD_set]; split; exact hl; exact h.ro j hj⟩
theorem LvOk.step {p : Pr} {n R k : Nat} {s : Lv} (h : LvOk n R s.li s.lo) (hk : k < n) : LvOk n R (blkStep p k s).li (blkStep p k s).lo :=
 (h.setI (by rw [joinB_len]; exact h.ri k hk)).setO (by rw [outK_len]; exact h.ro k hk)
theorem LvOk.passK {p : Pr} {n R : Nat} (k : Nat) : ∀ {s : Lv}, LvOk n R s.li s.lo → k ≤ n → LvOk n R (passK p k s).li (passK p k s).lo := by
 induction k with
 | zero => intro s h _; exact h
 | succ k ih => intro s h hk; exact ih (h.step (by omega)) (by omega)
theorem tab0_ok (p : Pr) : LvOk p.blks.length (regsN p) (tab0 p) (tabE p p.blks.length) := by
 refine ⟨by simp [tab0], by simp [tabE], fun k hk => by simp [tab0, List.getD, List.getElem?_replicate, hk], fun k hk => ?_⟩
 simp [tabE, List.getD, hk, endedB_len]
theorem lvN_ok (p : Pr) (k : Nat) : LvOk p.blks.length (regsN p) (lvN p k).li (lvN p k).lo := by
 induction k with
 | zero => exact tab0_ok p
 | succ k ih => exact LvOk.passK (s := ⟨(lvN p k).li, (lvN p k).lo, false⟩) _ ih (Nat.le_refl _)

theorem tabE_0 (p : Pr) : tabE p 0 = tab0 p := by
 unfold tabE tab0
 apply List.ext_getElem
 ·simp
 ·intro i h1 h2
  simp
theorem tabE_len (p : Pr) (k : Nat) : (tabE p k).length = p.blks.length := by simp [tabE]
theorem tabE_get (p : Pr) (k : Nat) (h : k < p.blks.length) : (tabE p k).getD k [] = List.replicate (regsN p) false := by simp [tabE, List.getD, h]
theorem tabE_succ (p : Pr) (k : Nat) (h : k < p.blks.length) : tabE p (k + 1) = (tabE p k).set k (endedB (List.replicate (regsN p) false) (p.blks.getD k default)) := by
 apply List.ext_getElem
 ·simp [tabE]
 ·intro i h1 h2
  simp only [tabE, List.getElem_map, List.getElem_range, List.getElem_set]
  by_cases e : k = i
  ·subst e; simp
  ·rw [if_neg e]
   by_cases hi : i < k
   ·rw [if_pos (by omega), if_pos hi]
   ·rw [if_neg (by omega), if_neg hi]
theorem But.keep {g : Nat} {w w' : World} (h : But g w w') : Keep (fun b => b ≠ g ∧ b < w.heap.size) w w' := fun b o hb => h.cell hb.2 hb.1
theorem outK_succ (li : Tab) (l : List Bool) (ts : List Int) (k : Nat) (h : k < ts.length) : outK li l (ts.take (k + 1)) = joinB (outK li l (ts.take k)) (li.getD (ts.getD k 0).toNat []) := by
 unfold outK; rw [take_snoc ts k h, List.foldl_append]; rfl
theorem backK_cons (l : List Bool) (is : List In) (k : Nat) (h : k < is.length) : backK l (is.drop k) = beforeB (backK l (is.drop (k + 1))) (is.getD k default) := by
 rw [drop_cons is k h]; rfl
theorem outsP_in (p : Pr) (n k : Nat) (h : k < (outsP p n).length) : 0 ≤ (outsP p n).getD k 0 ∧ (outsP p n).getD k 0 < p.blks.length := by
 have : (outsP p n).getD k 0 ∈ outsP p n := by simp [List.getD, h]
 have h2 := (List.mem_filter.1 this).2
 simpa using h2
/-- so many do not hold -/
def fcL (l : List Bool) : Nat := l.count false
def fc (t : Tab) : Nat := (t.map fcL).sum
theorem fcL_join (a b : List Bool) : fcL (joinB a b) ≤ fcL a ∧ (grewB a b a.length = true → fcL (joinB a b) < fcL a) := by
 have key : ∀ (m : Nat), m ≤ a.length → fcL ((joinB a b).take m) ≤ fcL (a.take m) ∧ (grewB a b m = true → fcL ((joinB a b).take m) < fcL (a.take m)) := by
  intro m
  induction m with
  | zero => intro _; exact ⟨by simp [fcL], by simp [grewB]⟩
  | succ m ih =>
   intro hm
   obtain ⟨i1, i2⟩ := ih (by omega)
   have hj : m < (joinB a b).length := by rw [joinB_len]; omega
   have e1 : (joinB a b).take (m + 1) = (joinB a b).take m ++ [(joinB a b).getD m false] := by rw [List.take_succ_eq_append_getElem hj]; simp [List.getD, hj]
   have e2 : a.take (m + 1) = a.take m ++ [a.getD m false] := by rw [List.take_succ_eq_append_getElem (by omega)]; simp [List.getD, show m < a.length by omega]
   have e3 : (joinB a b).getD m false = (a.getD m false || b.getD m false) := by
    unfold joinB; rw [orB_get _ _ _ _ (by omega), show decide (m < a.length) = true from decide_eq_true (by omega), Bool.true_and]
   rw [e1, e2, e3, grewB_succ]
   unfold fcL at *
   simp only [List.count_append, List.count_singleton]
   cases a.getD m false <;> cases b.getD m false <;> simp <;> first | (refine ⟨by omega, fun h => ?_⟩; have := i2 h; omega) | omega
 have := key a.length (Nat.le_refl _)
 rwa [List.take_of_length_le (by rw [joinB_len]; omega), List.take_of_length_le (Nat.le_refl _)] at this
theorem fc_set (t : Tab) (k : Nat) (l : List Bool) (h : k < t.length) : fc (t.set k l) + fcL (t.getD k []) = fc t + fcL l := by
 unfold fc
 induction t generalizing k with
 | nil => simp at h
 | cons a t ih =>
  cases k with
  | zero => simp [List.getD]; omega
  | succ k =>
   have := ih k (by simpa using h)
   simp [List.getD] at this ⊢
   omega
theorem fc_step (p : Pr) (n : Nat) (s : Lv) (h : n < s.li.length) : fc (blkStep p n s).li ≤ fc s.li ∧ ((blkStep p n s).grew = true → s.grew = true ∨ fc (blkStep p n s).li < fc s.li) := by
 have e := fc_set s.li n (joinB (s.li.getD n []) (backK (outK s.li (s.lo.getD n []) (outsP p n)) (p.blks.getD n default).ins)) h
 obtain ⟨h1, h2⟩ := fcL_join (s.li.getD n []) (backK (outK s.li (s.lo.getD n []) (outsP p n)) (p.blks.getD n default).ins)
 refine ⟨by show fc (s.li.set _ _) ≤ _; omega, fun hg => ?_⟩
 have hg' : (grewB (s.li.getD n []) (backK (outK s.li (s.lo.getD n []) (outsP p n)) (p.blks.getD n default).ins) (s.li.getD n []).length || s.grew) = true := hg
 rw [Bool.or_eq_true] at hg'
 rcases hg' with hg' | hg'
 ·right; have := h2 hg'; show fc (s.li.set _ _) < _; omega
 ·exact .inl hg'
theorem fc_passK (p : Pr) (k : Nat) : ∀ (s : Lv), k ≤ s.li.length → fc (passK p k s).li ≤ fc s.li ∧ ((passK p k s).grew = true → s.grew = true ∨ fc (passK p k s).li < fc s.li) := by
 induction k with
 | zero => intro s _; exact ⟨Nat.le_refl _, fun h => .inl h⟩
 | succ k ih =>
  intro s hk
  obtain ⟨a1, a2⟩ := fc_step p k s (by omega)
  obtain ⟨b1, b2⟩ := ih (blkStep p k s) (by show _ ≤ (s.li.set _ _).length; simp; omega)
  refine ⟨Nat.le_trans b1 a1, fun h => ?_⟩
  show s.grew = true ∨ fc (passK p k (blkStep p k s)).li < _
  rcases b2 h with b | b
  ·rcases a2 b with a | a
   ·exact .inl a
   ·right; omega
  ·right; omega
theorem fc_pass (p : Pr) (s : Lv) (h : s.li.length = p.blks.length) (hg : (pass p s).grew = true) : fc (pass p s).li < fc s.li := by
 rcases (fc_passK p p.blks.length ⟨s.li, s.lo, false⟩ (by simp [h])).2 hg with h | h
 ·simp at h
 ·exact h
/-- how the two tables lie: a row each for each block, no two in one place -/
structure LvMem (W0 : World) (n R : Nat) (vi vo : Value) (gi go : Nat → Nat) (li lo : Tab) (w : World) : Prop where
 below : Below W0.heap.size W0 w
 tabI : TabV w W0.heap.size vi ((List.range n).map fun k => rowV (gi k) R R)
 tabO : TabV w W0.heap.size vo ((List.range n).map fun k => rowV (go k) R R)
 rowI : ∀ k, k < n → RowB w (gi k) R R (li.getD k [])
 rowO : ∀ k, k < n → RowB w (go k) R R (lo.getD k [])
 geI : ∀ k, k < n → W0.heap.size ≤ gi k
 geO : ∀ k, k < n → W0.heap.size ≤ go k
 dI : ∀ j k, j < n → k < n → gi j = gi k → j = k
 dO : ∀ j k, j < n → k < n → go j = go k → j = k
 dX : ∀ j k, j < n → k < n → gi j ≠ go k
section
variable {W0 : World} {n R : Nat} {vi vo : Value} {gi go : Nat → Nat} {li lo : Tab} {w w' : World}
theorem LvMem.grow (h : LvMem W0 n R vi vo gi go li lo w) (hb : Below w.heap.size w w') : LvMem W0 n R vi vo gi go li lo w' :=
 ⟨h.below.trans (hb.mono h.below.size), h.tabI.below hb, h.tabO.below hb, fun k hk => (h.rowI k hk).below hb, fun k hk => (h.rowO k hk).below hb, h.geI, h.geO, h.dI, h.dO, h.dX⟩
theorem RowB.but {g g' n c : Nat} {l : List Bool} (h : RowB w g n c l) (hb : But g' w w') (hg : g ≠ g') : RowB w' g n c l := OwnB.but h hb hg
theorem LvMem.setO (h : LvMem W0 n R vi vo gi go li lo w) {k : Nat} (hk : k < n) {l : List Bool} (hb : But (go k) w w') (hr : RowB w' (go k) R R l) (hlo : lo.length = n) : LvMem W0 n R vi vo gi go li (lo.set k l) w' := by
 refine ⟨h.below.trans (hb.toBelow (h.geO k hk) h.below.size), h.tabI.but hb (tab_ne_row h.tabI (h.rowO k hk)), h.tabO.but hb (tab_ne_row h.tabO (h.rowO k hk)), fun j hj => (h.rowI j hj).but hb (h.dX j k hj hk), fun j hj => ?_, h.geI, h.geO, h.dI, h.dO, h.dX⟩
 rw [getD_set]
 by_cases e : j = k
 ·subst e; rw [if_pos ⟨rfl, by omega⟩]; exact hr
 ·rw [if_neg (fun h => e h.1)]
  exact (h.rowO j hj).but hb fun e' => e (h.dO j k hj hk e')
theorem LvMem.setI (h : LvMem W0 n R vi vo gi go li lo w) {k : Nat} (hk : k < n) {l : List Bool} (hb : But (gi k) w w') (hr : RowB w' (gi k) R R l) (hli : li.length = n) : LvMem W0 n R vi vo gi go (li.set k l) lo w' := by
 refine ⟨h.below.trans (hb.toBelow (h.geI k hk) h.below.size), h.tabI.but hb (tab_ne_row h.tabI (h.rowI k hk)), h.tabO.but hb (tab_ne_row h.tabO (h.rowI k hk)), fun j hj => ?_, fun j hj => (h.rowO j hj).but hb (Ne.symm (h.dX k j hk hj)), h.geI, h.geO, h.dI, h.dO, h.dX⟩
 rw [getD_set]
 by_cases e : j = k
 ·subst e; rw [if_pos ⟨rfl, by omega⟩]; exact hr
 ·rw [if_neg (fun h => e h.1)]
  exact (h.rowI j hj).but hb fun e' => e (h.dI j k hj hk e')
theorem TabV.at {B : Nat} {v : Value} {L : List Value} (h : TabV w B v L) {k : Nat} (hk : k < L.length) : ∃ t cap, v = .slice (some ⟨t, 0, none⟩) L.length cap ∧ L.length ≤ cap ∧ cap ≤ maxLen ∧ ∀ j, j < L.length → w.cell? ⟨t, j, none⟩ = some (L.getD j undef) := by
 obtain ⟨-, ⟨-, h2⟩ | ⟨t, cap, cur, rfl, -, hh, hn, hc, -, ht⟩⟩ := h
 ·omega
 ·refine ⟨t, cap, rfl, hn, hc, fun j hj => ?_⟩
  rw [cell_of_heap hh]
  have h3 : L[j]? = some (L.getD j undef) := by simp [List.getD, hj]
  rw [← ht, List.getElem?_take] at h3
  split at h3
  ·rw [ht] at h3; simpa using h3
  ·cases h3
theorem LvMem.atI (h : LvMem W0 n R vi vo gi go li lo w) {k : Nat} (hk : k < n) : ∃ t cap, vi = .slice (some ⟨t, 0, none⟩) n cap ∧ n ≤ cap ∧ cap ≤ maxLen ∧ ∀ j, j < n → w.cell? ⟨t, j, none⟩ = some (rowV (gi j) R R) := by
 obtain ⟨t, cap, e, h1, h2, h3⟩ := h.tabI.at (k := k) (by simpa using hk)
 refine ⟨t, cap, by simpa using e, by simpa using h1, h2, fun j hj => ?_⟩
 rw [h3 j (by simpa using hj)]
 simp [List.getD, hj]
theorem LvMem.atO (h : LvMem W0 n R vi vo gi go li lo w) {k : Nat} (hk : k < n) : ∃ t cap, vo = .slice (some ⟨t, 0, none⟩) n cap ∧ n ≤ cap ∧ cap ≤ maxLen ∧ ∀ j, j < n → w.cell? ⟨t, j, none⟩ = some (rowV (go j) R R) := by
 obtain ⟨t, cap, e, h1, h2, h3⟩ := h.tabO.at (k := k) (by simpa using hk)
 refine ⟨t, cap, by simpa using e, by simpa using h1, h2, fun j hj => ?_⟩
 rw [h3 j (by simpa using hj)]
 simp [List.getD, hj]
theorem TabV.len {B : Nat} {v : Value} {L L' : List Value} (h : TabV w B v L) (e : L = L') : TabV w B v L' := e ▸ h
theorem LvMem.push {k : Nat} {t : List Bool} {vi' vo' : Value} {gA gB : Nat} (h : LvMem W0 k R vi vo gi go (List.replicate k t) (List.replicate k t) w)
  (e : TwoEnd w W0.heap.size vi vo ((List.range k).map fun k => rowV (gi k) R R) ((List.range k).map fun k => rowV (go k) R R) R w' vi' vo' gA gB) (ht : t = List.replicate R false) :
  LvMem W0 (k + 1) R vi' vo' (fun j => if j = k then gA else gi j) (fun j => if j = k then gB else go j) (List.replicate (k + 1) t) (List.replicate (k + 1) t) w' := by
 have hlI : ∀ j, j < k → gi j < w.heap.size := fun j hj => (OwnB.cellAt (h.rowI j hj)).2.2.2.2.2.2
 have hlO : ∀ j, j < k → go j < w.heap.size := fun j hj => (OwnB.cellAt (h.rowO j hj)).2.2.2.2.2.2
 have keep : ∀ {g : Nat} {l : List Bool}, RowB w g R R l → RowB w' g R R l := fun {g l} hr => by
  have hg := (OwnB.cellAt hr).2.2.2.2.2.2
  have hb := e.block g hg (fun e' => tab_ne_row h.tabI hr e'.symm) (fun e' => tab_ne_row h.tabO hr e'.symm)
  obtain ⟨h1, h2 | ⟨g', cap, cur, h3, h4, h5, r⟩⟩ := hr
  ·exact ⟨h1, .inl h2⟩
  ·simp only [Value.slice.injEq, Option.some.injEq, Addr.mk.injEq] at h3
   exact ⟨h1, .inr ⟨g', cap, cur, by rw [h3.1.1, ← h3.2.1, ← h3.2.2], h4, by rw [← h3.1.1, hb, h3.1.1]; exact h5, r⟩⟩
 have hrep : ∀ j, j < k → (List.replicate k t).getD j [] = (List.replicate (k + 1) t).getD j [] := fun j hj => by
  simp [List.getD, List.getElem?_replicate, hj, show j < k + 1 by omega]
 have hrk : (List.replicate (k + 1) t).getD k [] = t := by simp [List.getD, List.getElem?_replicate]
 have hmap : ∀ (g : Nat → Nat) (x : Nat), (List.range (k + 1)).map (fun j => rowV (if j = k then x else g j) R R) = ((List.range k).map fun j => rowV (g j) R R) ++ [rowV x R R] := fun g x => by
  rw [List.range_succ, List.map_append]
  congr 1
  ·refine List.map_congr_left fun j hj => ?_
   rw [if_neg (by have := List.mem_range.1 hj; omega)]
  ·simp
 have hbel : Below W0.heap.size w w' := ⟨e.os, e.tape, e.output, e.size, fun b hb => e.block b (Nat.lt_of_lt_of_le hb h.below.size) (fun e' => by
   obtain ⟨-, ⟨rfl, -⟩ | ⟨g, cap, cur, rfl, hg, -⟩⟩ := h.tabI
   ·simp [Value.ownBlock] at e'
   ·simp [Value.ownBlock] at e'; omega) (fun e' => by
   obtain ⟨-, ⟨rfl, -⟩ | ⟨g, cap, cur, rfl, hg, -⟩⟩ := h.tabO
   ·simp [Value.ownBlock] at e'
   ·simp [Value.ownBlock] at e'; omega)⟩
 have hs := h.below.size
 refine ⟨h.below.trans hbel, e.tabI.len (hmap gi gA).symm, e.tabO.len (hmap go gB).symm, fun j hj => ?_, fun j hj => ?_, fun j hj => ?_, fun j hj => ?_, fun i j hi hj => ?_, fun i j hi hj => ?_, fun i j hi hj => ?_⟩
 ·by_cases hjk : j = k
  ·subst hjk; simp only [if_true]; rw [hrk, ht]; exact e.rowA
  ·simp only [if_neg hjk]; rw [← hrep j (by omega)]; exact keep (h.rowI j (by omega))
 ·by_cases hjk : j = k
  ·subst hjk; simp only [if_true]; rw [hrk, ht]; exact e.rowB
  ·simp only [if_neg hjk]; rw [← hrep j (by omega)]; exact keep (h.rowO j (by omega))
 ·have := e.geA
  by_cases hjk : j = k
  ·simp only [hjk, if_true]; omega
  ·simp only [if_neg hjk]; exact h.geI j (by omega)
 ·have := e.geB
  by_cases hjk : j = k
  ·simp only [hjk, if_true]; omega
  ·simp only [if_neg hjk]; exact h.geO j (by omega)
 ·have := e.geA
  by_cases hik : i = k <;> by_cases hjk : j = k <;> simp only [hik, hjk, if_true, if_false]
  ·intro _; trivial
  ·intro e'; have := hlI j (by omega); omega
  ·intro e'; have := hlI i (by omega); omega
  ·exact h.dI i j (by omega) (by omega)
 ·have := e.geB
  by_cases hik : i = k <;> by_cases hjk : j = k <;> simp only [hik, hjk, if_true, if_false]
  ·intro _; trivial
  ·intro e'; have := hlO j (by omega); omega
  ·intro e'; have := hlO i (by omega); omega
  ·exact h.dO i j (by omega) (by omega)
 ·have h1 := e.geA
  have h2 := e.geB
  by_cases hik : i = k <;> by_cases hjk : j = k <;> simp only [hik, hjk, if_true, if_false]
  ·exact e.ne
  ·have := hlO j (by omega); omega
  ·have := hlI i (by omega); omega
  ·exact h.dX i j (by omega) (by omega)
theorem LvMem.other (h : LvMem W0 n R vi vo gi go li lo w) {g nn c : Nat} {l : List Bool} (hr : RowB w g nn c l) (hI : ∀ k, k < n → g ≠ gi k) (hO : ∀ k, k < n → g ≠ go k) (hb : But g w w') (hg : W0.heap.size ≤ g) : LvMem W0 n R vi vo gi go li lo w' :=
 ⟨h.below.trans (hb.toBelow hg h.below.size), h.tabI.but hb (tab_ne_row h.tabI hr), h.tabO.but hb (tab_ne_row h.tabO hr), fun k hk => (h.rowI k hk).but hb (Ne.symm (hI k hk)), fun k hk => (h.rowO k hk).but hb (Ne.symm (hO k hk)), h.geI, h.geO, h.dI, h.dO, h.dX⟩
theorem TabV.base {B B' : Nat} {v : Value} {L : List Value} (h : TabV w B v L) (hB : B' ≤ B) : TabV w B' v L := by
 obtain ⟨h1, h2 | ⟨g, cap, cur, h3, hb, r⟩⟩ := h
 ·exact ⟨h1, .inl h2⟩
 ·exact ⟨h1, .inr ⟨g, cap, cur, h3, Nat.le_trans hB hb, r⟩⟩
theorem LvMem.base {w0 : World} (h : LvMem W0 n R vi vo gi go li lo w) (hb : Below w0.heap.size w0 W0) : LvMem w0 n R vi vo gi go li lo w :=
 ⟨hb.trans (h.below.mono hb.size), h.tabI.base hb.size, h.tabO.base hb.size, h.rowI, h.rowO, fun k hk => Nat.le_trans hb.size (h.geI k hk), fun k hk => Nat.le_trans hb.size (h.geO k hk), h.dI, h.dO, h.dX⟩
end
end Go.Proofs.YtchoiankeohonaaGreatDoor
